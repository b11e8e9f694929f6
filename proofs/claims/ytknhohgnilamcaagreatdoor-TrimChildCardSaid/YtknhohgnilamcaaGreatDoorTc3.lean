/-
  TrimChild: what its tests hold against one another, in numbers.
-/
import Derived.Test.YtknhohgnilamcaaGreatDoorTc2
namespace Go.Proofs.YtknhohgnilamcaaGreatDoor.Ir
set_option linter.unusedVariables false
set_option linter.unusedSimpArgs false
set_option maxRecDepth 100000
open Go Go.Proofs.YtknhohgnilamcaaGreatDoor
noncomputable def runT (bits : List Bool) (a b c : Int) : Option (V × List (Bool × Bool) × List (V × V)) := Hot.resO (Hot.runO [p4] [p87] machC 300 p4 [.int .i64 a, .int .i64 b, .int .i64 c] sg0 ⟨bits, [], []⟩)
noncomputable def vvT (r : Option (V × List (Bool × Bool) × List (V × V))) : List (V × V) := match r with | some (_, _, l) => l | none => []
noncomputable def dgT (l : List (V × V)) : List (V × V) := lmap (fun x => (x.1, x.1)) l
theorem dgT_eq (l : List (V × V)) : ∀ x ∈ dgT l, x.1 = x.2 := by
  unfold dgT
  rw [lmap_eq]
  intro x hx
  obtain ⟨y, _, rfl⟩ := List.mem_map.1 hx
  rfl
def nF (a : Int) : Nat := Int.toNat (Int.emod a (.ofNat 100))
def nC (b : Int) : Nat := Int.toNat (Int.emod b (.ofNat 1000))
def nO (c : Int) : Nat := Int.toNat (Int.emod c (.ofNat 500))
def pl (s f : Nat) : Nat := Nat.mod (Nat.add s (Nat.mod (Nat.mul 1 (Nat.mod f 18446744073709551616)) 18446744073709551616)) 18446744073709551616
theorem pl_eq {s f : Nat} (h : s + f < 1000000) : pl s f = s + f := by
  show (s + (1 * (f % 18446744073709551616)) % 18446744073709551616) % 18446744073709551616 = s + f
  omega
noncomputable def be1 (a b : Int) : Bool := blw true (pl 0 (nC b)) 91 (pl (pl 0 (nF a)) (nC b)) 182
noncomputable def be2a (a b c : Int) : Bool := blw true (pl 0 (nO c)) 91 (pl (pl 0 (nF a)) (nC b)) 182
noncomputable def be2b (b c : Int) : Bool := blw true (pl 0 (nO c)) 91 (pl 0 (nC b)) 91
noncomputable def xx (a b : Int) : Int := wrapQ .i64 (iaddQ (.ofNat (nF a)) (.ofNat (nC b)))
noncomputable def two (n : Nat) : Int := wrapQ .i64 (Int.mul (.ofNat 2) (.ofNat n))
noncomputable def ta (a b c : Int) : Bool := iltQ (two (nO c)) (xx a b)
noncomputable def tb (b c : Int) : Bool := iltQ (.ofNat (nO c)) (.ofNat (nC b))
noncomputable def tc (a b c : Int) : Bool := iltQ (xx a b) (two (nO c))
noncomputable def td (a b : Int) : Bool := iltQ (xx a b) (two (nC b))
noncomputable def te (b c : Int) : Bool := iltQ (.ofNat (nC b)) (.ofNat (nO c))
noncomputable def tf (a b : Int) : Bool := iltQ (two (nC b)) (xx a b)
theorem em_lt (n : Int) (k : Nat) (hk : 0 < k) : Int.toNat (Int.emod n (.ofNat k)) < k := by
  have h1 := Int.emod_nonneg n (show (k : Int) ≠ 0 by omega)
  have h2 := Int.emod_lt_of_pos n (show (0 : Int) < k by omega)
  show (n % (k : Int)).toNat < k
  omega
theorem F_lt (a : Int) : nF a < 100 := em_lt a 100 (by decide)
theorem C_lt (b : Int) : nC b < 1000 := em_lt b 1000 (by decide)
theorem O_lt (c : Int) : nO c < 500 := em_lt c 500 (by decide)
theorem wr_small {n : Nat} (h : n < 1000000) : wrapQ .i64 (.ofNat n) = .ofNat n := by
  rw [wrapQ_eq]
  show ws 18446744073709551616 9223372036854775808 (.ofNat n) = _
  have e : Nat.mod n 18446744073709551616 = n := Nat.mod_eq_of_lt (show n < 18446744073709551616 by omega)
  unfold ws
  simp only [e]
  have e2 : Nat.blt n 9223372036854775808 = true := by rw [blt_eq]; simp; omega
  rw [e2]
theorem two_eq {n : Nat} (h : n < 100000) : two n = .ofNat (2 * n) := wr_small (n := 2 * n) (by omega)
theorem xx_eq (a b : Int) : xx a b = .ofNat (nF a + nC b) := wr_small (n := nF a + nC b) (by have := F_lt a; have := C_lt b; omega)
theorem lt_nat (x y : Nat) : iltQ (.ofNat x) (.ofNat y) = decide (x < y) := blt_eq x y
theorem mx91 : max 91 1 = 91 := rfl
theorem mx182 : max 182 1 = 182 := rfl
theorem blw_t (x n y m : Nat) : blw true x n y m = decide (x * max m 1 ≤ y * max n 1) := by
  rw [blw_eq]
  by_cases h1 : x * max m 1 < y * max n 1
  · simp [h1, Nat.le_of_lt h1]
  · by_cases h2 : x * max m 1 = y * max n 1
    · simp [h2]
    · have h3 : ¬ x * max m 1 ≤ y * max n 1 := by omega
      simp [h1, h2, h3]
theorem be1_eq (a b : Int) : be1 a b = decide (nC b * 182 ≤ (nF a + nC b) * 91) := by
  have h1 := F_lt a
  have h2 := C_lt b
  unfold be1
  rw [blw_t, pl_eq (s := 0) (by omega), pl_eq (s := 0) (by omega), pl_eq (by omega), Nat.zero_add, Nat.zero_add]
  rfl
theorem be2a_eq (a b c : Int) : be2a a b c = decide (nO c * 182 ≤ (nF a + nC b) * 91) := by
  have h1 := F_lt a
  have h2 := C_lt b
  have h3 := O_lt c
  unfold be2a
  rw [blw_t, pl_eq (s := 0) (by omega), pl_eq (s := 0) (by omega), pl_eq (by omega), Nat.zero_add, Nat.zero_add]
  rfl
theorem be2b_eq (b c : Int) : be2b b c = decide (nO c * 91 ≤ nC b * 91) := by
  have h2 := C_lt b
  have h3 := O_lt c
  unfold be2b
  rw [blw_t, pl_eq (s := 0) (by omega), pl_eq (s := 0) (by omega), Nat.zero_add, Nat.zero_add]
  rfl
theorem ta_eq (a b c : Int) : ta a b c = decide (2 * nO c < nF a + nC b) := by
  have h3 := O_lt c
  unfold ta
  rw [two_eq (by omega), xx_eq, lt_nat]
theorem tb_eq (b c : Int) : tb b c = decide (nO c < nC b) := lt_nat _ _
theorem tc_eq (a b c : Int) : tc a b c = decide (nF a + nC b < 2 * nO c) := by
  have h3 := O_lt c
  unfold tc
  rw [two_eq (by omega), xx_eq, lt_nat]
theorem td_eq (a b : Int) : td a b = decide (nF a + nC b < 2 * nC b) := by
  have h3 := C_lt b
  unfold td
  rw [two_eq (by omega), xx_eq, lt_nat]
theorem te_eq (b c : Int) : te b c = decide (nC b < nO c) := lt_nat _ _
theorem tf_eq (a b : Int) : tf a b = decide (2 * nC b < nF a + nC b) := by
  have h3 := C_lt b
  unfold tf
  rw [two_eq (by omega), xx_eq, lt_nat]
end Go.Proofs.YtknhohgnilamcaaGreatDoor.Ir
