/-
  BuildChild: what its tests hold against one another, in numbers.
-/
import Derived.Test.YtknhohgnilamcaaGreatDoorBc2
namespace Go.Proofs.YtknhohgnilamcaaGreatDoor.Ir
set_option linter.unusedVariables false
set_option linter.unusedSimpArgs false
set_option maxRecDepth 100000
open Go Go.Proofs.YtknhohgnilamcaaGreatDoor
noncomputable def runT (bits : List Bool) (a b c : Int) (t : Bool) : Option (V × List (Bool × Bool) × List (V × V)) := Hot.resO (Hot.runO [p5] [p87] machC 300 p5 [.int .i64 a, .int .i64 b, .int .i64 c, .bool t] sg0 ⟨bits, [], []⟩)
noncomputable def vvT (r : Option (V × List (Bool × Bool) × List (V × V))) : List (V × V) := match r with | some (_, _, l) => l | none => []
noncomputable def dgT (l : List (V × V)) : List (V × V) := lmap (fun x => (x.1, x.1)) l
theorem dgT_eq (l : List (V × V)) : ∀ x ∈ dgT l, x.1 = x.2 := by
  unfold dgT
  rw [lmap_eq]
  intro x hx
  obtain ⟨y, _, rfl⟩ := List.mem_map.1 hx
  rfl
def nF (a : Int) : Nat := Int.toNat (Int.emod a (.ofNat 100))
def nC (b : Int) : Nat := Int.toNat (Int.emod b (.ofNat 1000))
def pl (s f : Nat) : Nat := Nat.mod (Nat.add s (Nat.mod (Nat.mul 1 (Nat.mod f 18446744073709551616)) 18446744073709551616)) 18446744073709551616
theorem pl_eq {s f : Nat} (h : s + f < 1000000) : pl s f = s + f := by
  show (s + (1 * (f % 18446744073709551616)) % 18446744073709551616) % 18446744073709551616 = s + f
  omega
noncomputable def be1 (a b : Int) : Bool := blw false (pl 0 (nF a)) 91 (pl (pl 0 (nF a)) (nC b)) 182
noncomputable def be2a (a c : Int) : Bool := blw false (pl 0 (nF a)) 91 (pl 0 (nC c)) 91
noncomputable def be2b (a b c : Int) : Bool := blw false (pl (pl 0 (nF a)) (nC b)) 182 (pl 0 (nC c)) 91
noncomputable def be3 (b c : Int) : Bool := blw false (pl 0 (nC b)) 91 (pl 0 (nC c)) 91
noncomputable def two (n : Nat) : Int := wrapQ .i64 (Int.mul (.ofNat 2) (.ofNat n))
noncomputable def sm (a b : Int) : Int := wrapQ .i64 (iaddQ (.ofNat (nF a)) (.ofNat (nC b)))
noncomputable def mx (x y : Int) : Int := match ilt x y with | true => y | false => x
noncomputable def ee (a b c : Int) : Bool := ieqQ (mx (two (nF a)) (sm a b)) (two (nC c))
noncomputable def gg (a b c : Int) : Bool := iltQ (mx (two (nF a)) (sm a b)) (two (nC c))
noncomputable def ef (a c : Int) : Bool := ieqQ (two (nF a)) (two (nC c))
noncomputable def gf (a c : Int) : Bool := iltQ (two (nF a)) (two (nC c))
theorem em_lt (n : Int) (k : Nat) (hk : 0 < k) : Int.toNat (Int.emod n (.ofNat k)) < k := by
  have h1 := Int.emod_nonneg n (show (k : Int) ≠ 0 by omega)
  have h2 := Int.emod_lt_of_pos n (show (0 : Int) < k by omega)
  show (n % (k : Int)).toNat < k
  omega
theorem F_lt (a : Int) : nF a < 100 := em_lt a 100 (by decide)
theorem C_lt (b : Int) : nC b < 1000 := em_lt b 1000 (by decide)
theorem wr_small {n : Nat} (h : n < 1000000) : wrapQ .i64 (.ofNat n) = .ofNat n := by
  rw [wrapQ_eq]
  show ws 18446744073709551616 9223372036854775808 (.ofNat n) = _
  have e : Nat.mod n 18446744073709551616 = n := Nat.mod_eq_of_lt (show n < 18446744073709551616 by omega)
  unfold ws
  simp only [e]
  have e2 : Nat.blt n 9223372036854775808 = true := by rw [blt_eq]; simp; omega
  rw [e2]
theorem two_eq {n : Nat} (h : n < 100000) : two n = .ofNat (2 * n) := wr_small (n := 2 * n) (by omega)
theorem sm_eq (a b : Int) : sm a b = .ofNat (nF a + nC b) := wr_small (n := nF a + nC b) (by have := F_lt a; have := C_lt b; omega)
theorem lt_nat (x y : Nat) : iltQ (.ofNat x) (.ofNat y) = decide (x < y) := blt_eq x y
theorem eq_nat (x y : Nat) : ieqQ (.ofNat x) (.ofNat y) = decide (x = y) := nbeq_eq x y
theorem mx_eq (x y : Nat) : mx (.ofNat x) (.ofNat y) = .ofNat (max x y) := by
  unfold mx
  rw [← iltQ_eq, lt_nat]
  by_cases h : x < y
  · simp only [h, decide_true]; congr 1; omega
  · simp only [h, decide_false]; congr 1; omega
theorem blw_f (x n y m : Nat) : blw false x n y m = decide (x * max m 1 < y * max n 1) := by
  rw [blw_eq]; simp
theorem be1_eq (a b : Int) : be1 a b = decide (nF a * 182 < (nF a + nC b) * 91) := by
  have h1 := F_lt a
  have h2 := C_lt b
  unfold be1
  rw [blw_f, pl_eq (s := 0) (by omega), pl_eq (by omega), Nat.zero_add]
  rfl
theorem be2a_eq (a c : Int) : be2a a c = decide (nF a * 91 < nC c * 91) := by
  have h1 := F_lt a
  have h2 := C_lt c
  unfold be2a
  rw [blw_f, pl_eq (s := 0) (by omega), pl_eq (s := 0) (by omega), Nat.zero_add, Nat.zero_add]
  rfl
theorem be2b_eq (a b c : Int) : be2b a b c = decide ((nF a + nC b) * 91 < nC c * 182) := by
  have h1 := F_lt a
  have h2 := C_lt b
  have h3 := C_lt c
  unfold be2b
  rw [blw_f, pl_eq (s := 0) (f := nF a) (by omega), pl_eq (s := 0) (f := nC c) (by omega), pl_eq (by omega), Nat.zero_add, Nat.zero_add]
  rfl
theorem be3_eq (b c : Int) : be3 b c = decide (nC b * 91 < nC c * 91) := by
  have h1 := C_lt b
  have h2 := C_lt c
  unfold be3
  rw [blw_f, pl_eq (s := 0) (by omega), pl_eq (s := 0) (by omega), Nat.zero_add, Nat.zero_add]
  rfl
theorem ee_eq (a b c : Int) : ee a b c = decide (max (2 * nF a) (nF a + nC b) = 2 * nC c) := by
  have h1 := F_lt a
  have h3 := C_lt c
  unfold ee
  rw [two_eq (n := nF a) (by omega), two_eq (n := nC c) (by omega), sm_eq, mx_eq, eq_nat]
theorem gg_eq (a b c : Int) : gg a b c = decide (max (2 * nF a) (nF a + nC b) < 2 * nC c) := by
  have h1 := F_lt a
  have h3 := C_lt c
  unfold gg
  rw [two_eq (n := nF a) (by omega), two_eq (n := nC c) (by omega), sm_eq, mx_eq, lt_nat]
theorem ef_eq (a c : Int) : ef a c = decide (2 * nF a = 2 * nC c) := by
  have h1 := F_lt a
  have h3 := C_lt c
  unfold ef
  rw [two_eq (by omega), two_eq (by omega), eq_nat]
theorem gf_eq (a c : Int) : gf a c = decide (2 * nF a < 2 * nC c) := by
  have h1 := F_lt a
  have h3 := C_lt c
  unfold gf
  rw [two_eq (by omega), two_eq (by omega), lt_nat]
end Go.Proofs.YtknhohgnilamcaaGreatDoor.Ir
