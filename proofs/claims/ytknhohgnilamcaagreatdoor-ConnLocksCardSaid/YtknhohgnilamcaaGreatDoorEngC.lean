/-
  Numbers, operands, frames of the abstract machine. (Of no program.)
-/
import Derived.Test.YtknhohgnilamcaaGreatDoorEngB
namespace Go.Proofs.YtknhohgnilamcaaGreatDoor
set_option linter.unusedVariables false
set_option linter.unusedSimpArgs false
open Go

/-! numbers, as the kernel reckons them fast -/
def toU (M : Nat) (n : Int) : Nat := match n with | .ofNat m => Nat.mod m M | .negSucc m => Nat.sub (Nat.sub M 1) (Nat.mod m M)
def ws (M H : Nat) (n : Int) : Int := match n with
  | .ofNat m => (match Nat.blt (Nat.mod m M) H with | true => .ofNat (Nat.mod m M) | false => .negSucc (Nat.sub (Nat.sub M 1) (Nat.mod m M)))
  | .negSucc m => (match Nat.blt (Nat.mod m M) H with | true => .negSucc (Nat.mod m M) | false => .ofNat (Nat.sub (Nat.sub M 1) (Nat.mod m M)))
def modK : IntKind → Nat | .i8 | .u8 => 256 | .i16 | .u16 => 65536 | .i32 | .u32 => 4294967296 | .i64 | .u64 => 18446744073709551616
def wrapK (k : IntKind) (n : Int) : Int := match k with
  | .u8 => .ofNat (toU 256 n) | .u16 => .ofNat (toU 65536 n) | .u32 => .ofNat (toU 4294967296 n) | .u64 => .ofNat (toU 18446744073709551616 n)
  | .i8 => ws 256 128 n | .i16 => ws 65536 32768 n | .i32 => ws 4294967296 2147483648 n | .i64 => ws 18446744073709551616 9223372036854775808 n
theorem blt_eq (a b : Nat) : Nat.blt a b = decide (a < b) := by
  by_cases h : a < b
  · have : Nat.blt a b = true := by rw [Nat.blt_eq]; exact h
    simp [h, this]
  · have : ¬ Nat.blt a b = true := fun e => h (by rw [Nat.blt_eq] at e; exact e)
    simp [h, this]
theorem modK_bits (k : IntKind) : modK k = 2 ^ k.bits := by cases k <;> rfl
theorem toU_eq (k : IntKind) (n : Int) : ((toU (modK k) n : Nat) : Int) = n % (modK k : Int) := by
  cases n with
  | ofNat m => cases k <;> (simp only [toU, modK]; show ((m % _ : Nat) : Int) = _; simp)
  | negSucc m =>
    cases k <;>
    · simp only [toU, modK]
      show ((_ - 1 - m % _ : Nat) : Int) = _
      rw [Int.negSucc_eq]
      omega
theorem p8 : (2 : Int) ^ 8 = 256 := rfl
theorem p16 : (2 : Int) ^ 16 = 65536 := rfl
theorem p32 : (2 : Int) ^ 32 = 4294967296 := rfl
theorem p64 : (2 : Int) ^ 64 = 18446744073709551616 := rfl
theorem p7 : (2 : Int) ^ (8 - 1) = 128 := rfl
theorem p15 : (2 : Int) ^ (16 - 1) = 32768 := rfl
theorem p31 : (2 : Int) ^ (32 - 1) = 2147483648 := rfl
theorem p63 : (2 : Int) ^ (64 - 1) = 9223372036854775808 := rfl
theorem ws_eq (M H : Nat) (hH : M = 2 * H) (h0 : 0 < H) (n : Int) : ws M H n = if n % (M : Int) ≥ (H : Int) then n % (M : Int) - (M : Int) else n % (M : Int) := by
  cases n with
  | ofNat m =>
    have e : (Int.ofNat m) % (M : Int) = ((m % M : Nat) : Int) := by simp
    rw [e]
    have hr : Nat.mod m M = m % M := rfl
    have hlt := Nat.mod_lt m (show 0 < M by omega)
    simp only [ws, blt_eq, hr]
    generalize m % M = r at *
    by_cases h : r < H
    · simp [h]; omega
    · simp [h]; rw [if_pos (by omega)]; show Int.negSucc (M - 1 - r) = _; rw [Int.negSucc_eq]; omega
  | negSucc m =>
    have e : (Int.negSucc m) % (M : Int) = (M : Int) - 1 - ((m % M : Nat) : Int) := by
      rw [Int.negSucc_emod m (by omega)]; simp
    rw [e]
    have hr : Nat.mod m M = m % M := rfl
    have hlt := Nat.mod_lt m (show 0 < M by omega)
    simp only [ws, blt_eq, hr]
    generalize m % M = r at *
    by_cases h : r < H
    · simp [h]; rw [if_pos (by omega), Int.negSucc_eq]; omega
    · simp [h]; rw [if_neg (by omega)]; show ((M - 1 - r : Nat) : Int) = _; omega
theorem wrapK_eq (k : IntKind) (n : Int) : wrapK k n = k.wrap n := by
  have h := toU_eq k n
  cases k <;> simp only [modK] at h <;> simp only [wrapK, IntKind.wrap, IntKind.bits, IntKind.signed, p8, p16, p32, p64, p7, p15, p31, p63]
  case u8 => simpa using h
  case u16 => simpa using h
  case u32 => simpa using h
  case u64 => simpa using h
  all_goals
    rw [ws_eq _ _ (by rfl) (by decide)]
    simp
theorem wrap_bounds (k : IntKind) (n : Int) : (k.min ≤ k.wrap n ∧ k.wrap n ≤ k.max) ∧ (k.min ≤ n → n ≤ k.max → k.wrap n = n) := by
  rw [← wrapK_eq]
  have h := toU_eq k n
  cases k <;> simp only [modK] at h <;> simp only [wrapK, IntKind.min, IntKind.max, IntKind.bits, IntKind.signed, if_true, Bool.false_eq_true, if_false, p8, p16, p32, p64, p7, p15, p31, p63, Int.ofNat_eq_natCast]
  case u8 => rw [h]; omega
  case u16 => rw [h]; omega
  case u32 => rw [h]; omega
  case u64 => rw [h]; omega
  all_goals
    clear h
    rw [ws_eq _ _ (by rfl) (by decide)]
    split <;> omega
theorem wrap_has (k : IntKind) (n : Int) : k.has (k.wrap n) := (wrap_bounds k n).1
theorem wrap_id {k : IntKind} {n : Int} (h : k.has n) : k.wrap n = n := (wrap_bounds k n).2 h.1 h.2

def ilt (n m : Int) : Bool := match n, m with
  | .ofNat a, .ofNat b => Nat.blt a b | .ofNat _, .negSucc _ => false | .negSucc _, .ofNat _ => true | .negSucc a, .negSucc b => Nat.blt b a
def ieq (n m : Int) : Bool := match n, m with
  | .ofNat a, .ofNat b => Nat.beq a b | .ofNat _, .negSucc _ => false | .negSucc _, .ofNat _ => false | .negSucc a, .negSucc b => Nat.beq a b
theorem ilt_eq (n m : Int) : ilt n m = decide (n < m) := by
  cases n <;> cases m <;> simp only [ilt, blt_eq] <;> (try rw [Int.negSucc_eq]) <;> (try rw [Int.negSucc_eq]) <;> simp <;> omega
theorem nbeq_eq (a b : Nat) : Nat.beq a b = decide (a = b) := by
  by_cases h : a = b
  · subst h; simp
  · have : ¬ Nat.beq a b = true := fun e => h (Nat.eq_of_beq_eq_true e)
    simp [h, this]
theorem ieq_eq (n m : Int) : ieq n m = decide (n = m) := by
  cases n <;> cases m <;> simp only [ieq, nbeq_eq] <;> (try rw [Int.negSucc_eq]) <;> (try rw [Int.negSucc_eq]) <;> simp <;> omega

theorem beqK_eq {a b : IntKind} (h : beqK a b = true) : a = b := by cases a <;> cases b <;> first | rfl | cases h

/-- + - * and comparisons, bits, division, on two numbers of a kind -/
def ibin (op : BinOp) (k : IntKind) (x y : Int) : Option V := match op with
  | .add => some (.int k (wrapK k (Int.add x y)))
  | .sub => some (.int k (wrapK k (Int.sub x y)))
  | .mul => some (.int k (wrapK k (Int.mul x y)))
  | .quo => (match ieq y (.ofNat 0) with | true => none | false => some (.int k (wrapK k (Int.tdiv x y))))
  | .rem => (match ieq y (.ofNat 0) with | true => none | false => some (.int k (wrapK k (Int.tmod x y))))
  | .and => some (.int k (wrapK k (.ofNat (Nat.land (toU (modK k) x) (toU (modK k) y)))))
  | .or => some (.int k (wrapK k (.ofNat (Nat.lor (toU (modK k) x) (toU (modK k) y)))))
  | .xor => some (.int k (wrapK k (.ofNat (Nat.xor (toU (modK k) x) (toU (modK k) y)))))
  | .andNot => some (.int k (wrapK k (.ofNat (Nat.land (toU (modK k) x) (Nat.sub (Nat.sub (modK k) 1) (toU (modK k) y))))))
  | .eql => some (.bool (ieq x y))
  | .neq => some (.bool (!(ieq x y)))
  | .lss => some (.bool (ilt x y))
  | .leq => some (.bool (!(ilt y x)))
  | .gtr => some (.bool (ilt y x))
  | .geq => some (.bool (!(ilt x y)))
  | _ => none

theorem toU_bv (k : IntKind) (x : Int) : (BitVec.ofInt k.bits x).toNat = toU (modK k) x := by
  have h := toU_eq k x
  rw [BitVec.toNat_ofInt, ← modK_bits]
  rw [← h]; simp
theorem tmod_has {k : IntKind} {x y : Int} (hx : k.has x) : k.has (x.tmod y) := by
  unfold IntKind.has at *
  have h3 : k.min ≤ 0 ∧ 0 ≤ k.max := by cases k <;> decide
  rcases Int.le_total 0 x with h | h
  · obtain ⟨n, rfl⟩ := Int.eq_ofNat_of_zero_le h
    have h1 := Int.tmod_nonneg y (Int.natCast_nonneg n)
    have h2 : ((n : Int).tmod y) ≤ n := by
      rw [Int.tmod_eq_emod_of_nonneg (Int.natCast_nonneg n)]
      by_cases hy : y = 0
      · subst hy; simp
      · rcases Int.le_total 0 y with h4 | h4
        · obtain ⟨m, rfl⟩ := Int.eq_ofNat_of_zero_le h4
          have := Nat.mod_le n m
          have : ((n : Int) % (m : Int)) = ((n % m : Nat) : Int) := by simp
          omega
        · have e : (n : Int) % y = (n : Int) % (-y) := by rw [Int.emod_neg]
          obtain ⟨m, hm⟩ := Int.eq_ofNat_of_zero_le (show 0 ≤ -y by omega)
          rw [e, hm]
          have := Nat.mod_le n m
          have : ((n : Int) % (m : Int)) = ((n % m : Nat) : Int) := by simp
          omega
    omega
  · obtain ⟨n, hn⟩ := Int.eq_ofNat_of_zero_le (show 0 ≤ -x by omega)
    have hx' : x = -(n : Int) := by omega
    subst hx'
    rw [Int.neg_tmod]
    have h1 := Int.tmod_nonneg y (Int.natCast_nonneg n)
    have h2 : ((n : Int).tmod y) ≤ n := by
      rw [Int.tmod_eq_emod_of_nonneg (Int.natCast_nonneg n)]
      by_cases hy : y = 0
      · subst hy; simp
      · rcases Int.le_total 0 y with h4 | h4
        · obtain ⟨m, rfl⟩ := Int.eq_ofNat_of_zero_le h4
          have := Nat.mod_le n m
          have : ((n : Int) % (m : Int)) = ((n % m : Nat) : Int) := by simp
          omega
        · have e : (n : Int) % y = (n : Int) % (-y) := by rw [Int.emod_neg]
          obtain ⟨m, hm⟩ := Int.eq_ofNat_of_zero_le (show 0 ≤ -y by omega)
          rw [e, hm]
          have := Nat.mod_le n m
          have : ((n : Int) % (m : Int)) = ((n % m : Nat) : Int) := by simp
          omega
    omega
theorem ibin_sound {P : Program} {ι : Nm} {op : BinOp} {k : IntKind} {x y : Int} {v : V} (hx : k.has x) (hy : k.has y) (h : ibin op k x y = some v) (w : World) :
    ∃ v', (∀ t, (Go.binOp op t (.int k x) (.int k y)).run P w = .ok v' w) ∧ VR ι v v' := by
  have hw : ∀ n, wrapK k n = k.wrap n := wrapK_eq k
  cases op <;> simp only [ibin] at h <;> first | cases h | skip
  case add => exact ⟨_, (fun t => by simp [Go.binOp, Op.intArith]; rfl), by rw [hw]; exact .int _ _ (wrap_has _ _)⟩
  case sub => exact ⟨_, (fun t => by simp [Go.binOp, Op.intArith]; rfl), by rw [hw]; exact .int _ _ (wrap_has _ _)⟩
  case mul => exact ⟨_, (fun t => by simp [Go.binOp, Op.intArith]; rfl), by rw [hw]; exact .int _ _ (wrap_has _ _)⟩
  case quo =>
    split at h
    · cases h
    · rename_i hz
      rw [ieq_eq] at hz
      have hz : ¬ y = 0 := by simpa using hz
      cases h
      exact ⟨_, (fun t => by simp [Go.binOp, Op.intDiv, hz]; rfl), by rw [hw]; exact .int _ _ (wrap_has _ _)⟩
  case rem =>
    split at h
    · cases h
    · rename_i hz
      rw [ieq_eq] at hz
      have hz : ¬ y = 0 := by simpa using hz
      cases h
      exact ⟨_, (fun t => by simp [Go.binOp, Op.intDiv, hz]; rfl), by rw [hw, wrap_id (tmod_has hx)]; exact .int _ _ (tmod_has hx)⟩
  case and =>
    exact ⟨_, (fun t => by simp [Go.binOp, Op.intBits]; rfl), by rw [hw, ← toU_bv, ← toU_bv]; exact .int _ _ (wrap_has _ _)⟩
  case or =>
    exact ⟨_, (fun t => by simp [Go.binOp, Op.intBits]; rfl), by rw [hw, ← toU_bv, ← toU_bv]; exact .int _ _ (wrap_has _ _)⟩
  case xor =>
    exact ⟨_, (fun t => by simp [Go.binOp, Op.intBits]; rfl), by rw [hw, ← toU_bv, ← toU_bv]; exact .int _ _ (wrap_has _ _)⟩
  case andNot =>
    exact ⟨_, (fun t => by simp [Go.binOp, Op.intBits]; rfl), by rw [hw, ← toU_bv, ← toU_bv, modK_bits]; exact .int _ _ (wrap_has _ _)⟩
  case eql => exact ⟨_, (fun t => by simp [Go.binOp, Op.intCmp]; rfl), by rw [ieq_eq]; exact .bool _⟩
  case neq => exact ⟨_, (fun t => by simp [Go.binOp, Op.intCmp]; rfl), by rw [ieq_eq]; exact .bool _⟩
  case lss => exact ⟨_, (fun t => by simp [Go.binOp, Op.intCmp]; rfl), by rw [ilt_eq]; exact .bool _⟩
  case leq =>
    have e : (!(ilt y x)) = decide (x ≤ y) := by
      rw [ilt_eq]
      by_cases h : y < x
      · have : ¬ x ≤ y := by omega
        simp [h, this]
      · have : x ≤ y := by omega
        simp [h, this]
    rw [e]
    exact ⟨_, (fun t => by simp [Go.binOp, Op.intCmp]), .bool _⟩
  case gtr => exact ⟨_, (fun t => by simp [Go.binOp, Op.intCmp]; rfl), by rw [ilt_eq]; exact .bool _⟩
  case geq =>
    have e : (!(ilt x y)) = decide (x ≥ y) := by
      rw [ilt_eq]
      by_cases h : x < y
      · have : ¬ x ≥ y := by omega
        simp [h, this]
      · have : x ≥ y := by omega
        simp [h, this]
    rw [e]
    exact ⟨_, (fun t => by simp [Go.binOp, Op.intCmp]), .bool _⟩

/-! operands -/
inductive Arg where
  | s (p : Pos) | v (x : V) | g (p : Pos) | f (n : Nat)
noncomputable def ev (A : T V) (a : Arg) : V := match a with
  | .s p => (match T.get p A with | some v => v | none => .u)
  | .v x => x
  | .g p => .ptr p 0
  | .f n => .fn n [] []

mutual
def cstB : V → Value → Bool
  | .bool a, .bool b => a == b
  | .int k n, .int k' m => k == k' && n == m && decide (k.min ≤ n) && decide (n ≤ k.max)
  | .str l, .string s => s.data.toList.map (·.toNat) == l
  | .nilp, .pointer none => true
  | .nils, .slice none 0 0 => true
  | .nilm, .map none => true
  | .nilf, .nilFunc => true
  | .nili, .nilIface => true
  | .agg l, .agg c => cstsB l c.toList
  | .tup l, .tuple c => cstsB l c.toList
  | _, _ => false
def cstsB : List V → List Value → Bool
  | [], [] => true
  | x :: l, y :: c => cstB x y && cstsB l c
  | _, _ => false
end
theorem csts_sound {ι : Nm} (hx : ∀ l : List V, ∀ x ∈ l, ∀ y, cstB x y = true → VR ι x y) : ∀ (l : List V) (c : List Value), cstsB l c = true → VRs ι l c
  | [], [], _ => .nil
  | [], _ :: _, h => by simp [cstsB] at h
  | _ :: _, [], h => by simp [cstsB] at h
  | x :: l, y :: c, h => by
    simp only [cstsB, Bool.and_eq_true] at h
    exact .cons (hx (x :: l) x (by simp) y h.1) (csts_sound hx l c h.2)
theorem cst_sound {ι : Nm} : ∀ (x : V) (y : Value), cstB x y = true → VR ι x y := by
  intro x
  induction x using V.rec (motive_2 := fun l => ∀ c, cstsB l c = true → VRs ι l c) with
  | u => intro y h; exact .u y
  | bool b => intro y h; cases y <;> simp [cstB] at h; subst h; exact .bool _
  | int k n =>
    intro y h
    cases y <;> simp [cstB] at h
    obtain ⟨⟨⟨rfl, rfl⟩, h1⟩, h2⟩ := h
    exact .int _ _ ⟨h1, h2⟩
  | str l => intro y h; cases y <;> simp [cstB] at h; exact .str _ _ h
  | nilp =>
    intro y h
    cases y with
    | pointer a => cases a with
      | none => exact .nilp
      | some a => simp [cstB] at h
    | _ => simp [cstB] at h
  | nils =>
    intro y h
    cases y with
    | slice a n m =>
      cases a with
      | none => cases n with
        | zero => cases m with
          | zero => exact .nils
          | succ m => simp [cstB] at h
        | succ n => simp [cstB] at h
      | some a => simp [cstB] at h
    | _ => simp [cstB] at h
  | nilm =>
    intro y h
    cases y with
    | map a => cases a with
      | none => exact .nilm
      | some a => simp [cstB] at h
    | _ => simp [cstB] at h
  | nilf => intro y h; cases y <;> simp [cstB] at h; exact .nilf
  | nili => intro y h; cases y <;> simp [cstB] at h; exact .nili
  | agg l ih => intro y h; cases y <;> simp [cstB] at h; exact .mk_agg (ih _ h)
  | tup l ih => intro y h; cases y <;> simp [cstB] at h; exact .mk_tup (ih _ h)
  | ptr p o => intro y h; simp [cstB] at h
  | slice p o l c e => intro y h; simp [cstB] at h
  | map p => intro y h; simp [cstB] at h
  | fn f a b => intro y h; simp [cstB] at h
  | iface t v => intro y h; simp [cstB] at h
  | nil =>
    rename_i c h
    cases c with
    | nil => exact .nil
    | cons y c => simp [cstsB] at h
  | cons x l ih1 ih2 =>
    rename_i c h
    cases c with
    | nil => simp [cstsB] at h
    | cons y c =>
      simp only [cstsB, Bool.and_eq_true] at h
      exact .cons (ih1 y h.1) (ih2 c h.2)
end Go.Proofs.YtknhohgnilamcaaGreatDoor
