/-
  What the operations do that change nothing: on the abstract machine, and that they are the model's. (Of no program.)
-/
import Derived.Test.YtknhohgnilamcaaGreatDoorEngC
import Derived.LaidEql
import Derived.LaidEqlPtr
import Derived.DeepKeys5
import Derived.WideKeyMaps
namespace Go.Proofs.YtknhohgnilamcaaGreatDoor
set_option linter.unusedVariables false
set_option linter.unusedSimpArgs false
set_option linter.unusedSectionVars false
open Go

/-- what is held against nil, or one another -/
inductive NK where | ptr | slice | map | func | iface (c : Bool)
  deriving DecidableEq
/-- operations that change nothing -/
inductive QOp where
  | mv (a : Arg)
  | pick (c a b : Arg)
  | bld (z : List V) (ps : List (Nat × Nat × Arg))
  | fadr (a : Arg) (off : Nat)
  | fld (a : Arg) (off n : Nat) (ag : Bool)
  | iadr (a i : Arg) (esz : Nat)
  | iada (a i : Arg) (esz n : Nat)
  | idxa (a i : Arg) (esz n : Nat) (ag : Bool)
  | idxs (a i : Arg)
  | nck (a : Arg)
  | bin (op : BinOp) (a c : Arg)
  | shf (left : Bool) (a c : Arg)
  | cmpb (ne : Bool) (a c : Arg)
  | cmps (op : BinOp) (a c : Arg)
  | eqp (kd : NK) (ne : Bool) (a c : Arg)
  | eqa (ne : Bool) (sh : List IntKind) (a c : Arg)
  | not (a : Arg) | neg (a : Arg) | inv (a : Arg)
  | cvi (k : IntKind) (a : Arg)
  | cvid (a : Arg)
  | mki (t : Nat) (a : Arg)
  | mkf (f : Nat) (xs ys : List Arg)
  | tas (a : Arg) (t : Nat) (z : V) (ok : Bool)
  | tai (a : Arg) (ts : List Nat) (ok : Bool)
  | ext (a : Arg) (i : Nat)
  | lenv (a : Arg)
  | lens (a : Arg)
  | lenc (n : Nat)
  | slc (a : Arg) (lo hi : Option Arg) (esz : Nat)
  | slca (a : Arg) (lo hi : Option Arg) (esz n : Nat)
  | slcs (a : Arg) (lo hi : Option Arg)
  | mnx (mx : Bool) (a c : Arg)
  | ld1 (a : Arg)
  | ldn (a : Arg) (n : Nat)
  | lkp (m k : Arg) (ks : KSh) (z : V) (ok : Bool)
  | lenm (m : Arg)
  | wts (g : Arg)

def flat (v : V) : Option (List V) := match v with | .u => none | .tup _ => none | .agg l => some l | v => some [v]
noncomputable def lsplice (l : List V) (o : Nat) (vs : List V) : List V := lapp (ltake l o) (lapp vs (ldrop l (Nat.add o (llen vs))))
noncomputable def partA (l : List V) (off n : Nat) (ag : Bool) : Option V := match ag with
  | true => (match Nat.ble (Nat.add off n) (llen l) with | true => some (.agg (ltake (ldrop l off) n)) | false => none)
  | false => lget l off
def natOf (i : Int) : Option Nat := match i with | .ofNat n => some n | .negSucc _ => none
noncomputable def bldF (A : T V) (ps : List (Nat × Nat × Arg)) : List V → Option (List V) :=
  List.rec (motive := fun _ => List V → Option (List V)) (fun z => some z) (fun p _ ih z => match flat (ev A p.2.2) with
    | none => none
    | some l => (match Nat.beq (llen l) p.2.1 && Nat.ble (Nat.add p.1 p.2.1) (llen z) with | true => ih (lsplice z p.1 l) | false => none)) ps
noncomputable def inteq (l : List V) : List V → Bool :=
  List.rec (motive := fun _ => List V → Bool) (fun m => match m with | [] => true | _ :: _ => false)
    (fun x _ ih m => match m with
      | [] => false
      | y :: m => (match x with
        | .int _ a => (match y with | .int _ b => (match ieq a b with | true => ih m | false => false) | _ => false)
        | _ => false)) l
noncomputable def nateq (l : List Nat) : List Nat → Bool := List.rec (motive := fun _ => List Nat → Bool) (fun m => match m with | [] => true | _ :: _ => false)
    (fun x _ ih m => match m with | [] => false | y :: m => (match Nat.beq x y with | true => ih m | false => false)) l
noncomputable def natlt (l : List Nat) : List Nat → Bool := List.rec (motive := fun _ => List Nat → Bool) (fun m => match m with | [] => false | _ :: _ => true)
    (fun x _ ih m => match m with | [] => false | y :: m => (match Nat.blt x y with | true => true | false => (match Nat.beq x y with | true => ih m | false => false))) l
theorem inteq_nn : inteq [] [] = true := rfl
theorem inteq_nc (y : V) (m : List V) : inteq [] (y :: m) = false := rfl
theorem inteq_cn (x : V) (l : List V) : inteq (x :: l) [] = false := rfl
theorem inteq_ii (k k' : IntKind) (a b : Int) (l m : List V) : inteq (.int k a :: l) (.int k' b :: m) = (match ieq a b with | true => inteq l m | false => false) := rfl
theorem shaped_nn : shaped [] [] = true := rfl
theorem shaped_nc (y : V) (m : List V) : shaped [] (y :: m) = false := rfl
theorem shaped_cn (x : IntKind) (l : List IntKind) : shaped (x :: l) [] = false := rfl
theorem shaped_i (k k' : IntKind) (b : Int) (l : List IntKind) (m : List V) : shaped (k :: l) (.int k' b :: m) = (match beqK k k' with | true => shaped l m | false => false) := rfl
theorem shaped_inv {k : IntKind} {sh : List IntKind} {m : List V} (h : shaped (k :: sh) m = true) : ∃ b m', m = .int k b :: m' ∧ shaped sh m' = true := by
  cases m with
  | nil => rw [shaped_cn] at h; cases h
  | cons y m =>
    cases y with
    | int k' b =>
      rw [shaped_i] at h
      split at h
      · rename_i hk
        have := beqK_eq hk; subst this
        exact ⟨b, m, rfl, h⟩
      · cases h
    | _ => exact absurd h (by show ¬ (false = true); simp)
theorem nateq_eq : ∀ (l m : List Nat), nateq l m = decide (l = m) := by
  intro l
  induction l with
  | nil => intro m; cases m <;> simp <;> rfl
  | cons x l ih =>
    intro m
    cases m with
    | nil => simp; rfl
    | cons y m =>
      have e : nateq (x :: l) (y :: m) = (match Nat.beq x y with | true => nateq l m | false => false) := rfl
      rw [e, ih, nbeq_eq]
      by_cases h : x = y <;> simp [h]
/-- two keys of one shape -/
noncomputable def keyEq (a b : V) : Bool := match a with
  | .agg l => (match b with | .agg m => inteq l m | _ => false)
  | .int _ n => (match b with | .int _ m => ieq n m | _ => false)
  | .str l => (match b with | .str m => nateq l m | _ => false)
  | _ => false
theorem shaped_sound {ι : Nm} : ∀ (sh : List IntKind) (l : List V) (c : List Value), shaped sh l = true → VRs ι l c → c.length = sh.length ∧ ∀ (i : Nat) k x, sh[i]? = some k → c[i]? = some x → ∃ n, x = .int k n ∧ k.has n ∧ l[i]? = some (.int k n)
  | [], [], c, _, hc => by
    have : c = [] := List.length_eq_zero_iff.1 hc.1.symm
    subst this
    exact ⟨rfl, fun i k x h => by simp at h⟩
  | [], _ :: _, _, h, _ => by rw [shaped_nc] at h; cases h
  | k :: sh, l, c, h, hc => by
    obtain ⟨b, m, rfl, h'⟩ := shaped_inv h
    cases c with
    | nil => have := hc.1; simp at this
    | cons y c =>
      obtain ⟨h1, h2⟩ := shaped_sound sh m c h' hc.tail
      refine ⟨by simp [h1], fun i k' x hk hx => ?_⟩
      cases i with
      | zero =>
        simp at hk hx
        subst hk; subst hx
        have := hc.head
        cases this with
        | int k n hn => exact ⟨_, rfl, hn, rfl⟩
      | succ i =>
        simp at hk hx
        obtain ⟨n, e1, e2, e3⟩ := h2 i k' x hk hx
        exact ⟨n, e1, e2, by simpa using e3⟩
theorem keyShaped_sound {ι : Nm} {ks : KSh} {v : V} {v' : Value} (h : keyShaped ks v = true) (hv : VR ι v v') : Shaped ks v' := by
  cases ks with
  | cells sh =>
    cases v <;> (try (exfalso; revert h; simp [keyShaped]; done))
    rename_i l
    obtain ⟨c, rfl, hc⟩ := hv.of_agg
    obtain ⟨h1, h2⟩ := shaped_sound sh l c.toList h hc
    refine ⟨c, rfl, by simpa using h1, fun i k x hk hx => ?_⟩
    obtain ⟨n, e1, e2, _⟩ := h2 i k x hk (by simpa using hx)
    exact ⟨n, e1, e2⟩
  | int k =>
    cases v <;> (try (exfalso; revert h; simp [keyShaped]; done))
    have := beqK_eq h
    subst this
    cases hv
    rename_i hn
    exact ⟨_, rfl, hn⟩
  | str =>
    cases v <;> (try (exfalso; revert h; simp [keyShaped]; done))
    cases hv with
    | str l s hs => exact ⟨s, rfl⟩
theorem inteq_sound {ι : Nm} : ∀ (sh : List IntKind) (l m : List V) (c d : List Value), shaped sh l = true → shaped sh m = true → VRs ι l c → VRs ι m d → (inteq l m = true ↔ l = m) ∧ (l = m ↔ c = d)
  | [], [], m, c, d, _, hm, hc, hd => by
    cases m with
    | cons y m => rw [shaped_nc] at hm; cases hm
    | nil =>
      have e1 : c = [] := List.length_eq_zero_iff.1 hc.1.symm
      have e2 : d = [] := List.length_eq_zero_iff.1 hd.1.symm
      subst e1; subst e2
      exact ⟨⟨fun _ => rfl, fun _ => rfl⟩, ⟨fun _ => rfl, fun _ => rfl⟩⟩
  | [], _ :: _, _, _, _, h, _, _, _ => by rw [shaped_nc] at h; cases h
  | k :: sh, l, m, c, d, hl, hm, hc, hd => by
    obtain ⟨a, l, rfl, hl'⟩ := shaped_inv hl
    obtain ⟨b, m, rfl, hm'⟩ := shaped_inv hm
    cases c with
    | nil => have := hc.1; simp at this
    | cons x c => cases d with
      | nil => have := hd.1; simp at this
      | cons y d =>
        obtain ⟨h1, h2⟩ := inteq_sound sh l m c d hl' hm' hc.tail hd.tail
        have hx := hc.head
        have hy := hd.head
        cases hx; cases hy
        rw [inteq_ii, ieq_eq]
        constructor
        · by_cases hab : a = b
          · subst hab; simp [h1]
          · simp [hab]
        · simp only [List.cons.injEq, V.int.injEq, true_and, Value.int.injEq, h2]
theorem keyEq_sound {ι : Nm} {ks : KSh} {a b : V} {a' b' : Value} (ha : keyShaped ks a = true) (hb : keyShaped ks b = true) (va : VR ι a a') (vb : VR ι b b') : (keyEq a b = true ↔ a = b) ∧ (a = b ↔ a' = b') := by
  cases ks with
  | cells sh =>
    cases a <;> (try (exfalso; revert ha; simp [keyShaped]; done))
    cases b <;> (try (exfalso; revert hb; simp [keyShaped]; done))
    obtain ⟨c, rfl, hc⟩ := va.of_agg
    obtain ⟨d, rfl, hd⟩ := vb.of_agg
    obtain ⟨h1, h2⟩ := inteq_sound sh _ _ c.toList d.toList ha hb hc hd
    refine ⟨by show inteq _ _ = true ↔ _; rw [h1]; simp, ?_⟩
    simp only [V.agg.injEq, Value.agg.injEq, h2]
    exact ⟨fun h => Array.toList_inj.1 h, fun h => by rw [h]⟩
  | int k =>
    cases a <;> (try (exfalso; revert ha; simp [keyShaped]; done))
    cases b <;> (try (exfalso; revert hb; simp [keyShaped]; done))
    have e1 := beqK_eq ha; subst e1
    have e2 := beqK_eq hb; subst e2
    cases va; cases vb
    refine ⟨by show ieq _ _ = true ↔ _; rw [ieq_eq]; simp, by simp⟩
  | str =>
    cases a <;> (try (exfalso; revert ha; simp [keyShaped]; done))
    cases b <;> (try (exfalso; revert hb; simp [keyShaped]; done))
    cases va with
    | str l s hs => cases vb with
      | str m t ht =>
        refine ⟨by show nateq _ _ = true ↔ _; rw [nateq_eq]; simp, ?_⟩
        simp only [V.str.injEq, Value.string.injEq]
        constructor
        · intro e
          rw [← hs, ← ht] at e
          have := (List.map_inj_right (f := fun x : UInt8 => x.toNat) (fun x y h => UInt8.toNat_inj.1 h)).1 e
          exact ByteArray.ext (Array.toList_inj.1 this)
        · rintro rfl
          rw [← hs, ← ht]
end Go.Proofs.YtknhohgnilamcaaGreatDoor
