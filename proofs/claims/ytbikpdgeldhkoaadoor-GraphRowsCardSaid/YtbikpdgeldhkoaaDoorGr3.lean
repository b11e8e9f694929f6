/-
  GraphRows: the law's beginning for all numbers; what is left hangs on two remainders and a fee that is only summed.
-/
import Derived.Test.YtbikpdgeldhkoaaDoorGr2
namespace Go.Proofs.YtbikpdgeldhkoaaDoor.Ir
set_option linter.unusedVariables false
set_option linter.unusedSimpArgs false
set_option maxRecDepth 100000
open Go Go.Proofs.YtbikpdgeldhkoaaDoor
/-! a frame of known slots -/
noncomputable def ofL (bl : List (Pos × V)) : T V := List.rec (motive := fun _ => T V) .nil (fun x _ ih => T.set x.2 x.1 ih) bl
theorem ofL_mem {p : Pos} {v : V} : ∀ {bl : List (Pos × V)}, T.get p (ofL bl) = some v → (p, v) ∈ bl
  | [], h => by have h : T.get p (.nil : T V) = some v := h; rw [T.get_nil] at h; cases h
  | x :: l, h => by
    have h : T.get p (T.set x.2 x.1 (ofL l)) = some v := h
    rw [T.get_set] at h
    split at h
    · rename_i e; cases h; subst e; exact List.mem_cons_self
    · exact List.mem_cons_of_mem _ (ofL_mem h)
noncomputable def isN (r : Option (XE × T V × St)) : Bool := match r with | some (x, _, _) => (match x with | .nrm => true | _ => false) | none => false
noncomputable def gA (r : Option (XE × T V × St)) : T V := match r with | some (_, A, _) => A | none => .nil
noncomputable def gS (r : Option (XE × T V × St)) : St := match r with | some (_, _, σ) => σ | none => ⟨.nil, .H⟩
theorem isN_eq {r : Option (XE × T V × St)} (h : isN r = true) : r = some (.nrm, gA r, gS r) := by
  cases r with
  | none => cases h
  | some x =>
    obtain ⟨x, A, σ⟩ := x
    cases x <;> first | rfl | cases h
theorem all_get {A : T V} : ∀ {bl : List (Pos × V)}, lmap (fun x => T.get x.1 A) bl = lmap (fun x => some x.2) bl → ∀ x ∈ bl, T.get x.1 A = some x.2 := by
  intro bl h
  rw [lmap_eq, lmap_eq] at h
  intro x hx
  obtain ⟨i, hi, rfl⟩ := List.getElem_of_mem hx
  have h1 := congrArg (fun l => l[i]?) h
  simpa [hi] using h1
/-- pieces run; of the frame some slots are kept -/
theorem preL {P : Program} {E : Env P} {M : Mach} {n : Nat} (K : MOk P E M (okD E)) {k m : Nat} {w0 : World} {l : List IR} {c : IR} {A : T V} {σ σ1 : St} (bl : List (Pos × V)) {Q : Exit → Act → World → Prop}
    (hn : isN (exec M (runFn M k) m (seqL l .skip) A σ) = true) (hs : gS (exec M (runFn M k) m (seqL l .skip) A σ) = σ1)
    (hb : lmap (fun x => T.get x.1 (gA (exec M (runFn M k) m (seqL l .skip) A σ))) bl = lmap (fun x => some x.2) bl) (hc : Tri P E n c (At E.ng n w0 (ofL bl) σ1) Q) : Tri P E n (seqL l c) (At E.ng n w0 A σ) Q := by
  refine Tri.runs0 K (hc.pre ?_) l (isN_eq hn)
  intro a w ha
  rw [hs] at ha
  exact ha.less fun p v hp => all_get hb (p, v) (ofL_mem hp)
/-! the code, in pieces -/
noncomputable def c0 : IR := bodyI f5
noncomputable def tl (c : IR) (n : Nat) : IR := Nat.rec (motive := fun _ => IR) c (fun _ ih => sndI ih) n
noncomputable def pc (n : Nat) : IR := fstI (tl c0 n)
noncomputable def l1 : List IR := [pc 0, pc 1, pc 2]
noncomputable def l2 : List IR := [pc 3]
noncomputable def l3 : List IR := [pc 4]
noncomputable def l4 : List IR := [pc 5]
noncomputable def lP : List IR := [pc 6, pc 7, pc 8, pc 9, pc 10]
noncomputable def lT : List IR := [pc 11, pc 12, pc 13, pc 14, pc 15]
noncomputable def cT : IR := tl c0 16
theorem shape : c0 = seqL l1 (seqL l2 (seqL l3 (seqL l4 (seqL lP (seqL lT cT))))) := by kernel_rfl
noncomputable def bB (k y f : Int) : List (Pos × V) := [(p0, .int .i64 k), (p1, .int .i64 y), (p2, .int .u64 f), (p7, .bool true)]
/-! numbers -/
theorem wrp {n : Int} (h1 : -9223372036854775808 ≤ n) (h2 : n < 9223372036854775808) : wrapK .i64 n = n := by
  cases n with
  | ofNat m =>
    show ws 18446744073709551616 9223372036854775808 (.ofNat m) = _
    have h2 : (m : Int) < 9223372036854775808 := h2
    have e : Nat.mod m 18446744073709551616 = m := Nat.mod_eq_of_lt (show m < 18446744073709551616 by omega)
    have e2 : Nat.blt m 9223372036854775808 = true := by rw [blt_eq]; simp; omega
    unfold ws
    simp only [e, e2]
  | negSucc m =>
    show ws 18446744073709551616 9223372036854775808 (.negSucc m) = _
    have h1 : -9223372036854775808 ≤ -((m : Int) + 1) := by rw [← Int.negSucc_eq]; exact h1
    have e : Nat.mod m 18446744073709551616 = m := Nat.mod_eq_of_lt (show m < 18446744073709551616 by omega)
    have e2 : Nat.blt m 9223372036854775808 = true := by rw [blt_eq]; simp; omega
    unfold ws
    simp only [e, e2]
noncomputable def kX (x : Int) : Int := wrapK .i64 (Int.add (.ofNat (Int.toNat (Int.emod x (.ofNat 20)))) (.ofNat 1))
noncomputable def yX (y : Int) (k : Nat) : Int := .ofNat (Int.toNat (Int.emod y (.ofNat (Nat.succ k))))
noncomputable def fX (f : Int) : Int := wrapK .u64 (Int.tmod f (.ofNat 1000000))
theorem kX_eq (x : Int) : ∃ k, k < 20 ∧ kX x = .ofNat (Nat.succ k) := by
  have h1 := Int.emod_nonneg x (show (20 : Int) ≠ 0 by omega)
  have h2 := Int.emod_lt_of_pos x (show (0 : Int) < 20 by omega)
  refine ⟨(Int.emod x 20).toNat, ?_, ?_⟩
  · have : ((Int.emod x 20).toNat : Int) = Int.emod x 20 := Int.toNat_of_nonneg h1
    have h2 : Int.emod x 20 < 20 := h2
    omega
  · have : ((Int.emod x 20).toNat : Int) = Int.emod x 20 := Int.toNat_of_nonneg h1
    have h2 : Int.emod x 20 < 20 := h2
    show wrapK .i64 (((Int.emod x 20).toNat : Int) + 1) = (((Int.emod x 20).toNat + 1 : Nat) : Int)
    rw [wrp (by omega) (by omega)]
    omega
theorem yX_eq (y : Int) (k : Nat) : ∃ j, j < k + 1 ∧ yX y k = .ofNat j := by
  have h1 := Int.emod_nonneg y (show ((k + 1 : Nat) : Int) ≠ 0 by omega)
  have h2 := Int.emod_lt_of_pos y (show (0 : Int) < ((k + 1 : Nat) : Int) by omega)
  refine ⟨(Int.emod y ((k + 1 : Nat) : Int)).toNat, ?_, rfl⟩
  have : ((Int.emod y ((k + 1 : Nat) : Int)).toNat : Int) = Int.emod y ((k + 1 : Nat) : Int) := Int.toNat_of_nonneg h1
  have h2 : Int.emod y ((k + 1 : Nat) : Int) < ((k + 1 : Nat) : Int) := h2
  omega
theorem fX_eq (m : Nat) : ∃ r, r < 1000000 ∧ fX (.ofNat m) = .ofNat r := by
  have h := Nat.mod_lt m (show 0 < 1000000 by omega)
  refine ⟨m % 1000000, h, ?_⟩
  show Int.ofNat (Nat.mod (Nat.mod m 1000000) 18446744073709551616) = _
  congr 1
  exact Nat.mod_eq_of_lt (show Nat.mod m 1000000 < 18446744073709551616 from Nat.lt_trans h (by decide))
/-! sums of fees -/
noncomputable def w6 (n : Int) : Int := wrapQ .u64 n
noncomputable def lupF (r : Nat) (l : List Nat) (s : Int) : Int := List.rec (motive := fun _ => Int → Int) (fun s => s) (fun i _ ih s => ih (wrapQ .u64 (Int.add s (wrapQ .u64 (Int.mul (.ofNat 1) (wrapQ .u64 (Int.add (.ofNat r) (.ofNat i)))))))) l s
noncomputable def laF (r : Nat) (l : List Nat) (s : Int) : Int := List.rec (motive := fun _ => Int → Int) (fun s => s) (fun i _ ih s => ih (wrapQ .u64 (Int.add (wrapQ .u64 (Int.add s (.ofNat r))) (.ofNat i)))) l s
noncomputable def sel (p : Nat → Bool) (l : List Nat) : List Nat := List.rec (motive := fun _ => List Nat) [] (fun x _ ih => match p x with | true => x :: ih | false => ih) l
noncomputable def upto (n : Nat) : List Nat := [0, 1, 2, 3, 4, 5, 6, 7, 8, 9, 10, 11, 12, 13, 14, 15, 16, 17, 18, 19]
noncomputable def srt : List Nat := [14, 4, 2, 17, 15, 7, 11, 16, 12, 5, 8, 19, 18, 10, 3, 13, 9, 6, 1, 0]
noncomputable def inU (j i : Nat) : Bool := Nat.ble i j
noncomputable def inD (n j i : Nat) : Bool := match Nat.ble j i with | true => Nat.blt i n | false => false
noncomputable def e1 (r j : Nat) : Bool := ieqQ (lupF r (sel (inU j) srt) (.ofNat 0)) (laF r (sel (inU j) (upto 0)) (.ofNat 0))
noncomputable def e2 (r n j : Nat) : Bool := ieqQ (lupF r (sel (inD n j) srt) (.ofNat 0)) (laF r (sel (inD n j) (upto 0)) (.ofNat 0))
/-! what is left to run -/
noncomputable def fB (k y f : Int) : Hot.FJ := Hot.putV p0 (.int .i64 k) (Hot.putV p1 (.int .i64 y) (Hot.putV p2 (.int .u64 f) (Hot.putV p7 (.bool true) Hot.F0)))
theorem fB_ok (k y f : Int) : Hot.FA (ofL (bB k y f)) (fB k y f) := (((Hot.FA0.put p7 _).put p2 _).put p1 _).put p0 _
noncomputable def putR (k y f : Int) : Hot.RJo := Hot.pcO [] [] machC 289 290 (seqL lP .skip) (fB k y f) sg0 ⟨[], [], []⟩
noncomputable def tkR (F : Hot.FJ) (σ : St) (j : Nat) : Hot.RJo := Hot.pcO [] [] machC 289 290 (seqL lT .skip) (Hot.putV p1 (.int .i64 (.ofNat j)) F) σ ⟨[], [], []⟩
noncomputable def tru (n : Nat) : List Bool := Nat.rec (motive := fun _ => List Bool) [] (fun _ ih => true :: ih) n
noncomputable def rep (x : Bool × Bool) (n : Nat) (l : List (Bool × Bool)) : List (Bool × Bool) := Nat.rec (motive := fun _ => List (Bool × Bool)) l (fun _ ih => x :: ih) n
noncomputable def enR (F : Hot.FJ) (σ : St) : Hot.RJo := Hot.pcT [] [] machC 289 290 cT F σ ⟨tru 80, [], []⟩
noncomputable def dgT (l : List (V × V)) : List (V × V) := lmap (fun x => (x.1, x.1)) l
theorem dgT_eq (l : List (V × V)) : ∀ x ∈ dgT l, x.1 = x.2 := by
  unfold dgT
  rw [lmap_eq]
  intro x hx
  obtain ⟨y, _, rfl⟩ := List.mem_map.1 hx
  rfl
/-- the last pieces' answer and their notes -/
abbrev TK := Option (List V × List (Bool × Bool) × List (V × V) × List (Bool × Bool) × List (V × V))
noncomputable def enV (r : Hot.RJo) (L1 : Hot.LG) : TK := match r with | .ret F σ L => (match Hot.un (Hot.rsB (resI f5)) F σ with | some l => some (l, L1.log, L1.vs, L.log, L.vs) | none => none) | _ => none
noncomputable def tkV (r : Hot.RJo) : TK := match r with | .nrm F σ L => enV (enR F σ) L | _ => none
noncomputable def n1 (r : TK) : List (V × V) := match r with | some (_, _, l, _, _) => l | none => []
noncomputable def n2 (r : TK) : List (V × V) := match r with | some (_, _, _, _, l) => l | none => []
abbrev CK := Option (V × List (Bool × Bool) × List (V × V) × List (Nat × TK))
noncomputable def chk (k y f : Int) (js : List Nat) : CK := match putR k y f with
  | .nrm F σ L => some (Hot.getV p1 F, L.log, L.vs, lmap (fun j => (j, tkV (tkR F σ j))) js)
  | _ => none
noncomputable def vs1 (r : CK) : List (V × V) := match r with | some (_, _, l, _) => l | none => []
noncomputable def vs2 (r : CK) : List (Nat × TK) := match r with | some (_, _, _, l) => l | none => []
end Go.Proofs.YtbikpdgeldhkoaaDoor.Ir
