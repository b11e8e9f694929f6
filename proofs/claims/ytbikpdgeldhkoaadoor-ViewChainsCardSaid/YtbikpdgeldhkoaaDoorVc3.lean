/-
  ViewChains: the law's beginning for all numbers; what is left hangs on two remainders alone.
-/
import Derived.Test.YtbikpdgeldhkoaaDoorVc2
namespace Go.Proofs.YtbikpdgeldhkoaaDoor.Ir
set_option linter.unusedVariables false
set_option linter.unusedSimpArgs false
set_option maxRecDepth 100000
open Go Go.Proofs.YtbikpdgeldhkoaaDoor
/-! a frame of known slots -/
noncomputable def ofL (bl : List (Pos × V)) : T V := List.rec (motive := fun _ => T V) .nil (fun x _ ih => T.set x.2 x.1 ih) bl
theorem ofL_mem {p : Pos} {v : V} : ∀ {bl : List (Pos × V)}, T.get p (ofL bl) = some v → (p, v) ∈ bl
  | [], h => by have h : T.get p (.nil : T V) = some v := h; rw [T.get_nil] at h; cases h
  | x :: l, h => by
    have h : T.get p (T.set x.2 x.1 (ofL l)) = some v := h
    rw [T.get_set] at h
    split at h
    · rename_i e; cases h; subst e; exact List.mem_cons_self
    · exact List.mem_cons_of_mem _ (ofL_mem h)
noncomputable def isN (r : Option (XE × T V × St)) : Bool := match r with | some (x, _, _) => (match x with | .nrm => true | _ => false) | none => false
noncomputable def gA (r : Option (XE × T V × St)) : T V := match r with | some (_, A, _) => A | none => .nil
noncomputable def gS (r : Option (XE × T V × St)) : St := match r with | some (_, _, σ) => σ | none => ⟨.nil, .H⟩
theorem isN_eq {r : Option (XE × T V × St)} (h : isN r = true) : r = some (.nrm, gA r, gS r) := by
  cases r with
  | none => cases h
  | some x =>
    obtain ⟨x, A, σ⟩ := x
    cases x <;> first | rfl | cases h
theorem all_get {A : T V} : ∀ {bl : List (Pos × V)}, lmap (fun x => T.get x.1 A) bl = lmap (fun x => some x.2) bl → ∀ x ∈ bl, T.get x.1 A = some x.2 := by
  intro bl h
  rw [lmap_eq, lmap_eq] at h
  intro x hx
  obtain ⟨i, hi, rfl⟩ := List.getElem_of_mem hx
  have h1 := congrArg (fun l => l[i]?) h
  simpa [hi] using h1
/-- pieces run; of the frame some slots are kept -/
theorem preL {P : Program} {E : Env P} {M : Mach} {n : Nat} (K : MOk P E M (okD E)) {k m : Nat} {w0 : World} {l : List IR} {c : IR} {A : T V} {σ σ1 : St} (bl : List (Pos × V)) {Q : Exit → Act → World → Prop}
    (hn : isN (exec M (runFn M k) m (seqL l .skip) A σ) = true) (hs : gS (exec M (runFn M k) m (seqL l .skip) A σ) = σ1)
    (hb : lmap (fun x => T.get x.1 (gA (exec M (runFn M k) m (seqL l .skip) A σ))) bl = lmap (fun x => some x.2) bl) (hc : Tri P E n c (At E.ng n w0 (ofL bl) σ1) Q) : Tri P E n (seqL l c) (At E.ng n w0 A σ) Q := by
  refine Tri.runs0 K (hc.pre ?_) l (isN_eq hn)
  intro a w ha
  rw [hs] at ha
  exact ha.less fun p v hp => all_get hb (p, v) (ofL_mem hp)
/-! the code, in pieces -/
noncomputable def c0 : IR := bodyI f3
noncomputable def tl (c : IR) (n : Nat) : IR := Nat.rec (motive := fun _ => IR) c (fun _ ih => sndI ih) n
noncomputable def pc (n : Nat) : IR := fstI (tl c0 n)
noncomputable def l1 : List IR := [pc 0, pc 1, pc 2]
noncomputable def l2 : List IR := [pc 3]
noncomputable def l3 : List IR := [pc 4]
noncomputable def l4 : List IR := [pc 5]
noncomputable def l5 : List IR := [pc 6]
noncomputable def lP : List IR := [pc 7, pc 8, pc 9, pc 10, pc 11, pc 12, pc 13, pc 14, pc 15, pc 16, pc 17]
noncomputable def cT : IR := tl c0 18
theorem shape : c0 = seqL l1 (seqL l2 (seqL l3 (seqL l4 (seqL l5 (seqL lP cT))))) := by kernel_rfl
noncomputable def bB (k v y : Int) : List (Pos × V) := [(p0, .int .i64 k), (p1, .int .u64 v), (p2, .int .i64 y), (p7, .bool true)]
/-! numbers -/
theorem wrp {n : Int} (h1 : -9223372036854775808 ≤ n) (h2 : n < 9223372036854775808) : wrapK .i64 n = n := by
  cases n with
  | ofNat m =>
    show ws 18446744073709551616 9223372036854775808 (.ofNat m) = _
    have h2 : (m : Int) < 9223372036854775808 := h2
    have e : Nat.mod m 18446744073709551616 = m := Nat.mod_eq_of_lt (show m < 18446744073709551616 by omega)
    have e2 : Nat.blt m 9223372036854775808 = true := by rw [blt_eq]; simp; omega
    unfold ws
    simp only [e, e2]
  | negSucc m =>
    show ws 18446744073709551616 9223372036854775808 (.negSucc m) = _
    have h1 : -9223372036854775808 ≤ -((m : Int) + 1) := by rw [← Int.negSucc_eq]; exact h1
    have e : Nat.mod m 18446744073709551616 = m := Nat.mod_eq_of_lt (show m < 18446744073709551616 by omega)
    have e2 : Nat.blt m 9223372036854775808 = true := by rw [blt_eq]; simp; omega
    unfold ws
    simp only [e, e2]
noncomputable def ng (m : Nat) : Int := wrapK .i64 (Int.sub (.ofNat 0) (wrapK .i64 (Int.add (.negSucc m) (.ofNat 1))))
theorem ng_eq {m : Nat} (h : m < 9223372036854775808) : ng m = .ofNat m := by
  have e : Int.add (.negSucc m) (.ofNat 1) = -(m : Int) := by
    show Int.negSucc m + 1 = _
    rw [Int.negSucc_eq]; omega
  unfold ng
  rw [e, wrp (n := -(m : Int)) (by omega) (by omega)]
  show wrapK .i64 (0 - -(m : Int)) = _
  rw [wrp (by omega) (by omega)]
  show (0 : Int) - -(m : Int) = (m : Int)
  omega
noncomputable def kX (x : Int) : Int := wrapK .i64 (Int.add (wrapK .i64 (Int.tmod x (.ofNat 20))) (.ofNat 1))
noncomputable def yX (y : Int) (k : Nat) : Int := wrapK .i64 (Int.tmod y (.ofNat (Nat.succ k)))
theorem kX_eq (m : Nat) : kX (.ofNat m) = .ofNat (Nat.succ (m % 20)) := by
  have e : Int.tmod (.ofNat m) (.ofNat 20) = ((m % 20 : Nat) : Int) := rfl
  have := Nat.mod_lt m (show 0 < 20 by omega)
  unfold kX
  rw [e, wrp (n := ((m % 20 : Nat) : Int)) (by omega) (by omega)]
  show wrapK .i64 (((m % 20 : Nat) : Int) + 1) = _
  rw [wrp (by omega) (by omega)]
  rfl
theorem yX_eq (m k : Nat) (hk : k < 100) : yX (.ofNat m) k = .ofNat (m % (k + 1)) := by
  have e : Int.tmod (.ofNat m) (.ofNat (Nat.succ k)) = ((m % (k + 1) : Nat) : Int) := rfl
  have := Nat.mod_lt m (show 0 < k + 1 by omega)
  unfold yX
  rw [e, wrp (by omega) (by omega)]
  rfl
/-! what is left to run -/
noncomputable def fB (k v y : Int) : Hot.FJ := Hot.putV p0 (.int .i64 k) (Hot.putV p1 (.int .u64 v) (Hot.putV p2 (.int .i64 y) (Hot.putV p7 (.bool true) Hot.F0)))
theorem fB_ok (k v y : Int) : Hot.FA (ofL (bB k v y)) (fB k v y) := (((Hot.FA0.put p7 _).put p2 _).put p1 _).put p0 _
noncomputable def pcs : Hot.RJo → Option (Hot.FJ × St × List (Bool × Bool) × List (V × V)) := fun r => match r with | .nrm F σ L => some (F, σ, L.log, L.vs) | _ => none
noncomputable def putR (k v y : Int) : Hot.RJo := Hot.pcO [p8] [] machC 289 290 (seqL lP .skip) (fB k v y) sg0 ⟨[false, true, false, true], [], []⟩
noncomputable def tkR (F : Hot.FJ) (σ : St) (j : Nat) : Hot.RJo := Hot.pcO [] [] machC 289 290 cT (Hot.putV p2 (.int .i64 (.ofNat j)) F) σ ⟨[], [], []⟩
noncomputable def dgT (l : List (V × V)) : List (V × V) := lmap (fun x => (x.1, x.1)) l
theorem dgT_eq (l : List (V × V)) : ∀ x ∈ dgT l, x.1 = x.2 := by
  unfold dgT
  rw [lmap_eq]
  intro x hx
  obtain ⟨y, _, rfl⟩ := List.mem_map.1 hx
  rfl
/-- the last piece's answer and its notes -/
noncomputable def tkV (r : Hot.RJo) : Option (List V × List (Bool × Bool) × List (V × V)) := match r with | .ret F σ L => (match Hot.un (Hot.rsB (resI f3)) F σ with | some l => some (l, L.log, L.vs) | none => none) | _ => none
noncomputable def nts (r : Option (List V × List (Bool × Bool) × List (V × V))) : List (V × V) := match r with | some (_, _, l) => l | none => []
noncomputable def chk (k v y : Int) (js : List Nat) : Option (V × List (Bool × Bool) × List (V × V) × List (Option (List V × List (Bool × Bool) × List (V × V)))) := match putR k v y with
  | .nrm F σ L => some (Hot.getV p2 F, L.log, L.vs, lmap (fun j => tkV (tkR F σ j)) js)
  | _ => none
noncomputable def vs1 (r : Option (V × List (Bool × Bool) × List (V × V) × List (Option (List V × List (Bool × Bool) × List (V × V))))) : List (V × V) := match r with | some (_, _, l, _) => l | none => []
noncomputable def vs2 (r : Option (V × List (Bool × Bool) × List (V × V) × List (Option (List V × List (Bool × Bool) × List (V × V))))) : List (Option (List V × List (Bool × Bool) × List (V × V))) := match r with | some (_, _, _, l) => l | none => []
noncomputable def big (v : Int) : Bool := iltQ (.ofNat 2100000000000000) (wrapQ .u64 (Int.tmod v (.ofNat 1000)))
end Go.Proofs.YtbikpdgeldhkoaaDoor.Ir
