/-
  A machine of checked functions is sound; a call seen with its own bytes alone. (Of no program.)
-/
import Derived.Test.YtknhohgnilamcaaGreatDoorEngQk
namespace Go.Proofs.YtknhohgnilamcaaGreatDoor
set_option linter.unusedVariables false
set_option linter.unusedSimpArgs false
set_option linter.unusedSectionVars false
open Go

section
variable {P : Program}
/-- is the machine's function the program's? -/
noncomputable def fnOk (E : Env P) (f : Nat) (e : FnE) : Bool := match P.funcs[f]? with
  | none => false
  | some fn => (match fn.body with
    | none => false
    | some c => (match fn.name == "runtime.NumGoroutine" with
      | true => false
      | false => (match e with
        | .code n b res => Nat.beq fn.ntmps n && okC E n (okD E n) b c && okRVs E res fn.results.toList
        | .spec _ => true)))
noncomputable def ndOk (E : Env P) (k : Nat) (v : Option FnE) : Bool := match v with | none => true | some e => fnOk E k e
noncomputable def tabOk (E : Env P) (t : T FnE) : (Pos → Pos) → Bool := T.rec (motive := fun _ => (Pos → Pos) → Bool) (fun _ => true)
  (fun _ v _ ihl ihr k => ndOk E ((k .H).nat - 1) v && ihl (fun p => k (.O p)) && ihr (fun p => k (.I p))) t
theorem tabOk_spec (E : Env P) : ∀ (t : T FnE) (k : Pos → Pos), tabOk E t k = true → ∀ p e, T.get p t = some e → fnOk E ((k p).nat - 1) e = true := by
  intro t
  induction t with
  | nil => intro k _ p e h; rw [T.get_nil] at h; cases h
  | node l v r ihl ihr =>
    intro k h p e hp
    have h : (ndOk E ((k .H).nat - 1) v && tabOk E l (fun p => k (.O p)) && tabOk E r (fun p => k (.I p))) = true := h
    simp only [Bool.and_eq_true] at h
    obtain ⟨⟨h1, h2⟩, h3⟩ := h
    cases p with
    | H =>
      have hp : v = some e := hp
      subst hp
      exact h1
    | O p => exact ihl _ h2 p e hp
    | I p => exact ihr _ h3 p e hp
theorem fnOk_is {E : Env P} {f : Nat} {e : FnE} (h : fnOk E f e = true) : ∃ fn c, P.funcs[f]? = some fn ∧ fn.body = some c ∧ (fn.name == "runtime.NumGoroutine") = false ∧
    ∀ n b res, e = .code n b res → fn.ntmps = n ∧ okC E n (okD E n) b c = true ∧ okRVs E res fn.results.toList = true := by
  unfold fnOk at h
  split at h
  · cases h
  · rename_i fn hf
    split at h
    · cases h
    · rename_i c hc
      split at h
      · cases h
      · rename_i hn
        refine ⟨fn, c, hf, hc, hn, ?_⟩
        rintro n b res rfl
        simp only [Bool.and_eq_true] at h
        exact ⟨nbeq h.1.1, h.1.2, h.2⟩
theorem mok_of {E : Env P} {M : Mach} (hpt : M.pt = E.pt) (hmt : MtOk P M.mt) (hm : P.follows .mixedOrders = true) (ht : tabOk E M.tab id = true)
    (hs : ∀ f s, T.get f M.tab = some (.spec s) → ∀ vs σ v σ', M.spec s vs σ = some (v, σ') → ∀ (ι : Nm) (w : World) (args : Array Value), Gl E.ng ι → Rep ι σ w → VRs ι vs args.toList → Calls P (f.nat - 1) args w (Post ι σ w v σ')) :
    MOk P E M (okD E) where
  pt := hpt
  mt := hmt
  rgd n := rgd_sound hpt hmt hm n
  code f n b res hf := by
    obtain ⟨fn, c, h1, h2, h3, h4⟩ := fnOk_is (tabOk_spec E _ _ ht f _ hf)
    obtain ⟨h5, h6, h7⟩ := h4 n b res rfl
    exact ⟨fn, c, h1, h2, h5, h3, h6, h7⟩
  spec f s hf := by
    obtain ⟨fn, c, h1, h2, h3, h4⟩ := fnOk_is (tabOk_spec E _ _ ht f _ hf)
    exact ⟨⟨fn, h1, by rw [h2]; rfl, h3⟩, hs f s hf⟩

theorem Rep.stays {ι : Nm} {σ : St} {w w' : World} (R : Rep ι σ w) (h : ∀ r, r < w.heap.size → w'.heap[r]? = w.heap[r]?) : Rep ι σ w' where
  ob p o hp := (R.ob p o hp).keep (.refl ι) (fun pl hpl _ => h _ (R.pl p pl hpl).lt)
  pl p pl hp := (R.pl p pl hp).heap (fun r hr o k => by rw [h r hr]; exact k)
  dom := R.dom
  hdom := R.hdom
  sep2 := R.sep2
  kin := R.kin
  kpres := R.kpres
  fin := R.fin
/-- a value that names nothing -/
def Bare (v : V) : Prop := ∀ ι ι' v', VR ι v v' → VR ι' v v'
theorem bare_int (k : IntKind) (n : Int) : Bare (.int k n) := fun ι ι' v' h => by cases h; exact .int _ _ (by assumption)
theorem bare_bool (b : Bool) : Bare (.bool b) := fun ι ι' v' h => by cases h; exact .bool _
theorem bare_agg {l : List V} (h : ∀ x ∈ l, Bare x) : Bare (.agg l) := fun ι ι' v' hv => by
  obtain ⟨c, rfl, h1, h2⟩ := hv.of_agg
  exact .mk_agg ⟨h1, fun i a b ha hb => h a (List.mem_of_getElem? ha) ι ι' b (h2 i a b ha hb)⟩
/-- a call that is handed one row of bytes, done where nothing else is known; elsewhere it comes to the same, and nothing turns -/
theorem call_bytes {ng : GS} {call : Pos → List V → St → Option (V × St)} (hc : CallOK P ng call) {f : Pos} {l : List V} {out : V} {q : Pos} {n : Nat} {σ2 : St} (hq : ∀ g ∈ ng, g + 1 < q.nat) (h0 : 0 < n) (hn : l.length = n) (hl : ∀ x ∈ l, Bare x)
    (hrun : call f [.slice q 0 n none 1] ⟨T.set (Ob.cells l [] false true) q .nil, q.succ⟩ = some (out, σ2)) (hout : Bare out)
    {ι : Nm} {w : World} {args : Array Value} {σ : St} {p : Pos} {o : Nat} {cap : Option Nat} {L : List V} {kin : List Pos} {fz ro : Bool} (hG : Gl ng ι) (R : Rep ι σ w) (hp : T.get p σ.h = some (.cells L kin fz ro)) (hL : (L.drop o).take n = l)
    (hv : VRs ι [.slice p o n cap 1] args.toList) : Calls P (f.nat - 1) args w (Post ι σ w out σ) := by
  obtain ⟨pl, a, c, s1, s2, s3, s4, s5, s6, s7⟩ := (hv.2 0 (.slice p o n cap 1) (args.toList[0]'(by have := hv.1; simp at this; simp; omega)) rfl (by simp)).slice_inv
  obtain ⟨pl', cc, e, j1, j2, j3, j4, j5, j6⟩ := R.ob p _ hp
  rw [s1] at j1; cases j1
  have hon : o + n ≤ L.length := by
    have : ((L.drop o).take n).length = n := by rw [hL, hn]
    simp at this
    omega
  let ι2 : Nm := fun x => if x = q then some ⟨pl.blk, pl.st + o, pl.sz, 0⟩ else if x.nat < q.nat then ι x else none
  have hι2q : ι2 q = some ⟨pl.blk, pl.st + o, pl.sz, 0⟩ := by simp [ι2]
  have hι2 : ∀ x y, ι2 x = some y → x = q ∧ y = ⟨pl.blk, pl.st + o, pl.sz, 0⟩ ∨ x ≠ q ∧ x.nat < q.nat ∧ ι x = some y := fun x y h => by
    simp only [ι2] at h
    split at h
    · rename_i hx; cases h; exact .inl ⟨hx, rfl⟩
    · rename_i hx
      split at h
      · rename_i hle; exact .inr ⟨hx, hle, h⟩
      · cases h
  have hget : ∀ x ob, T.get x (T.set (Ob.cells l [] false true) q .nil) = some ob → x = q ∧ ob = Ob.cells l [] false true := fun x ob h => by
    rw [T.get_set] at h
    split at h
    · rename_i hx; cases h; exact ⟨hx, rfl⟩
    · rw [T.get_nil] at h; cases h
  have R2 : Rep ι2 ⟨T.set (Ob.cells l [] false true) q .nil, q.succ⟩ w := by
    constructor
    · intro x ob h
      obtain ⟨rfl, rfl⟩ := hget x ob h
      refine ⟨_, cc, e, hι2q, rfl, j3, j4, by show pl.st + o + l.length ≤ cc.size; omega, fun i y z hy hz => ?_⟩
      have hy' : L[o + i]? = some y := by
        rw [← hL, List.getElem?_take] at hy
        split at hy
        · rw [List.getElem?_drop] at hy; exact hy
        · cases hy
      exact hl y (List.mem_of_getElem? hy) ι _ z (j6 (o + i) y z hy' (by rw [← Nat.add_assoc]; exact hz))
    · intro x y h
      rcases hι2 x y h with ⟨rfl, rfl⟩ | ⟨_, _, h⟩
      · exact ⟨fun _ => ⟨cc, e, j3, j4⟩, (fun h => by cases h), (fun h => by cases h), (fun h => by cases h), Nat.zero_le _⟩
      · exact R.pl x y h
    · intro x y h
      show x.nat < q.succ.nat
      rw [Pos.succ_nat]
      rcases hι2 x y h with ⟨rfl, _⟩ | ⟨_, h, _⟩ <;> omega
    · intro x ob h
      obtain ⟨rfl, _⟩ := hget x ob h
      show x.nat < x.succ.nat
      rw [Pos.succ_nat]; omega
    · intro x ob y ob' a1 b1 h1 _ h2 _ _ _ _ hne
      obtain ⟨rfl, _⟩ := hget x ob h1
      obtain ⟨rfl, _⟩ := hget y ob' h2
      exact absurd rfl hne
    · intro x ob y ob' h1 h2
      obtain ⟨rfl, rfl⟩ := hget x ob h1
      cases h2
    · intro x ob y h1 h2
      obtain ⟨rfl, rfl⟩ := hget x ob h1
      cases h2
    · intro x ob y ob' a1 b1 h1 h2
      obtain ⟨rfl, rfl⟩ := hget x ob h1
      cases h2
  have G2 : Gl ng ι2 := fun g x hg hx => by
    have hgq := hq g hg
    have hne : x ≠ q := fun h => by subst h; omega
    have : ι2 x = ι x := by simp only [ι2, if_neg hne]; rw [if_pos (by omega)]
    rw [this]; exact hG g x hg hx
  have hargs : VRs ι2 [.slice q 0 n none 1] args.toList := by
    have hlen := hv.1
    refine ⟨hlen, fun i x y hx hy => ?_⟩
    cases i with
    | zero =>
      simp at hx; subst hx
      have : y = args.toList[0]'(by have := hv.1; simp at this; simp; omega) := by
        have h0 : args.toList[0]? = some (args.toList[0]'(by have := hv.1; simp at this; simp; omega)) := by simp
        rw [h0] at hy; cases hy; rfl
      rw [this, s7]
      exact .slice q 0 n none 1 ⟨pl.blk, pl.st + o, pl.sz, 0⟩ a c hι2q rfl (fun _ h => by cases h) s4 (fun h => by rw [s5 h]; rfl) (by show pl.st + o + 0 + c * 1 ≤ pl.sz; omega)
    | succ i => simp at hx
  obtain ⟨hfn, h4⟩ := hc f _ _ _ _ hrun
  refine (h4 ι2 w args G2 R2 hargs).mono ?_
  rintro e' w' ⟨ι', v', rfl, q1, q2, q3⟩
  have hkeep : ∀ r, r < w.heap.size → w'.heap[r]? = w.heap[r]? := fun r hr => q3.keep r hr (by
    rintro ⟨x, ob, y, i1, i2, i3, i4⟩
    obtain ⟨rfl, rfl⟩ := hget x ob i1
    cases i2)
  refine ⟨ι, v', rfl, hout _ _ _ q1, R.stays hkeep, ⟨.refl ι, fun _ _ => rfl, Nat.le_refl _, q3.size, q3.os, q3.tape, q3.out, fun r hr _ => hkeep r hr, fun _ _ h => h, fun x y h1 h2 => by rw [h2] at h1; cases h1⟩⟩
/-- a call done where but some blocks that nobody may write are known; elsewhere it comes to the same, and nothing turns -/
theorem call_forget {ng : GS} {call : Pos → List V → St → Option (V × St)} (hc : CallOK P ng call) {f : Pos} {vs : List V} {out : V} {s2 σ2 : St} (hng : ∀ g ∈ ng, g + 1 < s2.nx.nat)
    (hwr : ∀ p o, T.get p s2.h = some o → o.wr = false ∧ o.kin = [] ∧ p.nat < s2.nx.nat) (hrun : call f vs s2 = some (out, σ2)) (hout : Bare out)
    {ι : Nm} {w : World} {args : Array Value} {σ : St} (hG : Gl ng ι) (R : Rep ι σ w) (hsub : ∀ p o, T.get p s2.h = some o → T.get p σ.h = some o ∧ ObR (fun x => if x.nat < s2.nx.nat then ι x else none) w p o)
    (hv : VRs (fun x => if x.nat < s2.nx.nat then ι x else none) vs args.toList) : Calls P (f.nat - 1) args w (Post ι σ w out σ) := by
  have hι2 : ∀ x y, (if x.nat < s2.nx.nat then ι x else none) = some y → x.nat < s2.nx.nat ∧ ι x = some y := fun x y h => by
    split at h
    · rename_i hx; exact ⟨hx, h⟩
    · cases h
  have R2 : Rep (fun x => if x.nat < s2.nx.nat then ι x else none) s2 w := by
    constructor
    · intro p o h; exact (hsub p o h).2
    · intro x y h; exact R.pl x y (hι2 x y h).2
    · intro x y h; exact (hι2 x y h).1
    · intro x o h; exact (hwr x o h).2.2
    · intro p o q o' a b h1 l1 h2 l2 h3 h4 h5 h6
      exact R.sep2 p o q o' a b (hsub p o h1).1 l1 (hsub q o' h2).1 l2 (hι2 p a h3).2 (hι2 q b h4).2 h5 h6
    · intro p o q o' h1 h2 h3; exact (hwr q o' h3).1
    · intro p o q h1 h2
      rw [(hwr p o h1).2.1] at h2; cases h2
    · intro p o q o' a b h1 h2
      rw [(hwr p o h1).1] at h2; cases h2
  have G2 : Gl ng (fun x => if x.nat < s2.nx.nat then ι x else none) := fun g x hg hx => by
    have hgq := hng g hg
    have : x.nat < s2.nx.nat := by omega
    simp only [if_pos this]
    exact hG g x hg hx
  obtain ⟨hfn, h4⟩ := hc f _ _ _ _ hrun
  refine (h4 _ w args G2 R2 hv).mono ?_
  rintro e' w' ⟨ι', v', rfl, q1, q2, q3⟩
  have hkeep : ∀ r, r < w.heap.size → w'.heap[r]? = w.heap[r]? := fun r hr => q3.keep r hr (by
    rintro ⟨x, ob, y, i1, i2, i3, i4⟩
    rw [(hwr x ob i1).1] at i2; cases i2)
  exact ⟨ι, v', rfl, hout _ _ _ q1, R.stays hkeep, ⟨.refl ι, fun _ _ => rfl, Nat.le_refl _, q3.size, q3.os, q3.tape, q3.out, fun r hr _ => hkeep r hr, fun _ _ h => h, fun x y h1 h2 => by rw [h2] at h1; cases h1⟩⟩
end
end Go.Proofs.YtknhohgnilamcaaGreatDoor
