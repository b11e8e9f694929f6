/-
  A beginning: some cells are known, and nobody writes them. (Of no program.)
-/
import Derived.Test.YtknhohgnilamcaaGreatDoorEngKy
import Derived.Stop.LaidErr
namespace Go.Proofs.YtknhohgnilamcaaGreatDoor
set_option linter.unusedVariables false
set_option linter.unusedSimpArgs false
set_option linter.unusedSectionVars false
open Go Go.RowKit Go.ChangeShapes

/-- a cell that is known: its name, where it lies, what it holds -/
structure KC where
  nm : Pos
  blk : Nat
  off : Nat
  v : V
noncomputable def hOf : List KC → T Ob | [] => .nil | x :: l => T.set (.cells [x.v] [] false true) x.nm (hOf l)
def szAt (w : World) (b : Nat) : Nat := match w.heap[b]? with | some (.cells c _ _) => c.size | _ => 0
def nmOf (w : World) : List KC → Nm | [], _ => none | x :: l, p => if p = x.nm then some ⟨x.blk, x.off, szAt w x.blk, 0⟩ else nmOf w l p
theorem hOf_get (w : World) : ∀ (K : List KC) (p : Pos) (o : Ob), T.get p (hOf K) = some o → ∃ x ∈ K, x.nm = p ∧ o = .cells [x.v] [] false true ∧ nmOf w K p = some ⟨x.blk, x.off, szAt w x.blk, 0⟩
  | [], p, o, h => by simp [hOf, T.get_nil] at h
  | x :: l, p, o, h => by
    simp only [hOf, T.get_set] at h
    split at h
    · rename_i e
      cases h
      exact ⟨x, by simp, e.symm, rfl, by simp [nmOf, e]⟩
    · rename_i e
      obtain ⟨y, h1, h2, h3, h4⟩ := hOf_get w l p o h
      exact ⟨y, List.mem_cons_of_mem _ h1, h2, h3, by simp only [nmOf, if_neg e]; exact h4⟩
theorem nmOf_get (w : World) : ∀ (K : List KC) (p : Pos) (pl : Pl), nmOf w K p = some pl → ∃ x ∈ K, x.nm = p ∧ pl = ⟨x.blk, x.off, szAt w x.blk, 0⟩
  | [], p, pl, h => by cases h
  | x :: l, p, pl, h => by
    simp only [nmOf] at h
    split at h
    · rename_i e
      cases h
      exact ⟨x, by simp, e.symm, rfl⟩
    · obtain ⟨y, h1, h2, h3⟩ := nmOf_get w l p pl h
      exact ⟨y, List.mem_cons_of_mem _ h1, h2, h3⟩
theorem Rep.ofCells {w : World} {K : List KC} {nx : Pos} (hpl : ∀ x ∈ K, ∃ c e, w.heap[x.blk]? = some (.cells c e) ∧ x.off < c.size ∧ ∀ y, c[x.off]? = some y → VR (nmOf w K) x.v y)
    (hne : ∀ x ∈ K, ∀ y ∈ K, x.nm ≠ y.nm → x.blk ≠ y.blk ∨ x.off ≠ y.off) (hnx : ∀ x ∈ K, x.nm.nat < nx.nat) : Rep (nmOf w K) ⟨hOf K, nx⟩ w where
  ob p o h := by
    obtain ⟨x, h1, h2, rfl, h4⟩ := hOf_get w K p o h
    obtain ⟨c, e, k1, k2, k3⟩ := hpl x h1
    have hs : szAt w x.blk = c.size := by unfold szAt; rw [k1]
    refine ⟨_, c, e, h4, rfl, k1, by rw [hs], by show x.off + 1 ≤ c.size; omega, fun i a b ha hb => ?_⟩
    cases i with
    | zero => simp at ha; subst ha; exact k3 b (by simpa using hb)
    | succ i => simp at ha
  pl p pl h := by
    obtain ⟨x, h1, h2, rfl⟩ := nmOf_get w K p pl h
    obtain ⟨c, e, k1, k2, k3⟩ := hpl x h1
    have hs : szAt w x.blk = c.size := by unfold szAt; rw [k1]
    exact ⟨fun _ => ⟨c, e, k1, by rw [hs]⟩, (fun h => by cases h), (fun h => by cases h), (fun h => by cases h), Nat.zero_le _⟩
  dom p pl h := by
    obtain ⟨x, h1, rfl, _⟩ := nmOf_get w K p pl h
    exact hnx x h1
  hdom p o h := by
    obtain ⟨x, h1, rfl, _⟩ := hOf_get w K p o h
    exact hnx x h1
  sep2 p o q o' a b h1 _ h2 _ ha hb hab hqp := by
    obtain ⟨x, m1, m2, rfl, m4⟩ := hOf_get w K p o h1
    obtain ⟨y, n1, n2, rfl, n4⟩ := hOf_get w K q o' h2
    have ha : some a = some _ := ha.symm.trans m4
    have hb : some b = some _ := hb.symm.trans n4
    cases ha; cases hb
    refine .inr (.inr ⟨rfl, rfl, ?_⟩)
    rcases hne x m1 y n1 (by rw [m2, n2]; exact fun e => hqp e.symm) with h | h
    · exact absurd hab h
    · show x.off + 1 ≤ y.off ∨ y.off + 1 ≤ x.off
      omega
  kin p o q o' h1 h2 := by
    obtain ⟨x, _, _, rfl, _⟩ := hOf_get w K p o h1
    cases h2
  kpres p o q h1 h2 := by
    obtain ⟨x, _, _, rfl, _⟩ := hOf_get w K p o h1
    cases h2
  fin p o q o' a b h1 h2 := by
    obtain ⟨x, _, _, rfl, _⟩ := hOf_get w K p o h1
    cases h2

/-! what a row's list of sentinels gives -/
def sentRow (nm : String) (x : String × List UInt8) : String × DataW Unit := (x.1, .iface nm (.ptr (.agg [.lit (.string x.2)])))
structure SentIs (P : Program) (W : World) (tp : Nat) (n : String) (a : Addr) : Prop where
  glob : ∀ g, P.globalNamed n = some g → ∃ e, W.heap[g]? = some (.cells #[.iface tp (.pointer (some a))] e)
  spot : a.spot = none
  heap : ∃ c e, W.heap[a.block]? = some (.cells c e) ∧ a.off < c.size
/-- the places, one after another -/
def sentPs : List Nat → List Addr → List MemPlace | g :: gs, a :: as_ => .cell g 0 :: .cell a.block a.off :: sentPs gs as_ | _, _ => []
theorem sents_of_laid {P : Program} {W : World} {nm : String} {ti tp te ts : TypeId} {ms : Array (String × TypeId)} {f : Field} (hi : P.underlying ti = some (.interface ms)) (hrow : ∀ u, P.typeName? 3 u = some nm → u = tp)
    (hp : P.underlying tp = some (.pointer te)) (he : P.underlying te = some (.struct #[f])) (hft : f.type = ts) (hfo : f.offset = 0) (hs : P.underlying ts = some .string) (hc : P.cellsOf te = 1) (hcs : P.cellsOf ts = 1) :
    ∀ (l : List (String × List UInt8)) (gs : List Nat) (ps : List MemPlace), l.map (fun x => P.globalNamed x.1) = gs.map some → (∀ g ∈ gs, (P.globals[g]?).map (·.type) = some ti) → DataW.LaidVars P W (l.map (sentRow nm)) ps →
      (∀ b off, MemPlace.cell b off ∈ ps → (∃ c t, W.heap[b]? = some (.cells c t (0, 0))) ∧ ∀ u v, W.cell? ⟨b, off, none⟩ = some (.iface u v) → Value.okWide P W .any 0 u v) →
      ∃ as_ : List Addr, as_.length = gs.length ∧ ps = sentPs gs as_ ∧ ∀ (i : Nat) x a, l[i]? = some x → as_[i]? = some a → SentIs P W tp x.1 a
  | [], [], ps, _, _, h, _ => ⟨[], rfl, h, fun i x a h => by simp at h⟩
  | [], _ :: _, _, h, _, _, _ => by simp at h
  | _ :: _, [], _, h, _, _, _ => by simp at h
  | (n, text) :: l, g :: gs, ps, hg, ht, h, hrows => by
    simp only [List.map_cons, List.cons.injEq] at hg
    obtain ⟨g0, t0, cs0, f0, p0, q0, hg0, ht0, hv0, hd0, hr, e0⟩ := h
    have hgg : P.globalNamed n = some g := hg.1
    obtain rfl := Option.some.inj (hgg.symm.trans hg0)
    obtain rfl := Option.some.inj ((ht g (by simp)).symm.trans ht0)
    subst e0
    obtain ⟨l0⟩ := cs0
    have ok0 : ∀ u v, l0 = [.iface u v] → Value.okWide P W .any 0 u v := fun u v e => by
      subst e
      exact (hrows g 0 (by simp [MemPlace.row])).2 u v (by simpa using World.var?_cell hgg hv0 0)
    obtain ⟨a, s0, rfl, hc0, hs0, hz0, rfl⟩ := errorString_of_trod hi hrow hp he hft hfo hs hc hcs hd0 ok0
    obtain ⟨as_, k1, k2, k3⟩ := sents_of_laid hi hrow hp he hft hfo hs hc hcs l gs q0 hg.2 (fun g hg => ht g (by simp [hg])) hr (fun b off hm => hrows b off (List.mem_append_right _ hm))
    refine ⟨a :: as_, by simp [k1], by subst k2; simp [sentPs, MemPlace.row], fun i x b hx hb => ?_⟩
    cases i with
    | succ i => exact k3 i x b (by simpa using hx) (by simpa using hb)
    | zero =>
      simp at hx hb
      subst hx; subst hb
      unfold World.cell? at hc0
      split at hc0
      · rename_i c e fr hb
        split at hc0
        · cases hc0
        · rename_i hsp
          have hlt : a.off < c.size := (Array.getElem?_eq_some_iff.1 hc0).1
          obtain ⟨c', t', hb'⟩ := (hrows a.block a.off (by simp [MemPlace.row])).1
          rw [hb] at hb'; cases hb'
          refine ⟨fun g' hg' => ?_, by simpa using hsp, ⟨c, e, hb, hlt⟩⟩
          obtain rfl := Option.some.inj (hgg.symm.trans hg')
          obtain ⟨c2, t2, hb2⟩ := (hrows g 0 (by simp [MemPlace.row])).1
          unfold World.var? at hv0
          rw [hgg] at hv0
          simp only [Option.bind_some, hb2, Option.some.injEq] at hv0
          exact ⟨t2, by rw [hb2, hv0]⟩
      · cases hc0

/-- the cells known at the beginning: each variable, and what it points to -/
noncomputable def KOf (tp base : Nat) : Nat → List Nat → List Addr → List KC
  | i, g :: gs, a :: as_ => ⟨natPos g, g, 0, .iface tp (.ptr (natPos (base + i)) 0)⟩ :: ⟨natPos (base + i), a.block, a.off, .u⟩ :: KOf tp base (i + 1) gs as_
  | _, _, _ => []
noncomputable def hG (tp base : Nat) : Nat → List Nat → T Ob
  | i, g :: gs => T.set (.cells [.iface tp (.ptr (natPos (base + i)) 0)] [] false true) (natPos g) (T.set (.cells [.u] [] false true) (natPos (base + i)) (hG tp base (i + 1) gs))
  | _, [] => .nil
theorem hOf_KOf (tp base : Nat) : ∀ (i : Nat) (gs : List Nat) (as_ : List Addr), as_.length = gs.length → hOf (KOf tp base i gs as_) = hG tp base i gs
  | i, [], [], _ => rfl
  | i, g :: gs, a :: as_, h => by simp only [KOf, hOf, hG]; rw [hOf_KOf tp base (i + 1) gs as_ (by simpa using h)]
  | i, [], _ :: _, h => by simp at h
  | i, _ :: _, [], h => by simp at h
theorem KOf_place (tp base : Nat) : ∀ (i : Nat) (gs : List Nat) (as_ : List Addr), (KOf tp base i gs as_).map (fun x => MemPlace.cell x.blk x.off) = sentPs gs as_
  | i, [], [] => rfl
  | i, [], _ :: _ => rfl
  | i, _ :: _, [] => rfl
  | i, g :: gs, a :: as_ => by simp only [KOf, sentPs, List.map_cons, KOf_place tp base (i + 1) gs as_]
theorem KOf_mem {tp base : Nat} : ∀ {i : Nat} {gs : List Nat} {as_ : List Addr} {x : KC}, x ∈ KOf tp base i gs as_ → ∃ (j : Nat) (g : Nat) (a : Addr), gs[j]? = some g ∧ as_[j]? = some a ∧
    (x = ⟨natPos g, g, 0, .iface tp (.ptr (natPos (base + (i + j))) 0)⟩ ∨ x = ⟨natPos (base + (i + j)), a.block, a.off, .u⟩)
  | i, [], [], x, h => by cases h
  | i, [], _ :: _, x, h => by cases h
  | i, _ :: _, [], x, h => by cases h
  | i, g :: gs, a :: as_, x, h => by
    simp only [KOf, List.mem_cons] at h
    rcases h with h | h | h
    · exact ⟨0, g, a, rfl, rfl, .inl h⟩
    · exact ⟨0, g, a, rfl, rfl, .inr h⟩
    · obtain ⟨j, g', a', h1, h2, h3⟩ := KOf_mem h
      have e : i + 1 + j = i + (j + 1) := by omega
      rw [e] at h3
      exact ⟨j + 1, g', a', by simpa using h1, by simpa using h2, h3⟩
theorem KOf_sent {tp base : Nat} : ∀ {i : Nat} {gs : List Nat} {as_ : List Addr} {j : Nat} {g : Nat} {a : Addr}, gs[j]? = some g → as_[j]? = some a →
    (⟨natPos (base + (i + j)), a.block, a.off, .u⟩ : KC) ∈ KOf tp base i gs as_ ∧ (⟨natPos g, g, 0, .iface tp (.ptr (natPos (base + (i + j))) 0)⟩ : KC) ∈ KOf tp base i gs as_
  | i, [], _, j, g, a, h, _ => by simp at h
  | i, _ :: _, [], j, g, a, _, h => by simp at h
  | i, g :: gs, a :: as_, j, g', a', h1, h2 => by
    cases j with
    | zero => simp at h1 h2; subst h1; subst h2; simp [KOf]
    | succ j =>
      obtain ⟨k1, k2⟩ := KOf_sent (tp := tp) (base := base) (i := i + 1) (gs := gs) (as_ := as_) (j := j) (g := g') (a := a') (by simpa using h1) (by simpa using h2)
      have e : i + 1 + j = i + (j + 1) := by omega
      rw [e] at k1 k2
      exact ⟨by simp only [KOf, List.mem_cons]; exact .inr (.inr k1), by simp only [KOf, List.mem_cons]; exact .inr (.inr k2)⟩
theorem inj_of_nodup {α β : Type} {f : α → β} : ∀ {l : List α}, (l.map f).Nodup → ∀ x ∈ l, ∀ y ∈ l, f x = f y → x = y
  | [], _, x, hx, _, _, _ => by cases hx
  | z :: l, h, x, hx, y, hy, he => by
    simp only [List.map_cons, List.nodup_cons] at h
    rcases List.mem_cons.1 hx with rfl | hx
    · rcases List.mem_cons.1 hy with rfl | hy
      · rfl
      · exact absurd (by rw [he]; exact List.mem_map.2 ⟨y, hy, rfl⟩) h.1
    · rcases List.mem_cons.1 hy with hy | hy
      · exact absurd (by rw [← hy, ← he]; exact List.mem_map.2 ⟨x, by assumption, rfl⟩) h.1
      · exact inj_of_nodup h.2 x (by assumption) y hy he
theorem natPos_inj {m n : Nat} (h : natPos m = natPos n) : m = n := by
  have := congrArg Pos.nat h
  rw [natPos_nat, natPos_nat] at this
  omega
theorem nmOf_mem {w : World} : ∀ {K : List KC}, (∀ x ∈ K, ∀ y ∈ K, x.nm = y.nm → x = y) → ∀ x ∈ K, nmOf w K x.nm = some ⟨x.blk, x.off, szAt w x.blk, 0⟩ := by
  intro K hK x hx
  cases h : nmOf w K x.nm with
  | none =>
    exfalso
    clear hK
    induction K with
    | nil => cases hx
    | cons z l ih =>
      simp only [nmOf] at h
      split at h
      · cases h
      · rename_i e
        rcases List.mem_cons.1 hx with rfl | hx
        · exact e rfl
        · exact ih hx h
  | some pl =>
    obtain ⟨y, h1, h2, rfl⟩ := nmOf_get w K x.nm pl h
    rw [hK y h1 x hx h2]
/-- THE BEGINNING, where a row's sentinels are laid -/
theorem begin_of {P : Program} {W : World} {tp base : Nat} {l : List (String × List UInt8)} {gs : List Nat} {as_ : List Addr} {nx : Pos} (hlen : as_.length = gs.length) (hll : l.length = gs.length)
    (hg : l.map (fun x => P.globalNamed x.1) = gs.map some) (hb : ∀ g ∈ gs, g < base) (hnd : (sentPs gs as_).Nodup) (hsent : ∀ (i : Nat) x a, l[i]? = some x → as_[i]? = some a → SentIs P W tp x.1 a) (hnx : base + gs.length < nx.nat) :
    ∃ ι, Rep ι ⟨hG tp base 0 gs, nx⟩ W ∧ Gl gs ι := by
  have hplace : ∀ x ∈ KOf tp base 0 gs as_, ∀ y ∈ KOf tp base 0 gs as_, MemPlace.cell x.blk x.off = MemPlace.cell y.blk y.off → x = y := inj_of_nodup (f := fun x : KC => MemPlace.cell x.blk x.off) (by rw [KOf_place]; exact hnd)
  have hname : ∀ x ∈ KOf tp base 0 gs as_, ∀ y ∈ KOf tp base 0 gs as_, x.nm = y.nm → x = y := by
    intro x hx y hy he
    obtain ⟨j, g, a, h1, h2, h3⟩ := KOf_mem hx
    obtain ⟨k, g', a', k1, k2, k3⟩ := KOf_mem hy
    have hgb := hb g (List.mem_of_getElem? h1)
    have hgb' := hb g' (List.mem_of_getElem? k1)
    rcases h3 with rfl | rfl <;> rcases k3 with rfl | rfl
    · have := natPos_inj he
      subst this
      exact hplace _ hx _ hy rfl
    · have := natPos_inj he; omega
    · have := natPos_inj he; omega
    · have := natPos_inj he
      have : j = k := by omega
      subst this
      rw [h2] at k2; cases k2; rfl
  have hvar : ∀ (j : Nat) g a, gs[j]? = some g → as_[j]? = some a → (∃ e, W.heap[g]? = some (.cells #[.iface tp (.pointer (some a))] e)) ∧ a.spot = none ∧ ∃ c e, W.heap[a.block]? = some (.cells c e) ∧ a.off < c.size := by
    intro j g a h1 h2
    have hj : j < l.length := by rw [hll]; exact (List.getElem?_eq_some_iff.1 h1).1
    have hx : l[j]? = some l[j] := List.getElem?_eq_getElem hj
    obtain ⟨v1, v2, v3⟩ := hsent j _ a hx h2
    have hgn : P.globalNamed l[j].1 = some g := by
      have := congrArg (fun z => z[j]?) hg
      simp only [List.getElem?_map, hx, h1, Option.map_some] at this
      exact Option.some.inj this
    exact ⟨v1 g hgn, v2, v3⟩
  refine ⟨nmOf W (KOf tp base 0 gs as_), ?_, ?_⟩
  · rw [← hOf_KOf tp base 0 gs as_ hlen]
    refine Rep.ofCells ?_ ?_ ?_
    · intro x hx
      obtain ⟨j, g, a, h1, h2, h3⟩ := KOf_mem hx
      obtain ⟨⟨e, v1⟩, v2, c, e2, v3, v4⟩ := hvar j g a h1 h2
      rcases h3 with rfl | rfl
      · refine ⟨_, e, v1, by simp, fun y hy => ?_⟩
        simp at hy
        subst hy
        have hm := nmOf_mem (w := W) hname _ (KOf_sent (tp := tp) (base := base) (i := 0) h1 h2).1
        have := VR.ptr (ι := nmOf W (KOf tp base 0 gs as_)) _ 0 _ hm rfl
        have ha : a = ⟨a.block, a.off + 0, none⟩ := by rw [← v2]; rfl
        rw [ha]
        exact .iface _ _ _ this
      · exact ⟨c, e2, v3, v4, fun y _ => .u y⟩
    · intro x hx y hy hne
      by_cases h : x.blk = y.blk
      · right
        intro ho
        exact hne (congrArg KC.nm (hplace x hx y hy (by rw [h, ho])))
      · exact .inl h
    · intro x hx
      obtain ⟨j, g, a, h1, h2, h3⟩ := KOf_mem hx
      have hgb := hb g (List.mem_of_getElem? h1)
      have hj : j < gs.length := (List.getElem?_eq_some_iff.1 h1).1
      rcases h3 with rfl | rfl
      · show (natPos g).nat < _; rw [natPos_nat]; omega
      · show (natPos (base + (0 + j))).nat < _; rw [natPos_nat]; omega
  · intro g p hgm hp
    obtain ⟨j, hj⟩ := List.getElem?_of_mem hgm
    have hja : j < as_.length := by rw [hlen]; exact (List.getElem?_eq_some_iff.1 hj).1
    have hm := nmOf_mem (w := W) hname _ (KOf_sent (tp := tp) (base := base) (i := 0) hj (List.getElem?_eq_getElem hja)).2
    have e : p = natPos g := Pos.nat_inj (by rw [natPos_nat]; exact hp)
    subst e
    exact ⟨_, hm, rfl, rfl, rfl⟩
end Go.Proofs.YtknhohgnilamcaaGreatDoor
