/-
  RateLess is true of every two items and every number: a fee more is more, a byte more is less, twice both is the same but for the id, what is less is not more.
  Conditions: none.
-/
import Derived.Test.YtgjmnplpefkbhaaRows
import Derived.Test.YtgjmnplpefkbhaaLessN
import Derived.Test.YtgjmnplpefkbhaaLessE
import Derived.Test.YtgjmnplpefkbhaaLaw
namespace Go.Proofs.Ytgjmnplpefkbhaa
set_option linter.unusedSimpArgs false
set_option linter.unusedVariables false
open Go Go.RowKit Go.ChangeShapes Go.WideShapes Go.ChangeAt

theorem walk (a b : Item) (n : Int) (ka : a.ok) (kb : b.ok) (hn : -9223372036854775808 ≤ n) (hn' : n ≤ 9223372036854775807) (w : World) :
    Calls Try.prog 3 #[.agg a.cells, .agg b.cells, .int .i64 n] w fun e w' => e = .returned (.bool true) ∧ Below w.heap.size w w' := by
  by_cases hxy : (a.fee % 1099511627776 * (b.bytes % 4000 + 1)) = (b.fee % 1099511627776 * (a.bytes % 4000 + 1))
  · by_cases hf : a.fee % 1099511627776 = 0
    · cases hab : worse (Item.mk a.id (a.fee % 1099511627776) (a.bytes % 4000 + 1)) (Item.mk b.id (b.fee % 1099511627776) (b.bytes % 4000 + 1)) with
      | true => exact walkEZT a b n ka kb hn hn' hxy hf hab w
      | false => exact walkEZF a b n ka kb hn hn' hxy hf hab w
    · cases hab : worse (Item.mk a.id (a.fee % 1099511627776) (a.bytes % 4000 + 1)) (Item.mk b.id (b.fee % 1099511627776) (b.bytes % 4000 + 1)) with
      | true => exact walkEPT a b n ka kb hn hn' hxy hf hab w
      | false => exact walkEPF a b n ka kb hn hn' hxy hf hab w
  · by_cases hf : a.fee % 1099511627776 = 0
    · cases hab : worse (Item.mk a.id (a.fee % 1099511627776) (a.bytes % 4000 + 1)) (Item.mk b.id (b.fee % 1099511627776) (b.bytes % 4000 + 1)) with
      | true => exact walkNZT a b n ka kb hn hn' hxy hf hab w
      | false => exact walkNZF a b n ka kb hn hn' hxy hf hab w
    · cases hab : worse (Item.mk a.id (a.fee % 1099511627776) (a.bytes % 4000 + 1)) (Item.mk b.id (b.fee % 1099511627776) (b.bytes % 4000 + 1)) with
      | true => exact walkNPT a b n ka kb hn hn' hxy hf hab w
      | false => exact walkNPF a b n ka kb hn hn' hxy hf hab w

/-- an item that came in -/
theorem item_of_ok {W : World} {base : Nat} {v : Value} (h : Value.okWide Try.prog W .any base 26 v) : ∃ x : Item, x.ok ∧ v = .agg x.cells := by
  have hu := Try.underlying26
  unfold Value.okWide at h
  rw [hu] at h
  obtain ⟨cs, rfl, hsz, ts, hts, _, hc⟩ := h
  have hts' : Try.prog.cellTypes Try.prog.depth 26 = some (List.replicate 32 5 ++ [24, 3]) := by kernel_rfl
  rw [hts] at hts'
  obtain rfl := Option.some.inj hts'
  have hs : cs.size = 34 := hsz.trans (by kernel_rfl)
  have cell : ∀ i, i < 34 → ∃ v u, cs[i]? = some v ∧ (List.replicate 32 5 ++ [24, 3])[i]? = some u ∧ Cell.okWide Try.prog W .any base u v := by
    intro i hi
    have hv := Array.getElem?_eq_getElem (xs := cs) (i := i) (by omega)
    obtain ⟨u, hu, hk⟩ := hc i _ hv
    refine ⟨_, u, hv, ?_, hk⟩
    have hlen : (List.replicate 32 (5 : TypeId) ++ [24, 3]).length = 34 := rfl
    rw [hlen, Nat.mod_eq_of_lt hi] at hu
    exact hu
  have int : ∀ {u : TypeId} {k : IntKind} {v : Value}, Try.prog.underlying u = some (.int k) → Cell.okWide Try.prog W .any base u v → ∃ n, v = .int k n ∧ k.has n := by
    intro u k v hu hk
    unfold Cell.okWide Cell.ok at hk
    rw [hu] at hk
    cases v <;> simp at hk
    exact ⟨_, by rw [hk.1], hk.2⟩
  obtain ⟨l, hl, hb⟩ := bytes_in cs 0 32 (fun i hi => by
    obtain ⟨v, u, h1, h2, h3⟩ := cell i (by omega)
    rw [List.getElem?_append_left (by simpa using hi), List.getElem?_replicate, if_pos hi] at h2
    obtain rfl := Option.some.inj h2
    obtain ⟨m, rfl, hm⟩ := int Try.underlying5 h3
    exact ⟨m, by rw [Nat.zero_add]; exact h1, by simpa [IntKind.has, IntKind.min, IntKind.max, IntKind.signed, IntKind.bits] using hm⟩)
  obtain ⟨v1, u1, f1, f2, f3⟩ := cell 32 (by omega)
  obtain ⟨v2, u2, g1, g2, g3⟩ := cell 33 (by omega)
  obtain rfl : u1 = 24 := by simpa using f2.symm
  obtain rfl : u2 = 3 := by simpa using g2.symm
  obtain ⟨m1, rfl, hm1⟩ := int Try.underlying24 f3
  obtain ⟨m2, rfl, hm2⟩ := int Try.underlying3 g3
  refine ⟨⟨⟨l, hl⟩, m1, m2⟩, ?_, ?_⟩
  · have k1 : 0 ≤ m1 ∧ m1 ≤ 18446744073709551615 := by simpa [IntKind.has, IntKind.min, IntKind.max, IntKind.signed, IntKind.bits] using hm1
    have k2 : -9223372036854775808 ≤ m2 ∧ m2 ≤ 9223372036854775807 := by simpa [IntKind.has, IntKind.min, IntKind.max, IntKind.signed, IntKind.bits] using hm2
    exact ⟨k1.1, k1.2, k2.1, k2.2⟩
  · congr 1
    apply Array.ext_getElem?
    intro i
    by_cases h1 : i < 32
    · have e := hb i h1
      rw [Nat.zero_add] at e
      rw [e]
      have hsz : (Hash.mk l hl).cells.size = 32 := Hash.size _
      simp only [Item.cells]
      rw [Array.getElem?_append_left (by omega), Hash.get?]
    · by_cases h2 : i = 32
      · subst h2; rw [f1, Item.fee_at]
      · by_cases h3 : i = 33
        · subst h3; rw [g1, Item.bytes_at]
        · rw [Array.getElem?_eq_none (by omega), Array.getElem?_eq_none (by rw [Item.size]; omega)]

theorem own : ownKnob Try.prog.godebug = none := by kernel_rfl

set_option maxRecDepth 100000 in
theorem lifted (os : Os) (started : os.Started) (H : Type) (enc : TypeId × Value → H) :
    ReturnsInHanded {} Try.checked os 3 .any (Rows.rateLessSpec.pre6 enc Try.prog Try.f3 Rows.rateLessRow.domain false) (Rows.rateLessSpec.post enc Try.prog Try.f3 false true false false) := by
  refine returnsInHanded_of_change (C := Try.checked) own started (by kernel_rfl) Try.func3
    (ChangeSpec.witness6 (enc := enc) (C := Try.checked) false ⟨#[], #[.agg zeroItem.cells, .agg zeroItem.cells, .int .i64 0], []⟩ 8 (by kernel_rfl) (by kernel_rfl) (by kernel_rfl) (by kernel_rfl)) ?_
  intro W base args ds gs before hval0 hW hcnd _
  have hval : ∀ (j : Nat) t v, Try.f3.params[j]? = some t → args[j]? = some v → Value.okWide Try.prog W .any base t v := hval0
  have hW' := hW
  obtain ⟨p, q, hA0, hV, rfl, hfz, hnd⟩ := hW
  have hA : DataW.TrodAll enc Try.prog W 0 (fun _ => true) true Try.f3.params.toList args.toList ds p := hA0
  rw [Try.params3] at hA hval
  obtain ⟨v0, vs0, d0, ds0, p0, q0, hargs, rfl, rfl, h0, r0⟩ := trodAll_cons hA
  obtain ⟨v1, vs1, d1, ds1, p1, q1, rfl, rfl, rfl, h1, r1⟩ := trodAll_cons r0
  obtain ⟨v2, vs2, d2, ds2, p2, q2, rfl, rfl, rfl, h2, r2⟩ := trodAll_cons r1
  obtain ⟨rfl, rfl, rfl⟩ := trodAll_nil r2
  obtain rfl : args = #[v0, v1, v2] := by cases args; simp_all
  obtain ⟨rfl, rfl⟩ := trodVars_none hV
  obtain ⟨a, ka, rfl⟩ := item_of_ok (hval 0 26 v0 rfl rfl)
  obtain ⟨b, kb, rfl⟩ := item_of_ok (hval 1 26 v1 rfl rfl)
  obtain ⟨n, rfl, rfl, rfl, w2⟩ := open_int Try.underlying3 (hval 2 3 v2 rfl rfl) h2
  have hn : -9223372036854775808 ≤ n ∧ n ≤ 9223372036854775807 := by simpa [Lit.wf, IntKind.min, IntKind.max, IntKind.signed, IntKind.bits] using w2
  simp only [List.append_nil] at hW' hA0
  refine (walk a b n ka kb hn.1 hn.2 W).mono fun e W' ⟨he, hg⟩ => ?_
  subst he
  refine ⟨_, rfl, post_of_below (pv := []) hW' (fun _ _ _ => (trodAll_cons_mk (shut_bool Try.underlying4 _) trodAll_mk0)) (fun sp hsp => all_stay (by kernel_rfl) hg sp _ _ _ _ ?_ hA0 (fun p hp => ⟨hW'.lt p (by simpa using hp), hsp p (by simpa using hp)⟩)) (fun _ _ => rfl) (by simp) hg (ok_one (by kernel_rfl) rfl (okWide_bool_mk Try.underlying4 _))⟩
  intro t ht
  have ht' : t = 26 ∨ t = 3 := by
    rw [Try.params3] at ht
    simpa using ht
  rcases ht' with rfl | rfl <;> exact ⟨by kernel_rfl, of_decide_eq_true (by kernel_rfl)⟩

theorem over : Rows.rateLessRow.holds Try.pinned (OpenSpec.ofChange Rows.rateLessSpec) :=
  OpenClaim.holds_of_wide 3 Try.f3 rfl rfl rfl rfl rfl rfl rfl ⟨rfl, rfl, rfl, rfl, rfl⟩ rfl rfl rfl rfl rfl (by kernel_rfl) Try.func3 (by kernel_rfl)
    (of_decide_eq_true (by kernel_rfl)) (by unfold Func.isWrapper; first | (rw [if_pos (by decide +kernel)]; kernel_rfl) | (rw [if_neg (by decide +kernel)]; exact ⟨rfl, rfl⟩))
    (fun os started H enc _ => lifted os started H enc)

theorem rateLess_holds : Rows.RateLessSaid := over
#print axioms rateLess_holds
end Go.Proofs.Ytgjmnplpefkbhaa
