/-
  rate.Item.below as a contract of the machine: which of two items has the lesser fee for its bytes; numbers that need not be known.
-/
import Derived.Test.YtknhohgnilamcaaGreatDoorSsp
import Derived.Test.YtknhohgnilamcaaGreatDoorRateD
namespace Go.Proofs.YtknhohgnilamcaaGreatDoor.Ir
set_option linter.unusedVariables false
set_option linter.unusedSimpArgs false
set_option maxRecDepth 100000
open Go Go.Proofs Go.Proofs.YtknhohgnilamcaaGreatDoor Go.RowKit
theorem Rep_below {ι : Nm} {σ : St} {w w' : World} (R : Rep ι σ w) (hb : Below w.heap.size w w') : Rep ι σ w' ∧ G σ.nx.nat ι σ w ι σ w' := by
  have hlt : ∀ q pl, ι q = some pl → pl.blk < w.heap.size := fun q pl hq => (R.pl q pl hq).lt
  refine ⟨⟨fun p o hp => (R.ob p o hp).keep (.refl ι) fun pl h3 _ => hb.block _ (hlt p pl h3), fun p pl hp => (R.pl p pl hp).heap (fun r hr o k => (hb.block r hr).trans k), R.dom, R.hdom, R.sep2, R.kin, R.kpres, R.fin⟩,
    ⟨.refl ι, fun _ _ => rfl, Nat.le_refl _, hb.size, hb.os, hb.tape, hb.output, fun r hr _ => hb.block r hr, fun _ _ h => h, fun q pl h1 h2 => by rw [h2] at h1; cases h1⟩⟩
/-- rows of numbers, held against one another -/
noncomputable def lless (a : List Nat) : List Nat → Bool := List.rec (motive := fun _ => List Nat → Bool) (fun b => List.rec (motive := fun _ => Bool) false (fun _ _ _ => true) b)
  (fun x _ ih b => List.rec (motive := fun _ => Bool) false (fun y b _ => Bool.rec (motive := fun _ => Bool) (Bool.rec (motive := fun _ => Bool) (ih b) false (Nat.blt y x)) true (Nat.blt x y)) b) a
theorem lless_eq : ∀ (a b : List Nat), (∀ x ∈ a, x < 256) → (∀ x ∈ b, x < 256) → lless a b = decide (Rt.lcmp (a.map UInt8.ofNat) (b.map UInt8.ofNat) < 0)
  | [], [], _, _ => rfl
  | [], _ :: _, _, _ => rfl
  | _ :: _, [], _, _ => rfl
  | x :: a, y :: b, ha, hb => by
    have hx := ha x (by simp)
    have hy := hb y (by simp)
    have hlt : ∀ {m n : Nat}, m < 256 → n < 256 → (UInt8.ofNat m < UInt8.ofNat n ↔ m < n) := fun hm hn => by
      rw [UInt8.lt_iff_toNat_lt, UInt8.toNat_ofNat_of_lt' hm, UInt8.toNat_ofNat_of_lt' hn]
    have e : lless (x :: a) (y :: b) = Bool.rec (motive := fun _ => Bool) (Bool.rec (motive := fun _ => Bool) (lless a b) false (Nat.blt y x)) true (Nat.blt x y) := rfl
    rw [e, blt_eq, blt_eq, lless_eq a b (fun z hz => ha z (by simp [hz])) (fun z hz => hb z (by simp [hz]))]
    show _ = decide ((if UInt8.ofNat x < UInt8.ofNat y then -1 else if UInt8.ofNat y < UInt8.ofNat x then 1 else Rt.lcmp (a.map UInt8.ofNat) (b.map UInt8.ofNat)) < 0)
    by_cases h1 : x < y
    · rw [if_pos ((hlt hx hy).2 h1)]; simp [h1]
    · rw [if_neg (fun h => h1 ((hlt hx hy).1 h))]
      by_cases h2 : y < x
      · rw [if_pos ((hlt hy hx).2 h2)]; simp [h1, h2]
      · rw [if_neg (fun h => h2 ((hlt hy hx).1 h))]; simp [h1, h2]
/-- worse: t says whether the second one's digest is less -/
noncomputable def blw (t : Bool) (x n y m : Nat) : Bool := Bool.rec (motive := fun _ => Bool) (Bool.rec (motive := fun _ => Bool) false t (Nat.beq (Nat.mul x (Nat.max m 1)) (Nat.mul y (Nat.max n 1)))) true (Nat.blt (Nat.mul x (Nat.max m 1)) (Nat.mul y (Nat.max n 1)))
theorem blw_eq (t : Bool) (x n y m : Nat) : blw t x n y m = (decide (x * max m 1 < y * max n 1) || (decide (x * max m 1 = y * max n 1) && t)) := by
  unfold blw
  rw [blt_eq, nbeq_eq]
  show Bool.rec (motive := fun _ => Bool) (Bool.rec (motive := fun _ => Bool) false t (decide (x * max m 1 = y * max n 1))) true (decide (x * max m 1 < y * max n 1)) = _
  by_cases h1 : x * max m 1 < y * max n 1
  · simp [h1]
  · by_cases h2 : x * max m 1 = y * max n 1 <;> simp [h1, h2]
noncomputable def itemOf (l : List V) : Option (List Nat × Nat × Nat) := match ldrop l 32 with
  | [.int .u64 (.ofNat x), .int .i64 (.ofNat n)] => (match unU (ltake l 32) with | some r => (match Nat.beq (llen r) 32 with | true => some (r, x, n) | false => none) | none => none)
  | _ => none
theorem itemOf_eq {l : List V} {r : List Nat} {x n : Nat} (h : itemOf l = some (r, x, n)) : l = r.map vB ++ [.int .u64 (.ofNat x), .int .i64 (.ofNat n)] ∧ r.length = 32 ∧ ∀ y ∈ r, y < 256 := by
  unfold itemOf at h
  split at h
  · rename_i x' n' hd
    split at h
    · rename_i r' hr
      split at h
      · rename_i hl
        cases h
        obtain ⟨h1, h2⟩ := unU_eq _ _ hr
        have hl := Nat.eq_of_beq_eq_true hl
        rw [llen_eq] at hl
        refine ⟨?_, hl, h2⟩
        rw [ltake_eq] at h1
        rw [ldrop_eq] at hd
        rw [← h1, ← hd, List.take_append_drop]
      · cases h
    · cases h
  · cases h
noncomputable def belSpec (vs : List V) (σ : St) : Option (V × St) := match vs with
  | [.agg a, .agg b] => (match itemOf a, itemOf b with | some (ia, x, n), some (ib, y, m) => some (.bool (blw (lless ib ia) x n y m), σ) | _, _ => none)
  | _ => none
theorem u8_nat {n : Nat} (h : n < 256) : Value.int .u8 (.ofNat n) = Rt.bv (UInt8.ofNat n) := by
  unfold Rt.bv
  rw [UInt8.toNat_ofNat_of_lt' h]
  rfl
theorem item_of_vr {ι : Nm} {r : List Nat} {x n : Nat} (hl : r.length = 32) (hb : ∀ y ∈ r, y < 256) {c : Array Value} (hv : VRs ι (r.map vB ++ [.int .u64 (.ofNat x), .int .i64 (.ofNat n)]) c.toList) :
    ∃ it : Rt.Item, c = it.cells ∧ it.ok ∧ it.id.l = r.map UInt8.ofNat ∧ it.fee = (x : Int) ∧ it.bytes = (n : Int) := by
  refine ⟨⟨⟨r.map UInt8.ofNat, by simpa using hl⟩, (x : Int), (n : Int)⟩, ?_, ?_, rfl, rfl, rfl⟩
  · apply Array.toList_inj.1
    have e : (⟨⟨r.map UInt8.ofNat, by simpa using hl⟩, (x : Int), (n : Int)⟩ : Rt.Item).cells.toList = r.map (fun k => Value.int .u8 (.ofNat k)) ++ [.int .u64 (.ofNat x), .int .i64 (.ofNat n)] := by
      simp only [Rt.Item.cells, Rt.Hash.cells, Array.toList_append, List.map_map]
      congr 1
      refine List.map_congr_left fun k hk => ?_
      exact (u8_nat (hb k hk)).symm
    rw [e]
    refine List.ext_getElem? fun i => ?_
    have hlen := hv.1
    by_cases hi : i < c.toList.length
    · have h2 := hv.2 i _ _ (List.getElem?_eq_getElem (by rw [hlen]; exact hi)) (List.getElem?_eq_getElem hi)
      rw [List.getElem?_eq_getElem hi]
      have hi' : i < (r.map vB ++ [V.int .u64 (.ofNat x), V.int .i64 (.ofNat n)]).length := by rw [hlen]; exact hi
      by_cases h32 : i < r.length
      · rw [List.getElem?_append_left (by simpa using h32), List.getElem?_map, List.getElem?_eq_getElem h32]
        rw [List.getElem_append_left (by simpa using h32), List.getElem_map] at h2
        generalize c.toList[i] = z at h2
        cases h2
        rfl
      · rcases (show i = r.length ∨ i = r.length + 1 by simp at hi'; omega) with rfl | rfl
        · have h3 := hv.2 r.length (.int .u64 (.ofNat x)) _ (by rw [List.getElem?_append_right (by simp)]; simp) (List.getElem?_eq_getElem hi)
          generalize c.toList[r.length] = z at h3
          cases h3
          rw [List.getElem?_append_right (by simp)]; simp
        · have h3 := hv.2 (r.length + 1) (.int .i64 (.ofNat n)) _ (by rw [List.getElem?_append_right (by simp)]; simp) (List.getElem?_eq_getElem hi)
          generalize c.toList[r.length + 1] = z at h3
          cases h3
          rw [List.getElem?_append_right (by simp)]; simp
    · rw [List.getElem?_eq_none (by omega), List.getElem?_eq_none]
      have : (r.map (fun k => Value.int .u8 (.ofNat k)) ++ [Value.int .u64 (.ofNat x), Value.int .i64 (.ofNat n)]).length = c.toList.length := by rw [← hlen]; simp
      omega
  · have e1 : (r.map vB ++ [V.int .u64 (.ofNat x), V.int .i64 (.ofNat n)])[32]? = some (.int .u64 (.ofNat x)) := by
      rw [List.getElem?_append_right (by simp [hl])]; simp [hl]
    have e2 : (r.map vB ++ [V.int .u64 (.ofNat x), V.int .i64 (.ofNat n)])[33]? = some (.int .i64 (.ofNat n)) := by
      rw [List.getElem?_append_right (by simp [hl])]; simp [hl]
    have hlen := hv.1
    have hlc : c.toList.length = 34 := by rw [← hlen]; simp [hl]
    have h1 := hv.2 32 _ _ e1 (List.getElem?_eq_getElem (by omega))
    have h2 := hv.2 33 _ _ e2 (List.getElem?_eq_getElem (by omega))
    generalize c.toList[32] = z at h1
    generalize c.toList[33] = z2 at h2
    cases h1 with
    | int _ _ g1 =>
      cases h2 with
      | int _ _ g2 =>
        have a1 : IntKind.u64.max = 18446744073709551615 := rfl
        have a2 : IntKind.i64.max = 9223372036854775807 := rfl
        have g1' := g1.2
        have g2' := g2.2
        rw [a1] at g1'
        rw [a2] at g2'
        have p1 : (Int.ofNat x : Int) = (x : Int) := rfl
        have p2 : (Int.ofNat n : Int) = (n : Int) := rfl
        rw [p1] at g1'
        rw [p2] at g2'
        exact ⟨Int.natCast_nonneg _, g1', by show (-9223372036854775808 : Int) ≤ (n : Int); omega, g2'⟩
theorem bel_ok {vs : List V} {σ : St} {v : V} {σ' : St} (h : belSpec vs σ = some (v, σ')) {ι : Nm} {w : World} {args : Array Value} (R : Rep ι σ w) (hv : VRs ι vs args.toList) : Calls Tryz.prog (p87.nat - 1) args w (Post ι σ w v σ') := by
  unfold belSpec at h
  split at h
  · rename_i a b
    split at h
    · rename_i ia x n ib y m h1 h2
      cases h
      obtain ⟨e1, l1, b1⟩ := itemOf_eq h1
      obtain ⟨e2, l2, b2⟩ := itemOf_eq h2
      obtain ⟨al⟩ := args
      have hl : 2 = al.length := hv.1
      match al, hl, hv with
      | [p, q], _, hv =>
        obtain ⟨c, rfl, hc⟩ := hv.head.of_agg
        obtain ⟨d, rfl, hd⟩ := hv.tail.head.of_agg
        rw [e1] at hc
        rw [e2] at hd
        obtain ⟨i1, rfl, k1, j1, f1, g1⟩ := item_of_vr l1 b1 hc
        obtain ⟨i2, rfl, k2, j2, f2, g2⟩ := item_of_vr l2 b2 hd
        refine (Rt.below_calls i1 i2 k1 k2 w).mono ?_
        rintro e w' ⟨rfl, hb⟩
        obtain ⟨R', hG⟩ := Rep_below R hb
        refine ⟨ι, _, rfl, ?_, R', hG⟩
        have hw : Rt.worse i1 i2 = blw (lless ib ia) x n y m := by
          rw [blw_eq, lless_eq _ _ b2 b1, ← j1, ← j2]
          unfold Rt.worse Rt.rcmp Rt.rnum
          rw [f1, f2, g1, g2]
          have m1 : (max (m : Int) 1) = ((max m 1 : Nat) : Int) := by omega
          have m2 : (max (n : Int) 1) = ((max n 1 : Nat) : Int) := by omega
          rw [m1, m2, ← Int.natCast_mul, ← Int.natCast_mul]
          generalize x * max m 1 = p
          generalize y * max n 1 = q
          rcases Nat.lt_trichotomy p q with c | c | c
          · have c1 : (p : Int) < (q : Int) := by omega
            simp [c, c1]
          · subst c
            simp
          · have c1 : ¬ (p : Int) < (q : Int) := by omega
            have c2 : ¬ (p : Int) = (q : Int) := by omega
            have c3 : ¬ p < q := by omega
            have c4 : ¬ p = q := by omega
            simp [c1, c2, c3, c4]
        rw [hw]
        exact .bool _
    · cases h
  · cases h
/-- Number, its answer as a number that is none below nought -/
noncomputable def numSpecN (vs : List V) (σ : St) : Option (V × St) := match vs with
  | [.int .i64 n, .int .i64 b] => (match ilt (.ofNat 0) b with | true => (match ilt b (.ofNat 1000001) with | true => some (.int .i64 (.ofNat (Int.toNat (Int.emod n b))), σ) | false => none) | false => none)
  | _ => none
theorem numSpecN_eq {vs : List V} {σ : St} {r : V × St} (h : numSpecN vs σ = some r) : numSpec vs σ = some r := by
  unfold numSpecN at h
  split at h
  · rename_i n b
    split at h
    · rename_i h1
      split at h
      · rename_i h2
        cases h
        unfold numSpec
        simp only [h1, h2]
        rw [ilt_eq] at h1
        have h1 : (0 : Int) < b := by simpa using h1
        have := Int.emod_nonneg n (show b ≠ 0 by omega)
        have e : (.ofNat (Int.toNat (Int.emod n b)) : Int) = Int.emod n b := Int.toNat_of_nonneg this
        rw [e]
      · cases h
    · cases h
  · cases h
end Go.Proofs.YtknhohgnilamcaaGreatDoor.Ir
