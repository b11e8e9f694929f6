/-
  RateLess: a fee more is more, a byte more is less, twice both is the same but for the id; what is less is not more: for every two items and every number.
-/
import Derived.Test.YtgjmnplpefkbhaaRateB
namespace Go.Proofs.Ytgjmnplpefkbhaa
set_option linter.unusedSimpArgs false
set_option linter.unusedVariables false
open Go Go.RowKit Go.BigFrame
attribute [local go_sem ↓] ex_load ex_store ex_alloc
attribute [local go_sem] LD_cell ST_cell AL_plain loadCell_cells cellOr_some storeCell_cells loadBlk_cells storeBlk_cells blk_alloc blk_drew blk_upd oupd_cells upd_alloc upd_drew size_upd
attribute [local go_sem] flat_hash flat_item splice_hash splice_item splice_id al_item bd_hash0
attribute [local go_sem] ld_hash ld_item st_hash st_item Hash.all Item.all Item.fee_at Item.bytes_at Item.id_at Item.size Hash.size Item.fee_at' Item.bytes_at' Item.set_fee Item.set_bytes
attribute [local go_sem ↓] ex_build

/-! plain -/
theorem max1 {n : Int} (h : 1 ≤ n) : max n 1 = n := by omega
theorem prod_le {p q P Q : Int} (hp : 0 ≤ p) (hq : 0 ≤ q) (hP : p ≤ P) (hQ : q ≤ Q) : 0 ≤ p * q ∧ p * q ≤ P * Q :=
  ⟨Int.mul_nonneg hp hq, Int.mul_le_mul hP hQ hq (by omega)⟩
theorem worse_ne {x y : Item} (h : rnum x y ≠ rnum y x) : worse x y = decide (rnum x y < rnum y x) := by
  unfold worse rcmp
  by_cases h1 : rnum x y < rnum y x
  · simp [h1]
  · simp [h1, h]
theorem worse_eq {x y : Item} (h : rnum x y = rnum y x) : worse x y = decide (lcmp y.id.l x.id.l < 0) := by
  unfold worse rcmp
  simp [h]
theorem worse_asymm (x y : Item) : (worse x y && worse y x) = false := by
  by_cases h : rnum x y = rnum y x
  · rw [worse_eq h, worse_eq h.symm, lcmp_swap x.id.l y.id.l]
    by_cases h1 : -lcmp x.id.l y.id.l < 0
    · simp; omega
    · simp; omega
  · rw [worse_ne h, worse_ne (fun e => h e.symm)]
    by_cases h1 : rnum x y < rnum y x
    · simp; omega
    · simp; omega

section
variable (a b : Item) (n : Int)
def xA : Item := (Item.mk a.id (a.fee % 1099511627776) (a.bytes % 4000 + 1))
theorem num_ab (h : 0 ≤ b.bytes % 4000) : rnum (Item.mk a.id (a.fee % 1099511627776) (a.bytes % 4000 + 1)) (Item.mk b.id (b.fee % 1099511627776) (b.bytes % 4000 + 1)) = (a.fee % 1099511627776 * (b.bytes % 4000 + 1)) := by unfold rnum; rw [max1 (by show 1 ≤ b.bytes % 4000 + 1; omega)]
theorem more_yes (h : 0 ≤ a.bytes % 4000) (hn : 0 ≤ n % 1000) : worse (Item.mk a.id (a.fee % 1099511627776) (a.bytes % 4000 + 1)) (Item.mk a.id (a.fee % 1099511627776 + (n % 1000 + 1)) (a.bytes % 4000 + 1)) = true := by
  have e1 : rnum (Item.mk a.id (a.fee % 1099511627776) (a.bytes % 4000 + 1)) (Item.mk a.id (a.fee % 1099511627776 + (n % 1000 + 1)) (a.bytes % 4000 + 1)) = a.fee % 1099511627776 * (a.bytes % 4000 + 1) := by unfold rnum; rw [max1 (by show 1 ≤ a.bytes % 4000 + 1; omega)]
  have e2 : rnum (Item.mk a.id (a.fee % 1099511627776 + (n % 1000 + 1)) (a.bytes % 4000 + 1)) (Item.mk a.id (a.fee % 1099511627776) (a.bytes % 4000 + 1)) = (a.fee % 1099511627776 + (n % 1000 + 1)) * (a.bytes % 4000 + 1) := by unfold rnum; rw [max1 (by show 1 ≤ a.bytes % 4000 + 1; omega)]
  have h1 : 0 < (n % 1000 + 1) * (a.bytes % 4000 + 1) := Int.mul_pos (by omega) (by omega)
  rw [Int.add_mul] at e2
  rw [worse_ne (by omega)]
  exact decide_eq_true (by omega)
theorem more_no (h : 0 ≤ a.bytes % 4000) (hn : 0 ≤ n % 1000) : worse (Item.mk a.id (a.fee % 1099511627776 + (n % 1000 + 1)) (a.bytes % 4000 + 1)) (Item.mk a.id (a.fee % 1099511627776) (a.bytes % 4000 + 1)) = false := by
  have h1 := worse_asymm (Item.mk a.id (a.fee % 1099511627776 + (n % 1000 + 1)) (a.bytes % 4000 + 1)) (Item.mk a.id (a.fee % 1099511627776) (a.bytes % 4000 + 1))
  rw [more_yes a n h hn, Bool.and_true] at h1
  exact h1
theorem longer_yes (h : 0 ≤ a.bytes % 4000) (hn : 0 ≤ n % 1000) (hf : 0 < a.fee % 1099511627776) : worse (Item.mk a.id (a.fee % 1099511627776) (a.bytes % 4000 + 1 + (n % 1000 + 1))) (Item.mk a.id (a.fee % 1099511627776) (a.bytes % 4000 + 1)) = true := by
  have e1 : rnum (Item.mk a.id (a.fee % 1099511627776) (a.bytes % 4000 + 1 + (n % 1000 + 1))) (Item.mk a.id (a.fee % 1099511627776) (a.bytes % 4000 + 1)) = a.fee % 1099511627776 * (a.bytes % 4000 + 1) := by unfold rnum; rw [max1 (by show 1 ≤ a.bytes % 4000 + 1; omega)]
  have e2 : rnum (Item.mk a.id (a.fee % 1099511627776) (a.bytes % 4000 + 1)) (Item.mk a.id (a.fee % 1099511627776) (a.bytes % 4000 + 1 + (n % 1000 + 1))) = a.fee % 1099511627776 * (a.bytes % 4000 + 1 + (n % 1000 + 1)) := by unfold rnum; rw [max1 (by show 1 ≤ a.bytes % 4000 + 1 + (n % 1000 + 1); omega)]
  have h1 : 0 < a.fee % 1099511627776 * (n % 1000 + 1) := Int.mul_pos hf (by omega)
  rw [Int.mul_add] at e2
  rw [worse_ne (by omega)]
  exact decide_eq_true (by omega)
theorem twice_same (h : 0 ≤ a.bytes % 4000) (hn : 0 ≤ n % 1000) : worse (Item.mk a.id (a.fee % 1099511627776) (a.bytes % 4000 + 1)) (Item.mk zeroHash (a.fee % 1099511627776 * (n % 1000 + 1)) ((a.bytes % 4000 + 1) * (n % 1000 + 1))) = decide (lcmp zeroHash.l a.id.l < 0) := by
  have h1 : 1 ≤ (a.bytes % 4000 + 1) * (n % 1000 + 1) := by
    have : 0 < (a.bytes % 4000 + 1) * (n % 1000 + 1) := Int.mul_pos (by omega) (by omega)
    omega
  have e1 : rnum (Item.mk a.id (a.fee % 1099511627776) (a.bytes % 4000 + 1)) (Item.mk zeroHash (a.fee % 1099511627776 * (n % 1000 + 1)) ((a.bytes % 4000 + 1) * (n % 1000 + 1))) = a.fee % 1099511627776 * ((a.bytes % 4000 + 1) * (n % 1000 + 1)) := by unfold rnum; rw [max1 (show 1 ≤ (a.bytes % 4000 + 1) * (n % 1000 + 1) from h1)]
  have e2 : rnum (Item.mk zeroHash (a.fee % 1099511627776 * (n % 1000 + 1)) ((a.bytes % 4000 + 1) * (n % 1000 + 1))) (Item.mk a.id (a.fee % 1099511627776) (a.bytes % 4000 + 1)) = a.fee % 1099511627776 * (n % 1000 + 1) * (a.bytes % 4000 + 1) := by unfold rnum; rw [max1 (by show 1 ≤ a.bytes % 4000 + 1; omega)]
  refine worse_eq ?_
  rw [e1, e2, Int.mul_assoc, Int.mul_comm (n % 1000 + 1)]
end

/-- the five variables, where they lie -/
def CX (N M : Nat) (a b : Item) (n : Int) (w' : World) : Prop :=
  blk w' N = some (.cells (Item.mk a.id (a.fee % 1099511627776) (a.bytes % 4000 + 1)).cells 26) ∧ blk w' (N + 1) = some (.cells (Item.mk b.id (b.fee % 1099511627776) (b.bytes % 4000 + 1)).cells 26) ∧ blk w' M = some (.cells (Item.mk a.id (a.fee % 1099511627776 + (n % 1000 + 1)) (a.bytes % 4000 + 1)).cells 26) ∧
  blk w' (M + 1) = some (.cells (Item.mk a.id (a.fee % 1099511627776) (a.bytes % 4000 + 1 + (n % 1000 + 1))).cells 26) ∧ blk w' (M + 1 + 1) = some (.cells (Item.mk zeroHash (a.fee % 1099511627776 * (n % 1000 + 1)) ((a.bytes % 4000 + 1) * (n % 1000 + 1))).cells 26)
theorem CX.p1 {N M : Nat} {a b : Item} {n : Int} {w' : World} (h : CX N M a b n w') : blk w' N = some (.cells (Item.mk a.id (a.fee % 1099511627776) (a.bytes % 4000 + 1)).cells 26) := h.1
theorem CX.p2 {N M : Nat} {a b : Item} {n : Int} {w' : World} (h : CX N M a b n w') : blk w' (N + 1) = some (.cells (Item.mk b.id (b.fee % 1099511627776) (b.bytes % 4000 + 1)).cells 26) := h.2.1
theorem CX.p3 {N M : Nat} {a b : Item} {n : Int} {w' : World} (h : CX N M a b n w') : blk w' M = some (.cells (Item.mk a.id (a.fee % 1099511627776 + (n % 1000 + 1)) (a.bytes % 4000 + 1)).cells 26) := h.2.2.1
theorem CX.p4 {N M : Nat} {a b : Item} {n : Int} {w' : World} (h : CX N M a b n w') : blk w' (M + 1) = some (.cells (Item.mk a.id (a.fee % 1099511627776) (a.bytes % 4000 + 1 + (n % 1000 + 1))).cells 26) := h.2.2.2.1
theorem CX.p5 {N M : Nat} {a b : Item} {n : Int} {w' : World} (h : CX N M a b n w') : blk w' (M + 1 + 1) = some (.cells (Item.mk zeroHash (a.fee % 1099511627776 * (n % 1000 + 1)) ((a.bytes % 4000 + 1) * (n % 1000 + 1))).cells 26) := h.2.2.2.2
theorem CX.on {N M : Nat} {a b : Item} {n : Int} {w w' : World} (h : CX N M a b n w) (hb : Below w.heap.size w w') : CX N M a b n w' := by
  obtain ⟨h1, h2, h3, h4, h5⟩ := h
  exact ⟨blk_below h1 hb, blk_below h2 hb, blk_below h3 hb, blk_below h4 hb, blk_below h5 hb⟩
end Go.Proofs.Ytgjmnplpefkbhaa
