/-
  The contracts of a new queue, of its length, of the chapter's examples.
-/
import Derived.Test.YtgjmnplpefkbhaaRateA
namespace Go.Proofs.Ytgjmnplpefkbhaa
set_option linter.unusedSimpArgs false
set_option linter.unusedVariables false
open Go Go.RowKit Go.BigFrame
attribute [local go_sem ↓] ex_load ex_store ex_alloc
attribute [local go_sem] LD_cell ST_cell AL_plain loadCell_cells cellOr_some storeCell_cells loadBlk_cells storeBlk_cells blk_alloc blk_drew blk_upd oupd_cells upd_alloc upd_drew size_upd
attribute [local go_sem] ld_hash ld_item st_hash st_item Hash.all Item.all Item.fee_at Item.bytes_at Item.id_at Item.size Hash.size Item.fee_at' Item.bytes_at'

/-- The function by which a queue's items are held against each other. -/
def lessF (worst : Bool) : Value := .func (.func (if worst then 24 else 25)) #[] #[]
def newWorld (worst : Bool) (w : World) : World :=
  ((w.alloc (.map #[] 0)).alloc (.cells #[.slice none 0 0, .map (some w.heap.size), lessF worst] 61)).alloc (.cells #[.pointer (some ⟨w.heap.size + 1, 0, none⟩)] 63)

theorem new_calls (worst : Bool) (w : World) :
    Calls Try.prog 11 #[.bool worst] w fun e w' => e = .returned (.pointer (some ⟨w.heap.size + 2, 0, none⟩)) ∧ newWorld worst w = w' := by
  have hmm := @run_makeMap Try.prog
  cases worst
  all_goals
    go_enter Try.func11, Try.ntmps11
    go_wp2_with fail
    go_ret
    exact ⟨rfl, rfl⟩

theorem tmod_pos {n b : Int} (hb : 1 ≤ b) : (if n.tmod b < 0 then n.tmod b + b else n.tmod b) = n % b := by
  have h1 := Int.tmod_eq_emod (a := n) (b := b)
  have h2 := Int.emod_nonneg n (show b ≠ 0 by omega)
  have h3 := Int.emod_lt_of_pos n (show 0 < b by omega)
  have h4 : (b.natAbs : Int) = b := by omega
  split at h1 <;> split <;> omega

theorem number_calls (n b : Int) (hb : 1 ≤ b) (hb' : b ≤ 1000000) (hn : -9223372036854775808 ≤ n) (hn' : n ≤ 9223372036854775807) (w : World) :
    Calls Try.prog 8 #[.int .i64 n, .int .i64 b] w fun e w' => e = .returned (.int .i64 (n % b)) ∧ w = w' := by
  have h0 := tmod_pos (n := n) hb
  have H0 := Lib.hid h0
  clear h0
  have hlo : -1000000 ≤ n.tmod b := by
    have h3 := Int.tmod_eq_emod (a := n) (b := b)
    have h4 := Int.emod_nonneg n (show b ≠ 0 by omega)
    split at h3 <;> omega
  have hhi : n.tmod b ≤ 1000000 := by
    have h3 := Int.tmod_eq_emod (a := n) (b := b)
    have h4 := Int.emod_lt_of_pos n (show 0 < b by omega)
    split at h3 <;> omega
  go_enter Try.func8, Try.ntmps8
  go_wp2_with fail
  all_goals
    go_ret
    refine ⟨ret_int ?_, rfl⟩
    have h := H0.out
    first | (rw [if_pos (by assumption)] at h; exact h) | (rw [if_neg (by omega)] at h; exact h)

/-! two digests held against each other, byte by byte -/

theorem lcmp_step {a b : List UInt8} {k : Nat} (ha : k < a.length) (hb : k < b.length) (he : a[k] = b[k]) : lcmp (a.drop k) (b.drop k) = lcmp (a.drop (k + 1)) (b.drop (k + 1)) := by
  rw [List.drop_eq_getElem_cons ha, List.drop_eq_getElem_cons hb, he]
  simp [lcmp, UInt8.lt_irrefl]
theorem lcmp_ne {a b : List UInt8} {k : Nat} (ha : k < a.length) (hb : k < b.length) (he : a[k] ≠ b[k]) : decide (lcmp (a.drop k) (b.drop k) < 0) = decide (a[k].toNat < b[k].toNat) := by
  rw [List.drop_eq_getElem_cons ha, List.drop_eq_getElem_cons hb]
  simp only [lcmp]
  by_cases h : a[k] < b[k]
  · have : a[k].toNat < b[k].toNat := h
    simp [h, this]
  · have h' : ¬ a[k].toNat < b[k].toNat := h
    have h2 : b[k] < a[k] := by
      rcases UInt8.lt_or_lt_of_ne he with h1 | h1
      · exact absurd h1 h
      · exact h1
    simp [h, h2]
    omega

theorem lessHash_calls (g h : Hash) (w : World) :
    Calls Try.prog 10 #[.agg g.cells, .agg h.cells] w fun e w' => e = .returned (.bool (decide (lcmp g.l h.l < 0))) ∧ Below w.heap.size w w' := by
  go_enter Try.func10, Try.ntmps10
  go_wp2_with fail
  go_loopw [5] (fun i wr => ∃ k : Nat, k ≤ 32 ∧ i = .int .i64 k ∧ lcmp g.l h.l = lcmp (g.l.drop k) (h.l.drop k) ∧ Below ((w.alloc (.cells g.cells 23)).alloc (.cells h.cells 23)).heap.size ((w.alloc (.cells g.cells 23)).alloc (.cells h.cells 23)) wr) (fun i _ => 32 - (intOf i).toNat)
  case atStart => exact ⟨0, by omega, rfl, by simp, Below.refl _ _⟩
  case round =>
    obtain ⟨k, hk32, rfl, hcmp, hb⟩ := hrel
    obtain ⟨hk, _, _, hz⟩ := bfacts hb
    by_cases hlt : k < 32
    · have lg : k < g.l.length := by rw [g.len]; exact hlt
      have lh : k < h.l.length := by rw [h.len]; exact hlt
      have cg := g.at lg
      have ch := h.at lh
      have HC := Lib.hid hcmp
      clear hcmp
      go_wp2_with fail
      refine wp_region_tq (C := fun _ => True) (fun | 2 | 5 => .read | _ => .pure) [0, 1, 2, 3, 4, 5, 6] [0, 1, 3, 0, 8, 24, 63] (by kernel_rfl) (by kernel_rfl) ?_
      (repeat (first | (refine tq_skipq rfl ?_ ?_; (focus (refine wanted_is rfl rfl rfl rfl ?_; with_reducible first | exact ne_tf | exact ne_ft)); simp only [Act.put, List.setIfInBounds_toArray, List.set_cons_zero, List.set_cons_succ]) | (refine tq_pureq rfl rfl ?_ rfl (fun K hK => ?_); (focus (first | exact wanted_none rfl | (refine wanted_is rfl rfl rfl rfl ?_; with_reducible first | exact eq_tt | exact eq_ff))); go_big_quiet_op; refine hK _ ?_; clear hK K) | (refine tq_readq rfl rfl ?_ rfl (fun K hK => ?_); (focus (first | exact wanted_none rfl | (refine wanted_is rfl rfl rfl rfl ?_; with_reducible first | exact eq_tt | exact eq_ff))); go_big_quiet_op; refine hK _ ?_; clear hK K)))
      refine tq_nil ?_
      by_cases he : g.l[k] = h.l[k]
      · have hne : (((g.l[k].toNat : Int)) != (h.l[k].toNat : Int)) = false := by rw [he]; simp
        go_wp2_with fail
        go_roundw
        case rel => exact ⟨k + 1, by omega, by go_num, by rw [HC.out, lcmp_step lg lh he], hb.drew⟩
        case measure => simp [intOf]; omega
      · have hne : (((g.l[k].toNat : Int)) != (h.l[k].toNat : Int)) = true := by
          rw [bne_iff_ne]
          intro hh
          exact he (UInt8.toNat_inj.1 (by omega))
        go_wp2_with fail
        refine wp_region_tq (C := fun _ => True) (fun | 2 | 5 => .read | _ => .pure) [0, 1, 2, 3, 4, 5, 6, 7] [0, 1, 3, 0, 8, 24, 63, 127] (by kernel_rfl) (by kernel_rfl) ?_
        (repeat (first | (refine tq_skipq rfl ?_ ?_; (focus (refine wanted_is rfl rfl rfl rfl ?_; with_reducible first | exact ne_tf | exact ne_ft)); simp only [Act.put, List.setIfInBounds_toArray, List.set_cons_zero, List.set_cons_succ]) | (refine tq_pureq rfl rfl ?_ rfl (fun K hK => ?_); (focus (first | exact wanted_none rfl | (refine wanted_is rfl rfl rfl rfl ?_; with_reducible first | exact eq_tt | exact eq_ff))); go_big_quiet_op; refine hK _ ?_; clear hK K) | (refine tq_readq rfl rfl ?_ rfl (fun K hK => ?_); (focus (first | exact wanted_none rfl | (refine wanted_is rfl rfl rfl rfl ?_; with_reducible first | exact eq_tt | exact eq_ff))); go_big_quiet_op; refine hK _ ?_; clear hK K)))
        refine tq_nil ?_
        go_wp2_with fail
        go_ret
        refine ⟨?_, by (repeat' (first | exact Below.refl _ _ | (with_reducible refine Below.alloc ?_ ?_ _) | (with_reducible refine Below.drew ?_) | (with_reducible refine below_upd ?_ ?_ _) | (with_reducible refine Below.setCell ?_ ?_ _) | (with_reducible refine Below.trans ?_ (Below.mono (by assumption) ?_)) | ((try simp only [World.size_alloc, size_upd, World.size_drew, World.size_setCell] at *); omega)))⟩
        rw [HC.out]
        exact congrArg (fun b => Ending.returned (.bool b)) (lcmp_ne lg lh he).symm
    · have hk2 : k = 32 := by omega
      have HK := Lib.hid hk2
      clear hk2
      go_wp2_with fail
      go_ret
      refine ⟨?_, by (repeat' (first | exact Below.refl _ _ | (with_reducible refine Below.alloc ?_ ?_ _) | (with_reducible refine Below.drew ?_) | (with_reducible refine below_upd ?_ ?_ _) | (with_reducible refine Below.setCell ?_ ?_ _) | (with_reducible refine Below.trans ?_ (Below.mono (by assumption) ?_)) | ((try simp only [World.size_alloc, size_upd, World.size_drew, World.size_setCell] at *); omega)))⟩
      have e := HK.out
      rw [hcmp, e, List.drop_of_length_le (by rw [g.len]; omega), List.drop_of_length_le (by rw [h.len]; omega)]
      rfl
theorem ilen_calls (i m : Nat) (sl : Option Addr) (n c : Nat) (f : Value) (hn : n ≤ maxLen) (w : World) (h : blk w i = some (.cells #[.slice sl n c, .map (some m), f] 61)) :
    Calls Try.prog 29 #[.pointer (some ⟨i, 0, none⟩)] w fun e w' => e = .returned (.int .i64 n) ∧ w = w' := by
  go_enter Try.func29, Try.ntmps29
  go_wp2_with fail
  go_ret
  exact ⟨rfl, rfl⟩

theorem qlen_calls (q i m : Nat) (sl : Option Addr) (n c : Nat) (f : Value) (hn : n ≤ maxLen) (w : World) (hq : blk w q = some (.cells #[Value.pointer (some ⟨i, 0, none⟩)] 63)) (h : blk w i = some (.cells #[.slice sl n c, .map (some m), f] 61)) :
    Calls Try.prog 21 #[.pointer (some ⟨q, 0, none⟩)] w fun e w' => e = .returned (.int .i64 n) ∧ w = w' := by
  go_enter Try.func21, Try.ntmps21
  go_wp2_with (go_at_call 29; refine (ilen_calls i m sl n c f hn _ h).mono ?_; rintro e w' ⟨rfl, rfl⟩)
  go_ret
  exact ⟨rfl, rfl⟩

theorem lcmp_refl (a : List UInt8) : lcmp a a = 0 := by
  induction a with
  | nil => rfl
  | cons x r ih => simp [lcmp, UInt8.lt_irrefl, ih]
theorem lcmp_eq {a b : List UInt8} (h : lcmp a b = 0) : a = b := by
  induction a generalizing b with
  | nil => cases b with
    | nil => rfl
    | cons y t => simp [lcmp] at h
  | cons x r ih => cases b with
    | nil => simp [lcmp] at h
    | cons y t =>
      simp only [lcmp] at h
      split at h
      · omega
      · split at h
        · omega
        · rename_i h1 h2
          have : x = y := by
            apply UInt8.toNat_inj.1
            have h1' : ¬ x.toNat < y.toNat := h1
            have h2' : ¬ y.toNat < x.toNat := h2
            omega
          rw [this, ih h]
theorem lcmp_swap (a b : List UInt8) : lcmp b a = - lcmp a b := by
  induction a generalizing b with
  | nil => cases b <;> simp [lcmp]
  | cons x r ih => cases b with
    | nil => simp [lcmp]
    | cons y t =>
      simp only [lcmp]
      by_cases h1 : x < y
      · have h2 : ¬ y < x := by
          intro h
          have h1' : x.toNat < y.toNat := h1
          have h2' : y.toNat < x.toNat := h
          omega
        simp [h1, h2]
      · by_cases h2 : y < x
        · simp [h1, h2]
        · simp [h1, h2, ih]

/-! the chapter's examples -/
theorem bd_12 (w : World) : (BD 26 #[(1, .int .u64 1), (2, .int .i64 2)]).run Try.prog w = .ok (.agg (Item.mk zeroHash 1 2).cells) w := by kernel_rfl
theorem bd_23 (w : World) : (BD 26 #[(1, .int .u64 2), (2, .int .i64 3)]).run Try.prog w = .ok (.agg (Item.mk zeroHash 2 3).cells) w := by kernel_rfl
theorem first_less : worse (Item.mk zeroHash 1 2) (Item.mk zeroHash 2 3) = true := by decide
attribute [local go_sem] bd_12 bd_23
attribute [local go_sem ↓] ex_build

theorem first_calls (w : World) :
    Calls Try.prog 7 #[] w fun e w' => e = .returned (.bool true) ∧ Below w.heap.size w w' := by
  have hl := first_less
  have HL := Lib.hid hl
  clear hl
  go_enter Try.func7, Try.ntmps7
  go_wp2_with fail
  refine (new_calls true _).mono ?_
  rintro e w' ⟨rfl, rfl⟩
  unfold newWorld
  go_wp2_with fail
  refine (less_calls _ _ (by simp [Item.ok]) (by simp [Item.ok]) _).mono ?_
  rintro e w1 ⟨rfl, hb⟩
  rw [HL.out]
  obtain ⟨hk, hc, hf, hz⟩ := bfacts hb; clear hc hf; try simp only [World.size_alloc, size_upd, World.size_drew] at hz
  have hq : blk w1 (w.heap.size + 2) = some (.cells #[.pointer (some ⟨w.heap.size + 1, 0, none⟩)] 63) := by go_simp
  have hi : blk w1 (w.heap.size + 1) = some (.cells #[.slice none 0 0, .map (some w.heap.size), lessF true] 61) := by go_simp
  go_wp2_with (go_at_call 21; refine (qlen_calls _ _ _ _ 0 _ _ (by unfold maxLen; omega) _ hq hi).mono ?_; rintro e w' ⟨rfl, rfl⟩)
  go_ret
  exact ⟨rfl, by (repeat' (first | exact Below.refl _ _ | (with_reducible refine Below.alloc ?_ ?_ _) | (with_reducible refine Below.drew ?_) | (with_reducible refine below_upd ?_ ?_ _) | (with_reducible refine Below.setCell ?_ ?_ _) | (with_reducible refine Below.trans ?_ (Below.mono (by assumption) ?_)) | ((try simp only [World.size_alloc, size_upd, World.size_drew, World.size_setCell] at *); omega)))⟩
end Go.Proofs.Ytgjmnplpefkbhaa
