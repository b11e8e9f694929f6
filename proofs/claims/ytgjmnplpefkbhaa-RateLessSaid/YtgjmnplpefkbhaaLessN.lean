/-
  RateLess, walked: the two products differ.
-/
import Derived.Test.YtgjmnplpefkbhaaLessP
namespace Go.Proofs.Ytgjmnplpefkbhaa
set_option linter.unusedSimpArgs false
set_option linter.unusedVariables false
open Go Go.RowKit Go.BigFrame
attribute [local go_sem ↓] ex_load ex_store ex_alloc
attribute [local go_sem] LD_cell ST_cell AL_plain loadCell_cells cellOr_some storeCell_cells loadBlk_cells storeBlk_cells blk_alloc blk_drew blk_upd oupd_cells upd_alloc upd_drew size_upd
attribute [local go_sem] flat_hash flat_item splice_hash splice_item splice_id al_item bd_hash0
attribute [local go_sem] ld_hash ld_item st_hash st_item Hash.all Item.all Item.fee_at Item.bytes_at Item.id_at Item.size Hash.size Item.fee_at' Item.bytes_at' Item.set_fee Item.set_bytes
attribute [local go_sem ↓] ex_build

set_option maxHeartbeats 4000000 in
theorem walkNZT (a b : Item) (n : Int) (ka : a.ok) (kb : b.ok) (hn : -9223372036854775808 ≤ n) (hn' : n ≤ 9223372036854775807) (hxy : ¬ (a.fee % 1099511627776 * (b.bytes % 4000 + 1)) = (b.fee % 1099511627776 * (a.bytes % 4000 + 1))) (hf0 : a.fee % 1099511627776 = 0) (hab : worse (Item.mk a.id (a.fee % 1099511627776) (a.bytes % 4000 + 1)) (Item.mk b.id (b.fee % 1099511627776) (b.bytes % 4000 + 1)) = true) (w : World) :
    Calls Try.prog 3 #[.agg a.cells, .agg b.cells, .int .i64 n] w fun e w' => e = .returned (.bool true) ∧ Below w.heap.size w w' := by
  obtain ⟨gx, gx', hx, hx'⟩ := ka
  obtain ⟨gy, gy', hy, hy'⟩ := kb
  have m1 : 0 ≤ n % 1000 ∧ n % 1000 < 1000 := by omega
  have m2 : 0 ≤ a.bytes % 4000 ∧ a.bytes % 4000 < 4000 := by omega
  have m3 : 0 ≤ b.bytes % 4000 ∧ b.bytes % 4000 < 4000 := by omega
  have m4 : 0 ≤ a.fee % 1099511627776 ∧ a.fee % 1099511627776 < 1099511627776 := by omega
  have m5 : 0 ≤ b.fee % 1099511627776 ∧ b.fee % 1099511627776 < 1099511627776 := by omega
  have p1 := prod_le m4.1 (show 0 ≤ n % 1000 + 1 by omega) (show _ ≤ 1099511627776 by omega) (show _ ≤ 1000 by omega)
  have p2 := prod_le (show 0 ≤ a.bytes % 4000 + 1 by omega) (show 0 ≤ n % 1000 + 1 by omega) (show _ ≤ 4000 by omega) (show _ ≤ 1000 by omega)
  have p3 := prod_le m4.1 (show 0 ≤ b.bytes % 4000 + 1 by omega) (show _ ≤ 1099511627776 by omega) (show _ ≤ 4000 by omega)
  have p4 := prod_le m5.1 (show 0 ≤ a.bytes % 4000 + 1 by omega) (show _ ≤ 1099511627776 by omega) (show _ ≤ 4000 by omega)
  have oA : (Item.mk a.id (a.fee % 1099511627776) (a.bytes % 4000 + 1)).ok := ⟨m4.1, by show a.fee % 1099511627776 ≤ _; omega, by show _ ≤ a.bytes % 4000 + 1; omega, by show a.bytes % 4000 + 1 ≤ _; omega⟩
  have oB : (Item.mk b.id (b.fee % 1099511627776) (b.bytes % 4000 + 1)).ok := ⟨m5.1, by show b.fee % 1099511627776 ≤ _; omega, by show _ ≤ b.bytes % 4000 + 1; omega, by show b.bytes % 4000 + 1 ≤ _; omega⟩
  have oM : (Item.mk a.id (a.fee % 1099511627776 + (n % 1000 + 1)) (a.bytes % 4000 + 1)).ok := ⟨by show 0 ≤ a.fee % 1099511627776 + (n % 1000 + 1); omega, by show a.fee % 1099511627776 + (n % 1000 + 1) ≤ _; omega, by show _ ≤ a.bytes % 4000 + 1; omega, by show a.bytes % 4000 + 1 ≤ _; omega⟩
  have oL : (Item.mk a.id (a.fee % 1099511627776) (a.bytes % 4000 + 1 + (n % 1000 + 1))).ok := ⟨m4.1, by show a.fee % 1099511627776 ≤ _; omega, by show _ ≤ a.bytes % 4000 + 1 + (n % 1000 + 1); omega, by show a.bytes % 4000 + 1 + (n % 1000 + 1) ≤ _; omega⟩
  have oT : (Item.mk zeroHash (a.fee % 1099511627776 * (n % 1000 + 1)) ((a.bytes % 4000 + 1) * (n % 1000 + 1))).ok := ⟨p1.1, by have := p1.2; show a.fee % 1099511627776 * (n % 1000 + 1) ≤ _; omega, by have := p2.1; show _ ≤ (a.bytes % 4000 + 1) * (n % 1000 + 1); omega, by have := p2.2; show (a.bytes % 4000 + 1) * (n % 1000 + 1) ≤ _; omega⟩
  have e1 : IntKind.u64.wrap (a.fee % 1099511627776 * (n % 1000 + 1)) = a.fee % 1099511627776 * (n % 1000 + 1) := IntWalk.u64_in _ ⟨p1.1, by have := p1.2; omega⟩
  have e2 : wrap64 ((a.bytes % 4000 + 1) * (n % 1000 + 1)) = (a.bytes % 4000 + 1) * (n % 1000 + 1) := IntWalk.wrap64_in _ ⟨by have := p2.1; omega, by have := p2.2; omega⟩
  have e3 : IntKind.u64.wrap (a.fee % 1099511627776 * (b.bytes % 4000 + 1)) = (a.fee % 1099511627776 * (b.bytes % 4000 + 1)) := IntWalk.u64_in _ ⟨p3.1, by have := p3.2; omega⟩
  have e4 : IntKind.u64.wrap (b.fee % 1099511627776 * (a.bytes % 4000 + 1)) = (b.fee % 1099511627776 * (a.bytes % 4000 + 1)) := IntWalk.u64_in _ ⟨p4.1, by have := p4.2; omega⟩
  have H1 := Lib.hid (more_yes a n m2.1 m1.1)
  have H2 := Lib.hid (more_no a n m2.1 m1.1)
  have H3 := Lib.hid (longer_yes a n m2.1 m1.1)
  obtain ⟨β, hβ⟩ : ∃ β, decide (lcmp zeroHash.l a.id.l < 0) = β := ⟨_, rfl⟩
  have H4 := Lib.hid ((twice_same a n m2.1 m1.1).trans hβ)
  have H7 := Lib.hid hβ
  clear hβ
  have H5 := Lib.hid (worse_asymm (Item.mk a.id (a.fee % 1099511627776) (a.bytes % 4000 + 1)) (Item.mk b.id (b.fee % 1099511627776) (b.bytes % 4000 + 1)))
  have HN := Lib.hid (num_ab a b m3.1)
  have HN' := Lib.hid (num_ab b a m2.1)
  clear p1 p2 p3 p4
  have HAB := Lib.hid hab
  clear hab
  have HBA : Hid (worse (Item.mk b.id (b.fee % 1099511627776) (b.bytes % 4000 + 1)) (Item.mk a.id (a.fee % 1099511627776) (a.bytes % 4000 + 1)) = false) := Lib.hid (by have h := H5.out; rw [HAB.out, Bool.true_and] at h; exact h)
  have hfz : (a.fee % 1099511627776 == 0) = true := by rw [beq_iff_eq]; exact hf0
  clear hf0
  have hne : ((a.fee % 1099511627776 * (b.bytes % 4000 + 1)) != (b.fee % 1099511627776 * (a.bytes % 4000 + 1))) = true := by rw [bne_iff_ne]; exact hxy
  have heq : ((a.fee % 1099511627776 * (b.bytes % 4000 + 1)) == (b.fee % 1099511627776 * (a.bytes % 4000 + 1))) = false := by rw [beq_eq_false_iff_ne]; exact hxy
  have H6 := Lib.hid (worse_ne (x := (Item.mk a.id (a.fee % 1099511627776) (a.bytes % 4000 + 1))) (y := (Item.mk b.id (b.fee % 1099511627776) (b.bytes % 4000 + 1))) (by rw [num_ab a b m3.1, num_ab b a m2.1]; exact hxy))
  clear hxy
  go_enter Try.func3, Try.ntmps3
  go_wp2_with (first | (go_at_call 7; refine (first_calls _).mono ?_; rintro e w1 ⟨rfl, hb⟩; obtain ⟨hk, hc, hf, hz⟩ := bfacts hb; clear hc hf; try simp only [World.size_alloc, size_upd, World.size_drew] at hz) | (go_at_call 8; refine (number_calls _ _ (by omega) (by omega) (by omega) (by omega) _).mono ?_; rintro e w' ⟨rfl, rfl⟩))
  refine (less_calls _ _ oA oB _).mono ?_
  rintro e w2 ⟨rfl, hb2⟩
  have sz2 := hb2.size
  try simp only [World.size_alloc, size_upd, World.size_drew] at sz2
  rw [H6.out, HN.out, HN'.out]
  have C2 : CX w.heap.size w1.heap.size a b n w2 := CX.on ⟨by (go_simp <;> (repeat' split) <;> first | rfl | omega), by (go_simp <;> (repeat' split) <;> first | rfl | omega), by (go_simp <;> (repeat' split) <;> first | rfl | omega), by (go_simp <;> (repeat' split) <;> first | rfl | omega), by (go_simp <;> (repeat' split) <;> first | rfl | omega)⟩ hb2
  go_wp2_with fail
  have C2' : CX w.heap.size w1.heap.size a b n w2.drew := C2
  refine wp_region_tq (C := CX w.heap.size w1.heap.size a b n) (fun | 4 | 5 | 8 | 10 => .cread | 6 | 11 => .ceff | _ => .pure) [0, 1, 2, 3, 4, 5, 6, 7, 8, 9, 10, 11, 12, 13] [0, 0, 3, 7, 15, 15, 63, 15, 143, 15, 527, 2047, 4095, 8191] (by kernel_rfl) (by kernel_rfl) ?_
  (repeat (first | (refine tq_skipq rfl ?_ ?_; (focus (refine wanted_is rfl rfl rfl rfl ?_; with_reducible first | exact ne_tf | exact ne_ft)); simp only [Act.put, List.setIfInBounds_toArray, List.set_cons_zero, List.set_cons_succ]) | (refine tq_pureq rfl rfl ?_ rfl (fun K hK => ?_); (focus (first | exact wanted_none rfl | (refine wanted_is rfl rfl rfl rfl ?_; with_reducible first | exact eq_tt | exact eq_ff))); go_big_quiet_op; refine hK _ ?_; clear hK K)))
  refine tq_nil ?_
  go_wp2_with fail
  have Cz : CX w.heap.size w1.heap.size a b n w2.drew.drew := C2
  clear C2 C2'
  refine wp_region_tq (C := CX w.heap.size w1.heap.size a b n) (fun | 2 | 3 | 7 | 8 | 14 | 17 | 18 | 23 | 24 | 27 | 29 | 34 | 35 | 38 | 39 => .cread | 4 | 9 | 19 | 25 | 30 | 36 | 40 => .ceff | _ => .pure) [0, 1, 2, 3, 4, 5, 6, 7, 8, 9, 10, 11, 12, 13, 14, 15, 16, 17, 18, 19, 20, 21, 22, 23, 24, 25, 26, 27, 28, 29, 30, 31, 32, 33, 34, 35, 36, 37, 38, 39, 40, 41, 42, 43, 44] [0, 1, 3, 3, 15, 31, 63, 127, 127, 511, 1023, 2047, 4095, 8191, 16383, 32767, 65535, 131071, 131071, 524287, 1048575, 2097151, 4194303, 8388607, 8388607, 33554431, 8388607, 75497471, 8388607, 276824063, 1073741823, 2147483647, 4294967295, 8589934591, 17179869183, 17179869183, 68719476735, 137438953471, 274877906943, 274877906943, 1099511627775, 2199023255551, 4398046511103, 8796093022207, 17592186044415] (by kernel_rfl) (by kernel_rfl) ?_
  have Cv0 := Cz
  clear Cz
  (repeat (first | (refine tq_skipq rfl ?_ ?_; (focus (refine wanted_is rfl rfl rfl rfl ?_; with_reducible first | exact ne_tf | exact ne_ft)); simp only [Act.put, List.setIfInBounds_toArray, List.set_cons_zero, List.set_cons_succ]) | (refine tq_pureq rfl rfl ?_ rfl (fun K hK => ?_); (focus (first | exact wanted_none rfl | (refine wanted_is rfl rfl rfl rfl ?_; with_reducible first | exact eq_tt | exact eq_ff))); go_big_quiet_op; refine hK _ ?_; clear hK K) | (refine tq_cloadx (t := 26) rfl rfl ?_ ?_ rfl rfl ?_; (focus (first | exact wanted_none rfl | (refine wanted_is rfl rfl rfl rfl ?_; with_reducible first | exact eq_tt | exact eq_ff))); (focus assumption); (first | refine ⟨_, fun w' hw' => ld_item_of hw'.p1, ?_⟩ | refine ⟨_, fun w' hw' => ld_item_of hw'.p2, ?_⟩ | refine ⟨_, fun w' hw' => ld_item_of hw'.p3, ?_⟩ | refine ⟨_, fun w' hw' => ld_item_of hw'.p4, ?_⟩ | refine ⟨_, fun w' hw' => ld_item_of hw'.p5, ?_⟩); simp only [Act.put, List.setIfInBounds_toArray, List.set_cons_zero, List.set_cons_succ]) | (refine tq_cloadx (t := 23) rfl rfl ?_ ?_ rfl rfl ?_; (focus (first | exact wanted_none rfl | (refine wanted_is rfl rfl rfl rfl ?_; with_reducible first | exact eq_tt | exact eq_ff))); (focus assumption); (first | refine ⟨_, fun w' hw' => ld_id_of hw'.p1, ?_⟩ | refine ⟨_, fun w' hw' => ld_id_of hw'.p2, ?_⟩ | refine ⟨_, fun w' hw' => ld_id_of hw'.p3, ?_⟩ | refine ⟨_, fun w' hw' => ld_id_of hw'.p4, ?_⟩ | refine ⟨_, fun w' hw' => ld_id_of hw'.p5, ?_⟩); simp only [Act.put, List.setIfInBounds_toArray, List.set_cons_zero, List.set_cons_succ]) | (refine tq_cloadx (t := 24) rfl rfl ?_ ?_ rfl rfl ?_; (focus (first | exact wanted_none rfl | (refine wanted_is rfl rfl rfl rfl ?_; with_reducible first | exact eq_tt | exact eq_ff))); (focus assumption); (first | refine ⟨_, fun w' hw' => ld_fee_of hw'.p1, ?_⟩ | refine ⟨_, fun w' hw' => ld_fee_of hw'.p2, ?_⟩ | refine ⟨_, fun w' hw' => ld_fee_of hw'.p3, ?_⟩ | refine ⟨_, fun w' hw' => ld_fee_of hw'.p4, ?_⟩ | refine ⟨_, fun w' hw' => ld_fee_of hw'.p5, ?_⟩); simp only [Act.put, List.setIfInBounds_toArray, List.set_cons_zero, List.set_cons_succ])))
  (refine tq_ceffq rfl rfl ?_ ?_ (fun K hK => ?_); (focus (first | exact wanted_none rfl | (refine wanted_is rfl rfl rfl rfl ?_; with_reducible first | exact eq_tt | exact eq_ff))); (focus assumption))
  go_wp2_with fail
  refine (less_calls _ _ oA oM _).mono ?_
  rintro e v1 ⟨rfl, hbv1⟩
  have szv1 := hbv1.size
  try simp only [World.size_alloc, size_upd, World.size_drew] at szv1
  rw [H1.out]
  have Cv1 := Cv0.on hbv1
  clear Cv0
  go_wp2_with fail
  refine hK _ _ Cv1 ?_
  clear hK K
  (repeat (first | (refine tq_skipq rfl ?_ ?_; (focus (refine wanted_is rfl rfl rfl rfl ?_; with_reducible first | exact ne_tf | exact ne_ft)); simp only [Act.put, List.setIfInBounds_toArray, List.set_cons_zero, List.set_cons_succ]) | (refine tq_pureq rfl rfl ?_ rfl (fun K hK => ?_); (focus (first | exact wanted_none rfl | (refine wanted_is rfl rfl rfl rfl ?_; with_reducible first | exact eq_tt | exact eq_ff))); go_big_quiet_op; refine hK _ ?_; clear hK K) | (refine tq_cloadx (t := 26) rfl rfl ?_ ?_ rfl rfl ?_; (focus (first | exact wanted_none rfl | (refine wanted_is rfl rfl rfl rfl ?_; with_reducible first | exact eq_tt | exact eq_ff))); (focus assumption); (first | refine ⟨_, fun w' hw' => ld_item_of hw'.p1, ?_⟩ | refine ⟨_, fun w' hw' => ld_item_of hw'.p2, ?_⟩ | refine ⟨_, fun w' hw' => ld_item_of hw'.p3, ?_⟩ | refine ⟨_, fun w' hw' => ld_item_of hw'.p4, ?_⟩ | refine ⟨_, fun w' hw' => ld_item_of hw'.p5, ?_⟩); simp only [Act.put, List.setIfInBounds_toArray, List.set_cons_zero, List.set_cons_succ]) | (refine tq_cloadx (t := 23) rfl rfl ?_ ?_ rfl rfl ?_; (focus (first | exact wanted_none rfl | (refine wanted_is rfl rfl rfl rfl ?_; with_reducible first | exact eq_tt | exact eq_ff))); (focus assumption); (first | refine ⟨_, fun w' hw' => ld_id_of hw'.p1, ?_⟩ | refine ⟨_, fun w' hw' => ld_id_of hw'.p2, ?_⟩ | refine ⟨_, fun w' hw' => ld_id_of hw'.p3, ?_⟩ | refine ⟨_, fun w' hw' => ld_id_of hw'.p4, ?_⟩ | refine ⟨_, fun w' hw' => ld_id_of hw'.p5, ?_⟩); simp only [Act.put, List.setIfInBounds_toArray, List.set_cons_zero, List.set_cons_succ]) | (refine tq_cloadx (t := 24) rfl rfl ?_ ?_ rfl rfl ?_; (focus (first | exact wanted_none rfl | (refine wanted_is rfl rfl rfl rfl ?_; with_reducible first | exact eq_tt | exact eq_ff))); (focus assumption); (first | refine ⟨_, fun w' hw' => ld_fee_of hw'.p1, ?_⟩ | refine ⟨_, fun w' hw' => ld_fee_of hw'.p2, ?_⟩ | refine ⟨_, fun w' hw' => ld_fee_of hw'.p3, ?_⟩ | refine ⟨_, fun w' hw' => ld_fee_of hw'.p4, ?_⟩ | refine ⟨_, fun w' hw' => ld_fee_of hw'.p5, ?_⟩); simp only [Act.put, List.setIfInBounds_toArray, List.set_cons_zero, List.set_cons_succ])))
  (refine tq_ceffq rfl rfl ?_ ?_ (fun K hK => ?_); (focus (first | exact wanted_none rfl | (refine wanted_is rfl rfl rfl rfl ?_; with_reducible first | exact eq_tt | exact eq_ff))); (focus assumption))
  go_wp2_with fail
  refine (less_calls _ _ oM oA _).mono ?_
  rintro e v2 ⟨rfl, hbv2⟩
  have szv2 := hbv2.size
  try simp only [World.size_alloc, size_upd, World.size_drew] at szv2
  rw [H2.out]
  have Cv2 := Cv1.on hbv2
  clear Cv1
  go_wp2_with fail
  refine hK _ _ Cv2 ?_
  clear hK K
  (repeat (first | (refine tq_skipq rfl ?_ ?_; (focus (refine wanted_is rfl rfl rfl rfl ?_; with_reducible first | exact ne_tf | exact ne_ft)); simp only [Act.put, List.setIfInBounds_toArray, List.set_cons_zero, List.set_cons_succ]) | (refine tq_pureq rfl rfl ?_ rfl (fun K hK => ?_); (focus (first | exact wanted_none rfl | (refine wanted_is rfl rfl rfl rfl ?_; with_reducible first | exact eq_tt | exact eq_ff))); go_big_quiet_op; refine hK _ ?_; clear hK K) | (refine tq_cloadx (t := 26) rfl rfl ?_ ?_ rfl rfl ?_; (focus (first | exact wanted_none rfl | (refine wanted_is rfl rfl rfl rfl ?_; with_reducible first | exact eq_tt | exact eq_ff))); (focus assumption); (first | refine ⟨_, fun w' hw' => ld_item_of hw'.p1, ?_⟩ | refine ⟨_, fun w' hw' => ld_item_of hw'.p2, ?_⟩ | refine ⟨_, fun w' hw' => ld_item_of hw'.p3, ?_⟩ | refine ⟨_, fun w' hw' => ld_item_of hw'.p4, ?_⟩ | refine ⟨_, fun w' hw' => ld_item_of hw'.p5, ?_⟩); simp only [Act.put, List.setIfInBounds_toArray, List.set_cons_zero, List.set_cons_succ]) | (refine tq_cloadx (t := 23) rfl rfl ?_ ?_ rfl rfl ?_; (focus (first | exact wanted_none rfl | (refine wanted_is rfl rfl rfl rfl ?_; with_reducible first | exact eq_tt | exact eq_ff))); (focus assumption); (first | refine ⟨_, fun w' hw' => ld_id_of hw'.p1, ?_⟩ | refine ⟨_, fun w' hw' => ld_id_of hw'.p2, ?_⟩ | refine ⟨_, fun w' hw' => ld_id_of hw'.p3, ?_⟩ | refine ⟨_, fun w' hw' => ld_id_of hw'.p4, ?_⟩ | refine ⟨_, fun w' hw' => ld_id_of hw'.p5, ?_⟩); simp only [Act.put, List.setIfInBounds_toArray, List.set_cons_zero, List.set_cons_succ]) | (refine tq_cloadx (t := 24) rfl rfl ?_ ?_ rfl rfl ?_; (focus (first | exact wanted_none rfl | (refine wanted_is rfl rfl rfl rfl ?_; with_reducible first | exact eq_tt | exact eq_ff))); (focus assumption); (first | refine ⟨_, fun w' hw' => ld_fee_of hw'.p1, ?_⟩ | refine ⟨_, fun w' hw' => ld_fee_of hw'.p2, ?_⟩ | refine ⟨_, fun w' hw' => ld_fee_of hw'.p3, ?_⟩ | refine ⟨_, fun w' hw' => ld_fee_of hw'.p4, ?_⟩ | refine ⟨_, fun w' hw' => ld_fee_of hw'.p5, ?_⟩); simp only [Act.put, List.setIfInBounds_toArray, List.set_cons_zero, List.set_cons_succ])))
  (refine tq_ceffq rfl rfl ?_ ?_ (fun K hK => ?_); (focus (first | exact wanted_none rfl | (refine wanted_is rfl rfl rfl rfl ?_; with_reducible first | exact eq_tt | exact eq_ff))); (focus assumption))
  go_wp2_with fail
  refine (less_calls _ _ oA oT _).mono ?_
  rintro e v4 ⟨rfl, hbv4⟩
  have szv4 := hbv4.size
  try simp only [World.size_alloc, size_upd, World.size_drew] at szv4
  rw [H4.out]
  have Cv4 := Cv2.on hbv4
  clear Cv2
  go_wp2_with fail
  refine hK _ _ Cv4 ?_
  clear hK K
  (repeat (first | (refine tq_skipq rfl ?_ ?_; (focus (refine wanted_is rfl rfl rfl rfl ?_; with_reducible first | exact ne_tf | exact ne_ft)); simp only [Act.put, List.setIfInBounds_toArray, List.set_cons_zero, List.set_cons_succ]) | (refine tq_pureq rfl rfl ?_ rfl (fun K hK => ?_); (focus (first | exact wanted_none rfl | (refine wanted_is rfl rfl rfl rfl ?_; with_reducible first | exact eq_tt | exact eq_ff))); go_big_quiet_op; refine hK _ ?_; clear hK K) | (refine tq_cloadx (t := 26) rfl rfl ?_ ?_ rfl rfl ?_; (focus (first | exact wanted_none rfl | (refine wanted_is rfl rfl rfl rfl ?_; with_reducible first | exact eq_tt | exact eq_ff))); (focus assumption); (first | refine ⟨_, fun w' hw' => ld_item_of hw'.p1, ?_⟩ | refine ⟨_, fun w' hw' => ld_item_of hw'.p2, ?_⟩ | refine ⟨_, fun w' hw' => ld_item_of hw'.p3, ?_⟩ | refine ⟨_, fun w' hw' => ld_item_of hw'.p4, ?_⟩ | refine ⟨_, fun w' hw' => ld_item_of hw'.p5, ?_⟩); simp only [Act.put, List.setIfInBounds_toArray, List.set_cons_zero, List.set_cons_succ]) | (refine tq_cloadx (t := 23) rfl rfl ?_ ?_ rfl rfl ?_; (focus (first | exact wanted_none rfl | (refine wanted_is rfl rfl rfl rfl ?_; with_reducible first | exact eq_tt | exact eq_ff))); (focus assumption); (first | refine ⟨_, fun w' hw' => ld_id_of hw'.p1, ?_⟩ | refine ⟨_, fun w' hw' => ld_id_of hw'.p2, ?_⟩ | refine ⟨_, fun w' hw' => ld_id_of hw'.p3, ?_⟩ | refine ⟨_, fun w' hw' => ld_id_of hw'.p4, ?_⟩ | refine ⟨_, fun w' hw' => ld_id_of hw'.p5, ?_⟩); simp only [Act.put, List.setIfInBounds_toArray, List.set_cons_zero, List.set_cons_succ]) | (refine tq_cloadx (t := 24) rfl rfl ?_ ?_ rfl rfl ?_; (focus (first | exact wanted_none rfl | (refine wanted_is rfl rfl rfl rfl ?_; with_reducible first | exact eq_tt | exact eq_ff))); (focus assumption); (first | refine ⟨_, fun w' hw' => ld_fee_of hw'.p1, ?_⟩ | refine ⟨_, fun w' hw' => ld_fee_of hw'.p2, ?_⟩ | refine ⟨_, fun w' hw' => ld_fee_of hw'.p3, ?_⟩ | refine ⟨_, fun w' hw' => ld_fee_of hw'.p4, ?_⟩ | refine ⟨_, fun w' hw' => ld_fee_of hw'.p5, ?_⟩); simp only [Act.put, List.setIfInBounds_toArray, List.set_cons_zero, List.set_cons_succ])))
  (refine tq_ceffq rfl rfl ?_ ?_ (fun K hK => ?_); (focus (first | exact wanted_none rfl | (refine wanted_is rfl rfl rfl rfl ?_; with_reducible first | exact eq_tt | exact eq_ff))); (focus assumption))
  go_wp2_with fail
  refine (lessHash_calls _ _ _).mono ?_
  rintro e v5 ⟨rfl, hbv5⟩
  have szv5 := hbv5.size
  try simp only [World.size_alloc, size_upd, World.size_drew] at szv5
  rw [H7.out]
  have Cv5 := Cv4.on hbv5
  clear Cv4
  go_wp2_with fail
  refine hK _ _ Cv5 ?_
  clear hK K
  (repeat (first | (refine tq_skipq rfl ?_ ?_; (focus (refine wanted_is rfl rfl rfl rfl ?_; with_reducible first | exact ne_tf | exact ne_ft)); simp only [Act.put, List.setIfInBounds_toArray, List.set_cons_zero, List.set_cons_succ]) | (refine tq_pureq rfl rfl ?_ rfl (fun K hK => ?_); (focus (first | exact wanted_none rfl | (refine wanted_is rfl rfl rfl rfl ?_; with_reducible first | exact eq_tt | exact eq_ff))); go_big_quiet_op; refine hK _ ?_; clear hK K) | (refine tq_cloadx (t := 26) rfl rfl ?_ ?_ rfl rfl ?_; (focus (first | exact wanted_none rfl | (refine wanted_is rfl rfl rfl rfl ?_; with_reducible first | exact eq_tt | exact eq_ff))); (focus assumption); (first | refine ⟨_, fun w' hw' => ld_item_of hw'.p1, ?_⟩ | refine ⟨_, fun w' hw' => ld_item_of hw'.p2, ?_⟩ | refine ⟨_, fun w' hw' => ld_item_of hw'.p3, ?_⟩ | refine ⟨_, fun w' hw' => ld_item_of hw'.p4, ?_⟩ | refine ⟨_, fun w' hw' => ld_item_of hw'.p5, ?_⟩); simp only [Act.put, List.setIfInBounds_toArray, List.set_cons_zero, List.set_cons_succ]) | (refine tq_cloadx (t := 23) rfl rfl ?_ ?_ rfl rfl ?_; (focus (first | exact wanted_none rfl | (refine wanted_is rfl rfl rfl rfl ?_; with_reducible first | exact eq_tt | exact eq_ff))); (focus assumption); (first | refine ⟨_, fun w' hw' => ld_id_of hw'.p1, ?_⟩ | refine ⟨_, fun w' hw' => ld_id_of hw'.p2, ?_⟩ | refine ⟨_, fun w' hw' => ld_id_of hw'.p3, ?_⟩ | refine ⟨_, fun w' hw' => ld_id_of hw'.p4, ?_⟩ | refine ⟨_, fun w' hw' => ld_id_of hw'.p5, ?_⟩); simp only [Act.put, List.setIfInBounds_toArray, List.set_cons_zero, List.set_cons_succ]) | (refine tq_cloadx (t := 24) rfl rfl ?_ ?_ rfl rfl ?_; (focus (first | exact wanted_none rfl | (refine wanted_is rfl rfl rfl rfl ?_; with_reducible first | exact eq_tt | exact eq_ff))); (focus assumption); (first | refine ⟨_, fun w' hw' => ld_fee_of hw'.p1, ?_⟩ | refine ⟨_, fun w' hw' => ld_fee_of hw'.p2, ?_⟩ | refine ⟨_, fun w' hw' => ld_fee_of hw'.p3, ?_⟩ | refine ⟨_, fun w' hw' => ld_fee_of hw'.p4, ?_⟩ | refine ⟨_, fun w' hw' => ld_fee_of hw'.p5, ?_⟩); simp only [Act.put, List.setIfInBounds_toArray, List.set_cons_zero, List.set_cons_succ])))
  (refine tq_ceffq rfl rfl ?_ ?_ (fun K hK => ?_); (focus (first | exact wanted_none rfl | (refine wanted_is rfl rfl rfl rfl ?_; with_reducible first | exact eq_tt | exact eq_ff))); (focus assumption))
  go_wp2_with fail
  refine (less_calls _ _ oA oB _).mono ?_
  rintro e v6 ⟨rfl, hbv6⟩
  have szv6 := hbv6.size
  try simp only [World.size_alloc, size_upd, World.size_drew] at szv6
  rw [HAB.out]
  have Cv6 := Cv5.on hbv6
  clear Cv5
  go_wp2_with fail
  refine hK _ _ Cv6 ?_
  clear hK K
  (repeat (first | (refine tq_skipq rfl ?_ ?_; (focus (refine wanted_is rfl rfl rfl rfl ?_; with_reducible first | exact ne_tf | exact ne_ft)); simp only [Act.put, List.setIfInBounds_toArray, List.set_cons_zero, List.set_cons_succ]) | (refine tq_pureq rfl rfl ?_ rfl (fun K hK => ?_); (focus (first | exact wanted_none rfl | (refine wanted_is rfl rfl rfl rfl ?_; with_reducible first | exact eq_tt | exact eq_ff))); go_big_quiet_op; refine hK _ ?_; clear hK K) | (refine tq_cloadx (t := 26) rfl rfl ?_ ?_ rfl rfl ?_; (focus (first | exact wanted_none rfl | (refine wanted_is rfl rfl rfl rfl ?_; with_reducible first | exact eq_tt | exact eq_ff))); (focus assumption); (first | refine ⟨_, fun w' hw' => ld_item_of hw'.p1, ?_⟩ | refine ⟨_, fun w' hw' => ld_item_of hw'.p2, ?_⟩ | refine ⟨_, fun w' hw' => ld_item_of hw'.p3, ?_⟩ | refine ⟨_, fun w' hw' => ld_item_of hw'.p4, ?_⟩ | refine ⟨_, fun w' hw' => ld_item_of hw'.p5, ?_⟩); simp only [Act.put, List.setIfInBounds_toArray, List.set_cons_zero, List.set_cons_succ]) | (refine tq_cloadx (t := 23) rfl rfl ?_ ?_ rfl rfl ?_; (focus (first | exact wanted_none rfl | (refine wanted_is rfl rfl rfl rfl ?_; with_reducible first | exact eq_tt | exact eq_ff))); (focus assumption); (first | refine ⟨_, fun w' hw' => ld_id_of hw'.p1, ?_⟩ | refine ⟨_, fun w' hw' => ld_id_of hw'.p2, ?_⟩ | refine ⟨_, fun w' hw' => ld_id_of hw'.p3, ?_⟩ | refine ⟨_, fun w' hw' => ld_id_of hw'.p4, ?_⟩ | refine ⟨_, fun w' hw' => ld_id_of hw'.p5, ?_⟩); simp only [Act.put, List.setIfInBounds_toArray, List.set_cons_zero, List.set_cons_succ]) | (refine tq_cloadx (t := 24) rfl rfl ?_ ?_ rfl rfl ?_; (focus (first | exact wanted_none rfl | (refine wanted_is rfl rfl rfl rfl ?_; with_reducible first | exact eq_tt | exact eq_ff))); (focus assumption); (first | refine ⟨_, fun w' hw' => ld_fee_of hw'.p1, ?_⟩ | refine ⟨_, fun w' hw' => ld_fee_of hw'.p2, ?_⟩ | refine ⟨_, fun w' hw' => ld_fee_of hw'.p3, ?_⟩ | refine ⟨_, fun w' hw' => ld_fee_of hw'.p4, ?_⟩ | refine ⟨_, fun w' hw' => ld_fee_of hw'.p5, ?_⟩); simp only [Act.put, List.setIfInBounds_toArray, List.set_cons_zero, List.set_cons_succ])))
  (refine tq_ceffq rfl rfl ?_ ?_ (fun K hK => ?_); (focus (first | exact wanted_none rfl | (refine wanted_is rfl rfl rfl rfl ?_; with_reducible first | exact eq_tt | exact eq_ff))); (focus assumption))
  go_wp2_with fail
  refine (less_calls _ _ oB oA _).mono ?_
  rintro e v7 ⟨rfl, hbv7⟩
  have szv7 := hbv7.size
  try simp only [World.size_alloc, size_upd, World.size_drew] at szv7
  rw [HBA.out]
  have Cv7 := Cv6.on hbv7
  clear Cv6
  go_wp2_with fail
  refine hK _ _ Cv7 ?_
  clear hK K
  (repeat (first | (refine tq_skipq rfl ?_ ?_; (focus (refine wanted_is rfl rfl rfl rfl ?_; with_reducible first | exact ne_tf | exact ne_ft)); simp only [Act.put, List.setIfInBounds_toArray, List.set_cons_zero, List.set_cons_succ]) | (refine tq_pureq rfl rfl ?_ rfl (fun K hK => ?_); (focus (first | exact wanted_none rfl | (refine wanted_is rfl rfl rfl rfl ?_; with_reducible first | exact eq_tt | exact eq_ff))); go_big_quiet_op; refine hK _ ?_; clear hK K) | (refine tq_cloadx (t := 26) rfl rfl ?_ ?_ rfl rfl ?_; (focus (first | exact wanted_none rfl | (refine wanted_is rfl rfl rfl rfl ?_; with_reducible first | exact eq_tt | exact eq_ff))); (focus assumption); (first | refine ⟨_, fun w' hw' => ld_item_of hw'.p1, ?_⟩ | refine ⟨_, fun w' hw' => ld_item_of hw'.p2, ?_⟩ | refine ⟨_, fun w' hw' => ld_item_of hw'.p3, ?_⟩ | refine ⟨_, fun w' hw' => ld_item_of hw'.p4, ?_⟩ | refine ⟨_, fun w' hw' => ld_item_of hw'.p5, ?_⟩); simp only [Act.put, List.setIfInBounds_toArray, List.set_cons_zero, List.set_cons_succ]) | (refine tq_cloadx (t := 23) rfl rfl ?_ ?_ rfl rfl ?_; (focus (first | exact wanted_none rfl | (refine wanted_is rfl rfl rfl rfl ?_; with_reducible first | exact eq_tt | exact eq_ff))); (focus assumption); (first | refine ⟨_, fun w' hw' => ld_id_of hw'.p1, ?_⟩ | refine ⟨_, fun w' hw' => ld_id_of hw'.p2, ?_⟩ | refine ⟨_, fun w' hw' => ld_id_of hw'.p3, ?_⟩ | refine ⟨_, fun w' hw' => ld_id_of hw'.p4, ?_⟩ | refine ⟨_, fun w' hw' => ld_id_of hw'.p5, ?_⟩); simp only [Act.put, List.setIfInBounds_toArray, List.set_cons_zero, List.set_cons_succ]) | (refine tq_cloadx (t := 24) rfl rfl ?_ ?_ rfl rfl ?_; (focus (first | exact wanted_none rfl | (refine wanted_is rfl rfl rfl rfl ?_; with_reducible first | exact eq_tt | exact eq_ff))); (focus assumption); (first | refine ⟨_, fun w' hw' => ld_fee_of hw'.p1, ?_⟩ | refine ⟨_, fun w' hw' => ld_fee_of hw'.p2, ?_⟩ | refine ⟨_, fun w' hw' => ld_fee_of hw'.p3, ?_⟩ | refine ⟨_, fun w' hw' => ld_fee_of hw'.p4, ?_⟩ | refine ⟨_, fun w' hw' => ld_fee_of hw'.p5, ?_⟩); simp only [Act.put, List.setIfInBounds_toArray, List.set_cons_zero, List.set_cons_succ])))
  refine tq_nil ?_
  go_wp2_with fail
  go_ret
  exact ⟨rfl, by (repeat' (first | exact Below.refl _ _ | (with_reducible refine Below.alloc ?_ ?_ _) | (with_reducible refine Below.drew ?_) | (with_reducible refine below_upd ?_ ?_ _) | (with_reducible refine Below.setCell ?_ ?_ _) | (with_reducible refine Below.trans ?_ (Below.mono (by assumption) ?_)) | ((try simp only [World.size_alloc, size_upd, World.size_drew, World.size_setCell] at *); omega)))⟩

set_option maxHeartbeats 4000000 in
theorem walkNZF (a b : Item) (n : Int) (ka : a.ok) (kb : b.ok) (hn : -9223372036854775808 ≤ n) (hn' : n ≤ 9223372036854775807) (hxy : ¬ (a.fee % 1099511627776 * (b.bytes % 4000 + 1)) = (b.fee % 1099511627776 * (a.bytes % 4000 + 1))) (hf0 : a.fee % 1099511627776 = 0) (hab : worse (Item.mk a.id (a.fee % 1099511627776) (a.bytes % 4000 + 1)) (Item.mk b.id (b.fee % 1099511627776) (b.bytes % 4000 + 1)) = false) (w : World) :
    Calls Try.prog 3 #[.agg a.cells, .agg b.cells, .int .i64 n] w fun e w' => e = .returned (.bool true) ∧ Below w.heap.size w w' := by
  obtain ⟨gx, gx', hx, hx'⟩ := ka
  obtain ⟨gy, gy', hy, hy'⟩ := kb
  have m1 : 0 ≤ n % 1000 ∧ n % 1000 < 1000 := by omega
  have m2 : 0 ≤ a.bytes % 4000 ∧ a.bytes % 4000 < 4000 := by omega
  have m3 : 0 ≤ b.bytes % 4000 ∧ b.bytes % 4000 < 4000 := by omega
  have m4 : 0 ≤ a.fee % 1099511627776 ∧ a.fee % 1099511627776 < 1099511627776 := by omega
  have m5 : 0 ≤ b.fee % 1099511627776 ∧ b.fee % 1099511627776 < 1099511627776 := by omega
  have p1 := prod_le m4.1 (show 0 ≤ n % 1000 + 1 by omega) (show _ ≤ 1099511627776 by omega) (show _ ≤ 1000 by omega)
  have p2 := prod_le (show 0 ≤ a.bytes % 4000 + 1 by omega) (show 0 ≤ n % 1000 + 1 by omega) (show _ ≤ 4000 by omega) (show _ ≤ 1000 by omega)
  have p3 := prod_le m4.1 (show 0 ≤ b.bytes % 4000 + 1 by omega) (show _ ≤ 1099511627776 by omega) (show _ ≤ 4000 by omega)
  have p4 := prod_le m5.1 (show 0 ≤ a.bytes % 4000 + 1 by omega) (show _ ≤ 1099511627776 by omega) (show _ ≤ 4000 by omega)
  have oA : (Item.mk a.id (a.fee % 1099511627776) (a.bytes % 4000 + 1)).ok := ⟨m4.1, by show a.fee % 1099511627776 ≤ _; omega, by show _ ≤ a.bytes % 4000 + 1; omega, by show a.bytes % 4000 + 1 ≤ _; omega⟩
  have oB : (Item.mk b.id (b.fee % 1099511627776) (b.bytes % 4000 + 1)).ok := ⟨m5.1, by show b.fee % 1099511627776 ≤ _; omega, by show _ ≤ b.bytes % 4000 + 1; omega, by show b.bytes % 4000 + 1 ≤ _; omega⟩
  have oM : (Item.mk a.id (a.fee % 1099511627776 + (n % 1000 + 1)) (a.bytes % 4000 + 1)).ok := ⟨by show 0 ≤ a.fee % 1099511627776 + (n % 1000 + 1); omega, by show a.fee % 1099511627776 + (n % 1000 + 1) ≤ _; omega, by show _ ≤ a.bytes % 4000 + 1; omega, by show a.bytes % 4000 + 1 ≤ _; omega⟩
  have oL : (Item.mk a.id (a.fee % 1099511627776) (a.bytes % 4000 + 1 + (n % 1000 + 1))).ok := ⟨m4.1, by show a.fee % 1099511627776 ≤ _; omega, by show _ ≤ a.bytes % 4000 + 1 + (n % 1000 + 1); omega, by show a.bytes % 4000 + 1 + (n % 1000 + 1) ≤ _; omega⟩
  have oT : (Item.mk zeroHash (a.fee % 1099511627776 * (n % 1000 + 1)) ((a.bytes % 4000 + 1) * (n % 1000 + 1))).ok := ⟨p1.1, by have := p1.2; show a.fee % 1099511627776 * (n % 1000 + 1) ≤ _; omega, by have := p2.1; show _ ≤ (a.bytes % 4000 + 1) * (n % 1000 + 1); omega, by have := p2.2; show (a.bytes % 4000 + 1) * (n % 1000 + 1) ≤ _; omega⟩
  have e1 : IntKind.u64.wrap (a.fee % 1099511627776 * (n % 1000 + 1)) = a.fee % 1099511627776 * (n % 1000 + 1) := IntWalk.u64_in _ ⟨p1.1, by have := p1.2; omega⟩
  have e2 : wrap64 ((a.bytes % 4000 + 1) * (n % 1000 + 1)) = (a.bytes % 4000 + 1) * (n % 1000 + 1) := IntWalk.wrap64_in _ ⟨by have := p2.1; omega, by have := p2.2; omega⟩
  have e3 : IntKind.u64.wrap (a.fee % 1099511627776 * (b.bytes % 4000 + 1)) = (a.fee % 1099511627776 * (b.bytes % 4000 + 1)) := IntWalk.u64_in _ ⟨p3.1, by have := p3.2; omega⟩
  have e4 : IntKind.u64.wrap (b.fee % 1099511627776 * (a.bytes % 4000 + 1)) = (b.fee % 1099511627776 * (a.bytes % 4000 + 1)) := IntWalk.u64_in _ ⟨p4.1, by have := p4.2; omega⟩
  have H1 := Lib.hid (more_yes a n m2.1 m1.1)
  have H2 := Lib.hid (more_no a n m2.1 m1.1)
  have H3 := Lib.hid (longer_yes a n m2.1 m1.1)
  obtain ⟨β, hβ⟩ : ∃ β, decide (lcmp zeroHash.l a.id.l < 0) = β := ⟨_, rfl⟩
  have H4 := Lib.hid ((twice_same a n m2.1 m1.1).trans hβ)
  have H7 := Lib.hid hβ
  clear hβ
  have H5 := Lib.hid (worse_asymm (Item.mk a.id (a.fee % 1099511627776) (a.bytes % 4000 + 1)) (Item.mk b.id (b.fee % 1099511627776) (b.bytes % 4000 + 1)))
  have HN := Lib.hid (num_ab a b m3.1)
  have HN' := Lib.hid (num_ab b a m2.1)
  clear p1 p2 p3 p4
  have HAB := Lib.hid hab
  clear hab
  have hfz : (a.fee % 1099511627776 == 0) = true := by rw [beq_iff_eq]; exact hf0
  clear hf0
  have hne : ((a.fee % 1099511627776 * (b.bytes % 4000 + 1)) != (b.fee % 1099511627776 * (a.bytes % 4000 + 1))) = true := by rw [bne_iff_ne]; exact hxy
  have heq : ((a.fee % 1099511627776 * (b.bytes % 4000 + 1)) == (b.fee % 1099511627776 * (a.bytes % 4000 + 1))) = false := by rw [beq_eq_false_iff_ne]; exact hxy
  have H6 := Lib.hid (worse_ne (x := (Item.mk a.id (a.fee % 1099511627776) (a.bytes % 4000 + 1))) (y := (Item.mk b.id (b.fee % 1099511627776) (b.bytes % 4000 + 1))) (by rw [num_ab a b m3.1, num_ab b a m2.1]; exact hxy))
  clear hxy
  go_enter Try.func3, Try.ntmps3
  go_wp2_with (first | (go_at_call 7; refine (first_calls _).mono ?_; rintro e w1 ⟨rfl, hb⟩; obtain ⟨hk, hc, hf, hz⟩ := bfacts hb; clear hc hf; try simp only [World.size_alloc, size_upd, World.size_drew] at hz) | (go_at_call 8; refine (number_calls _ _ (by omega) (by omega) (by omega) (by omega) _).mono ?_; rintro e w' ⟨rfl, rfl⟩))
  refine (less_calls _ _ oA oB _).mono ?_
  rintro e w2 ⟨rfl, hb2⟩
  have sz2 := hb2.size
  try simp only [World.size_alloc, size_upd, World.size_drew] at sz2
  rw [H6.out, HN.out, HN'.out]
  have C2 : CX w.heap.size w1.heap.size a b n w2 := CX.on ⟨by (go_simp <;> (repeat' split) <;> first | rfl | omega), by (go_simp <;> (repeat' split) <;> first | rfl | omega), by (go_simp <;> (repeat' split) <;> first | rfl | omega), by (go_simp <;> (repeat' split) <;> first | rfl | omega), by (go_simp <;> (repeat' split) <;> first | rfl | omega)⟩ hb2
  go_wp2_with fail
  have C2' : CX w.heap.size w1.heap.size a b n w2.drew := C2
  refine wp_region_tq (C := CX w.heap.size w1.heap.size a b n) (fun | 4 | 5 | 8 | 10 => .cread | 6 | 11 => .ceff | _ => .pure) [0, 1, 2, 3, 4, 5, 6, 7, 8, 9, 10, 11, 12, 13] [0, 0, 3, 7, 15, 15, 63, 15, 143, 15, 527, 2047, 4095, 8191] (by kernel_rfl) (by kernel_rfl) ?_
  (repeat (first | (refine tq_skipq rfl ?_ ?_; (focus (refine wanted_is rfl rfl rfl rfl ?_; with_reducible first | exact ne_tf | exact ne_ft)); simp only [Act.put, List.setIfInBounds_toArray, List.set_cons_zero, List.set_cons_succ]) | (refine tq_pureq rfl rfl ?_ rfl (fun K hK => ?_); (focus (first | exact wanted_none rfl | (refine wanted_is rfl rfl rfl rfl ?_; with_reducible first | exact eq_tt | exact eq_ff))); go_big_quiet_op; refine hK _ ?_; clear hK K)))
  refine tq_nil ?_
  go_wp2_with fail
  have Cz : CX w.heap.size w1.heap.size a b n w2.drew.drew := C2
  clear C2 C2'
  refine wp_region_tq (C := CX w.heap.size w1.heap.size a b n) (fun | 2 | 3 | 7 | 8 | 14 | 17 | 18 | 23 | 24 | 27 | 29 | 34 | 35 | 38 | 39 => .cread | 4 | 9 | 19 | 25 | 30 | 36 | 40 => .ceff | _ => .pure) [0, 1, 2, 3, 4, 5, 6, 7, 8, 9, 10, 11, 12, 13, 14, 15, 16, 17, 18, 19, 20, 21, 22, 23, 24, 25, 26, 27, 28, 29, 30, 31, 32, 33, 34, 35, 36, 37, 38, 39, 40, 41, 42, 43, 44] [0, 1, 3, 3, 15, 31, 63, 127, 127, 511, 1023, 2047, 4095, 8191, 16383, 32767, 65535, 131071, 131071, 524287, 1048575, 2097151, 4194303, 8388607, 8388607, 33554431, 8388607, 75497471, 8388607, 276824063, 1073741823, 2147483647, 4294967295, 8589934591, 17179869183, 17179869183, 68719476735, 137438953471, 274877906943, 274877906943, 1099511627775, 2199023255551, 4398046511103, 8796093022207, 17592186044415] (by kernel_rfl) (by kernel_rfl) ?_
  have Cv0 := Cz
  clear Cz
  (repeat (first | (refine tq_skipq rfl ?_ ?_; (focus (refine wanted_is rfl rfl rfl rfl ?_; with_reducible first | exact ne_tf | exact ne_ft)); simp only [Act.put, List.setIfInBounds_toArray, List.set_cons_zero, List.set_cons_succ]) | (refine tq_pureq rfl rfl ?_ rfl (fun K hK => ?_); (focus (first | exact wanted_none rfl | (refine wanted_is rfl rfl rfl rfl ?_; with_reducible first | exact eq_tt | exact eq_ff))); go_big_quiet_op; refine hK _ ?_; clear hK K) | (refine tq_cloadx (t := 26) rfl rfl ?_ ?_ rfl rfl ?_; (focus (first | exact wanted_none rfl | (refine wanted_is rfl rfl rfl rfl ?_; with_reducible first | exact eq_tt | exact eq_ff))); (focus assumption); (first | refine ⟨_, fun w' hw' => ld_item_of hw'.p1, ?_⟩ | refine ⟨_, fun w' hw' => ld_item_of hw'.p2, ?_⟩ | refine ⟨_, fun w' hw' => ld_item_of hw'.p3, ?_⟩ | refine ⟨_, fun w' hw' => ld_item_of hw'.p4, ?_⟩ | refine ⟨_, fun w' hw' => ld_item_of hw'.p5, ?_⟩); simp only [Act.put, List.setIfInBounds_toArray, List.set_cons_zero, List.set_cons_succ]) | (refine tq_cloadx (t := 23) rfl rfl ?_ ?_ rfl rfl ?_; (focus (first | exact wanted_none rfl | (refine wanted_is rfl rfl rfl rfl ?_; with_reducible first | exact eq_tt | exact eq_ff))); (focus assumption); (first | refine ⟨_, fun w' hw' => ld_id_of hw'.p1, ?_⟩ | refine ⟨_, fun w' hw' => ld_id_of hw'.p2, ?_⟩ | refine ⟨_, fun w' hw' => ld_id_of hw'.p3, ?_⟩ | refine ⟨_, fun w' hw' => ld_id_of hw'.p4, ?_⟩ | refine ⟨_, fun w' hw' => ld_id_of hw'.p5, ?_⟩); simp only [Act.put, List.setIfInBounds_toArray, List.set_cons_zero, List.set_cons_succ]) | (refine tq_cloadx (t := 24) rfl rfl ?_ ?_ rfl rfl ?_; (focus (first | exact wanted_none rfl | (refine wanted_is rfl rfl rfl rfl ?_; with_reducible first | exact eq_tt | exact eq_ff))); (focus assumption); (first | refine ⟨_, fun w' hw' => ld_fee_of hw'.p1, ?_⟩ | refine ⟨_, fun w' hw' => ld_fee_of hw'.p2, ?_⟩ | refine ⟨_, fun w' hw' => ld_fee_of hw'.p3, ?_⟩ | refine ⟨_, fun w' hw' => ld_fee_of hw'.p4, ?_⟩ | refine ⟨_, fun w' hw' => ld_fee_of hw'.p5, ?_⟩); simp only [Act.put, List.setIfInBounds_toArray, List.set_cons_zero, List.set_cons_succ])))
  (refine tq_ceffq rfl rfl ?_ ?_ (fun K hK => ?_); (focus (first | exact wanted_none rfl | (refine wanted_is rfl rfl rfl rfl ?_; with_reducible first | exact eq_tt | exact eq_ff))); (focus assumption))
  go_wp2_with fail
  refine (less_calls _ _ oA oM _).mono ?_
  rintro e v1 ⟨rfl, hbv1⟩
  have szv1 := hbv1.size
  try simp only [World.size_alloc, size_upd, World.size_drew] at szv1
  rw [H1.out]
  have Cv1 := Cv0.on hbv1
  clear Cv0
  go_wp2_with fail
  refine hK _ _ Cv1 ?_
  clear hK K
  (repeat (first | (refine tq_skipq rfl ?_ ?_; (focus (refine wanted_is rfl rfl rfl rfl ?_; with_reducible first | exact ne_tf | exact ne_ft)); simp only [Act.put, List.setIfInBounds_toArray, List.set_cons_zero, List.set_cons_succ]) | (refine tq_pureq rfl rfl ?_ rfl (fun K hK => ?_); (focus (first | exact wanted_none rfl | (refine wanted_is rfl rfl rfl rfl ?_; with_reducible first | exact eq_tt | exact eq_ff))); go_big_quiet_op; refine hK _ ?_; clear hK K) | (refine tq_cloadx (t := 26) rfl rfl ?_ ?_ rfl rfl ?_; (focus (first | exact wanted_none rfl | (refine wanted_is rfl rfl rfl rfl ?_; with_reducible first | exact eq_tt | exact eq_ff))); (focus assumption); (first | refine ⟨_, fun w' hw' => ld_item_of hw'.p1, ?_⟩ | refine ⟨_, fun w' hw' => ld_item_of hw'.p2, ?_⟩ | refine ⟨_, fun w' hw' => ld_item_of hw'.p3, ?_⟩ | refine ⟨_, fun w' hw' => ld_item_of hw'.p4, ?_⟩ | refine ⟨_, fun w' hw' => ld_item_of hw'.p5, ?_⟩); simp only [Act.put, List.setIfInBounds_toArray, List.set_cons_zero, List.set_cons_succ]) | (refine tq_cloadx (t := 23) rfl rfl ?_ ?_ rfl rfl ?_; (focus (first | exact wanted_none rfl | (refine wanted_is rfl rfl rfl rfl ?_; with_reducible first | exact eq_tt | exact eq_ff))); (focus assumption); (first | refine ⟨_, fun w' hw' => ld_id_of hw'.p1, ?_⟩ | refine ⟨_, fun w' hw' => ld_id_of hw'.p2, ?_⟩ | refine ⟨_, fun w' hw' => ld_id_of hw'.p3, ?_⟩ | refine ⟨_, fun w' hw' => ld_id_of hw'.p4, ?_⟩ | refine ⟨_, fun w' hw' => ld_id_of hw'.p5, ?_⟩); simp only [Act.put, List.setIfInBounds_toArray, List.set_cons_zero, List.set_cons_succ]) | (refine tq_cloadx (t := 24) rfl rfl ?_ ?_ rfl rfl ?_; (focus (first | exact wanted_none rfl | (refine wanted_is rfl rfl rfl rfl ?_; with_reducible first | exact eq_tt | exact eq_ff))); (focus assumption); (first | refine ⟨_, fun w' hw' => ld_fee_of hw'.p1, ?_⟩ | refine ⟨_, fun w' hw' => ld_fee_of hw'.p2, ?_⟩ | refine ⟨_, fun w' hw' => ld_fee_of hw'.p3, ?_⟩ | refine ⟨_, fun w' hw' => ld_fee_of hw'.p4, ?_⟩ | refine ⟨_, fun w' hw' => ld_fee_of hw'.p5, ?_⟩); simp only [Act.put, List.setIfInBounds_toArray, List.set_cons_zero, List.set_cons_succ])))
  (refine tq_ceffq rfl rfl ?_ ?_ (fun K hK => ?_); (focus (first | exact wanted_none rfl | (refine wanted_is rfl rfl rfl rfl ?_; with_reducible first | exact eq_tt | exact eq_ff))); (focus assumption))
  go_wp2_with fail
  refine (less_calls _ _ oM oA _).mono ?_
  rintro e v2 ⟨rfl, hbv2⟩
  have szv2 := hbv2.size
  try simp only [World.size_alloc, size_upd, World.size_drew] at szv2
  rw [H2.out]
  have Cv2 := Cv1.on hbv2
  clear Cv1
  go_wp2_with fail
  refine hK _ _ Cv2 ?_
  clear hK K
  (repeat (first | (refine tq_skipq rfl ?_ ?_; (focus (refine wanted_is rfl rfl rfl rfl ?_; with_reducible first | exact ne_tf | exact ne_ft)); simp only [Act.put, List.setIfInBounds_toArray, List.set_cons_zero, List.set_cons_succ]) | (refine tq_pureq rfl rfl ?_ rfl (fun K hK => ?_); (focus (first | exact wanted_none rfl | (refine wanted_is rfl rfl rfl rfl ?_; with_reducible first | exact eq_tt | exact eq_ff))); go_big_quiet_op; refine hK _ ?_; clear hK K) | (refine tq_cloadx (t := 26) rfl rfl ?_ ?_ rfl rfl ?_; (focus (first | exact wanted_none rfl | (refine wanted_is rfl rfl rfl rfl ?_; with_reducible first | exact eq_tt | exact eq_ff))); (focus assumption); (first | refine ⟨_, fun w' hw' => ld_item_of hw'.p1, ?_⟩ | refine ⟨_, fun w' hw' => ld_item_of hw'.p2, ?_⟩ | refine ⟨_, fun w' hw' => ld_item_of hw'.p3, ?_⟩ | refine ⟨_, fun w' hw' => ld_item_of hw'.p4, ?_⟩ | refine ⟨_, fun w' hw' => ld_item_of hw'.p5, ?_⟩); simp only [Act.put, List.setIfInBounds_toArray, List.set_cons_zero, List.set_cons_succ]) | (refine tq_cloadx (t := 23) rfl rfl ?_ ?_ rfl rfl ?_; (focus (first | exact wanted_none rfl | (refine wanted_is rfl rfl rfl rfl ?_; with_reducible first | exact eq_tt | exact eq_ff))); (focus assumption); (first | refine ⟨_, fun w' hw' => ld_id_of hw'.p1, ?_⟩ | refine ⟨_, fun w' hw' => ld_id_of hw'.p2, ?_⟩ | refine ⟨_, fun w' hw' => ld_id_of hw'.p3, ?_⟩ | refine ⟨_, fun w' hw' => ld_id_of hw'.p4, ?_⟩ | refine ⟨_, fun w' hw' => ld_id_of hw'.p5, ?_⟩); simp only [Act.put, List.setIfInBounds_toArray, List.set_cons_zero, List.set_cons_succ]) | (refine tq_cloadx (t := 24) rfl rfl ?_ ?_ rfl rfl ?_; (focus (first | exact wanted_none rfl | (refine wanted_is rfl rfl rfl rfl ?_; with_reducible first | exact eq_tt | exact eq_ff))); (focus assumption); (first | refine ⟨_, fun w' hw' => ld_fee_of hw'.p1, ?_⟩ | refine ⟨_, fun w' hw' => ld_fee_of hw'.p2, ?_⟩ | refine ⟨_, fun w' hw' => ld_fee_of hw'.p3, ?_⟩ | refine ⟨_, fun w' hw' => ld_fee_of hw'.p4, ?_⟩ | refine ⟨_, fun w' hw' => ld_fee_of hw'.p5, ?_⟩); simp only [Act.put, List.setIfInBounds_toArray, List.set_cons_zero, List.set_cons_succ])))
  (refine tq_ceffq rfl rfl ?_ ?_ (fun K hK => ?_); (focus (first | exact wanted_none rfl | (refine wanted_is rfl rfl rfl rfl ?_; with_reducible first | exact eq_tt | exact eq_ff))); (focus assumption))
  go_wp2_with fail
  refine (less_calls _ _ oA oT _).mono ?_
  rintro e v4 ⟨rfl, hbv4⟩
  have szv4 := hbv4.size
  try simp only [World.size_alloc, size_upd, World.size_drew] at szv4
  rw [H4.out]
  have Cv4 := Cv2.on hbv4
  clear Cv2
  go_wp2_with fail
  refine hK _ _ Cv4 ?_
  clear hK K
  (repeat (first | (refine tq_skipq rfl ?_ ?_; (focus (refine wanted_is rfl rfl rfl rfl ?_; with_reducible first | exact ne_tf | exact ne_ft)); simp only [Act.put, List.setIfInBounds_toArray, List.set_cons_zero, List.set_cons_succ]) | (refine tq_pureq rfl rfl ?_ rfl (fun K hK => ?_); (focus (first | exact wanted_none rfl | (refine wanted_is rfl rfl rfl rfl ?_; with_reducible first | exact eq_tt | exact eq_ff))); go_big_quiet_op; refine hK _ ?_; clear hK K) | (refine tq_cloadx (t := 26) rfl rfl ?_ ?_ rfl rfl ?_; (focus (first | exact wanted_none rfl | (refine wanted_is rfl rfl rfl rfl ?_; with_reducible first | exact eq_tt | exact eq_ff))); (focus assumption); (first | refine ⟨_, fun w' hw' => ld_item_of hw'.p1, ?_⟩ | refine ⟨_, fun w' hw' => ld_item_of hw'.p2, ?_⟩ | refine ⟨_, fun w' hw' => ld_item_of hw'.p3, ?_⟩ | refine ⟨_, fun w' hw' => ld_item_of hw'.p4, ?_⟩ | refine ⟨_, fun w' hw' => ld_item_of hw'.p5, ?_⟩); simp only [Act.put, List.setIfInBounds_toArray, List.set_cons_zero, List.set_cons_succ]) | (refine tq_cloadx (t := 23) rfl rfl ?_ ?_ rfl rfl ?_; (focus (first | exact wanted_none rfl | (refine wanted_is rfl rfl rfl rfl ?_; with_reducible first | exact eq_tt | exact eq_ff))); (focus assumption); (first | refine ⟨_, fun w' hw' => ld_id_of hw'.p1, ?_⟩ | refine ⟨_, fun w' hw' => ld_id_of hw'.p2, ?_⟩ | refine ⟨_, fun w' hw' => ld_id_of hw'.p3, ?_⟩ | refine ⟨_, fun w' hw' => ld_id_of hw'.p4, ?_⟩ | refine ⟨_, fun w' hw' => ld_id_of hw'.p5, ?_⟩); simp only [Act.put, List.setIfInBounds_toArray, List.set_cons_zero, List.set_cons_succ]) | (refine tq_cloadx (t := 24) rfl rfl ?_ ?_ rfl rfl ?_; (focus (first | exact wanted_none rfl | (refine wanted_is rfl rfl rfl rfl ?_; with_reducible first | exact eq_tt | exact eq_ff))); (focus assumption); (first | refine ⟨_, fun w' hw' => ld_fee_of hw'.p1, ?_⟩ | refine ⟨_, fun w' hw' => ld_fee_of hw'.p2, ?_⟩ | refine ⟨_, fun w' hw' => ld_fee_of hw'.p3, ?_⟩ | refine ⟨_, fun w' hw' => ld_fee_of hw'.p4, ?_⟩ | refine ⟨_, fun w' hw' => ld_fee_of hw'.p5, ?_⟩); simp only [Act.put, List.setIfInBounds_toArray, List.set_cons_zero, List.set_cons_succ])))
  (refine tq_ceffq rfl rfl ?_ ?_ (fun K hK => ?_); (focus (first | exact wanted_none rfl | (refine wanted_is rfl rfl rfl rfl ?_; with_reducible first | exact eq_tt | exact eq_ff))); (focus assumption))
  go_wp2_with fail
  refine (lessHash_calls _ _ _).mono ?_
  rintro e v5 ⟨rfl, hbv5⟩
  have szv5 := hbv5.size
  try simp only [World.size_alloc, size_upd, World.size_drew] at szv5
  rw [H7.out]
  have Cv5 := Cv4.on hbv5
  clear Cv4
  go_wp2_with fail
  refine hK _ _ Cv5 ?_
  clear hK K
  (repeat (first | (refine tq_skipq rfl ?_ ?_; (focus (refine wanted_is rfl rfl rfl rfl ?_; with_reducible first | exact ne_tf | exact ne_ft)); simp only [Act.put, List.setIfInBounds_toArray, List.set_cons_zero, List.set_cons_succ]) | (refine tq_pureq rfl rfl ?_ rfl (fun K hK => ?_); (focus (first | exact wanted_none rfl | (refine wanted_is rfl rfl rfl rfl ?_; with_reducible first | exact eq_tt | exact eq_ff))); go_big_quiet_op; refine hK _ ?_; clear hK K) | (refine tq_cloadx (t := 26) rfl rfl ?_ ?_ rfl rfl ?_; (focus (first | exact wanted_none rfl | (refine wanted_is rfl rfl rfl rfl ?_; with_reducible first | exact eq_tt | exact eq_ff))); (focus assumption); (first | refine ⟨_, fun w' hw' => ld_item_of hw'.p1, ?_⟩ | refine ⟨_, fun w' hw' => ld_item_of hw'.p2, ?_⟩ | refine ⟨_, fun w' hw' => ld_item_of hw'.p3, ?_⟩ | refine ⟨_, fun w' hw' => ld_item_of hw'.p4, ?_⟩ | refine ⟨_, fun w' hw' => ld_item_of hw'.p5, ?_⟩); simp only [Act.put, List.setIfInBounds_toArray, List.set_cons_zero, List.set_cons_succ]) | (refine tq_cloadx (t := 23) rfl rfl ?_ ?_ rfl rfl ?_; (focus (first | exact wanted_none rfl | (refine wanted_is rfl rfl rfl rfl ?_; with_reducible first | exact eq_tt | exact eq_ff))); (focus assumption); (first | refine ⟨_, fun w' hw' => ld_id_of hw'.p1, ?_⟩ | refine ⟨_, fun w' hw' => ld_id_of hw'.p2, ?_⟩ | refine ⟨_, fun w' hw' => ld_id_of hw'.p3, ?_⟩ | refine ⟨_, fun w' hw' => ld_id_of hw'.p4, ?_⟩ | refine ⟨_, fun w' hw' => ld_id_of hw'.p5, ?_⟩); simp only [Act.put, List.setIfInBounds_toArray, List.set_cons_zero, List.set_cons_succ]) | (refine tq_cloadx (t := 24) rfl rfl ?_ ?_ rfl rfl ?_; (focus (first | exact wanted_none rfl | (refine wanted_is rfl rfl rfl rfl ?_; with_reducible first | exact eq_tt | exact eq_ff))); (focus assumption); (first | refine ⟨_, fun w' hw' => ld_fee_of hw'.p1, ?_⟩ | refine ⟨_, fun w' hw' => ld_fee_of hw'.p2, ?_⟩ | refine ⟨_, fun w' hw' => ld_fee_of hw'.p3, ?_⟩ | refine ⟨_, fun w' hw' => ld_fee_of hw'.p4, ?_⟩ | refine ⟨_, fun w' hw' => ld_fee_of hw'.p5, ?_⟩); simp only [Act.put, List.setIfInBounds_toArray, List.set_cons_zero, List.set_cons_succ])))
  (refine tq_ceffq rfl rfl ?_ ?_ (fun K hK => ?_); (focus (first | exact wanted_none rfl | (refine wanted_is rfl rfl rfl rfl ?_; with_reducible first | exact eq_tt | exact eq_ff))); (focus assumption))
  go_wp2_with fail
  refine (less_calls _ _ oA oB _).mono ?_
  rintro e v6 ⟨rfl, hbv6⟩
  have szv6 := hbv6.size
  try simp only [World.size_alloc, size_upd, World.size_drew] at szv6
  rw [HAB.out]
  have Cv6 := Cv5.on hbv6
  clear Cv5
  go_wp2_with fail
  refine hK _ _ Cv6 ?_
  clear hK K
  (repeat (first | (refine tq_skipq rfl ?_ ?_; (focus (refine wanted_is rfl rfl rfl rfl ?_; with_reducible first | exact ne_tf | exact ne_ft)); simp only [Act.put, List.setIfInBounds_toArray, List.set_cons_zero, List.set_cons_succ]) | (refine tq_pureq rfl rfl ?_ rfl (fun K hK => ?_); (focus (first | exact wanted_none rfl | (refine wanted_is rfl rfl rfl rfl ?_; with_reducible first | exact eq_tt | exact eq_ff))); go_big_quiet_op; refine hK _ ?_; clear hK K) | (refine tq_cloadx (t := 26) rfl rfl ?_ ?_ rfl rfl ?_; (focus (first | exact wanted_none rfl | (refine wanted_is rfl rfl rfl rfl ?_; with_reducible first | exact eq_tt | exact eq_ff))); (focus assumption); (first | refine ⟨_, fun w' hw' => ld_item_of hw'.p1, ?_⟩ | refine ⟨_, fun w' hw' => ld_item_of hw'.p2, ?_⟩ | refine ⟨_, fun w' hw' => ld_item_of hw'.p3, ?_⟩ | refine ⟨_, fun w' hw' => ld_item_of hw'.p4, ?_⟩ | refine ⟨_, fun w' hw' => ld_item_of hw'.p5, ?_⟩); simp only [Act.put, List.setIfInBounds_toArray, List.set_cons_zero, List.set_cons_succ]) | (refine tq_cloadx (t := 23) rfl rfl ?_ ?_ rfl rfl ?_; (focus (first | exact wanted_none rfl | (refine wanted_is rfl rfl rfl rfl ?_; with_reducible first | exact eq_tt | exact eq_ff))); (focus assumption); (first | refine ⟨_, fun w' hw' => ld_id_of hw'.p1, ?_⟩ | refine ⟨_, fun w' hw' => ld_id_of hw'.p2, ?_⟩ | refine ⟨_, fun w' hw' => ld_id_of hw'.p3, ?_⟩ | refine ⟨_, fun w' hw' => ld_id_of hw'.p4, ?_⟩ | refine ⟨_, fun w' hw' => ld_id_of hw'.p5, ?_⟩); simp only [Act.put, List.setIfInBounds_toArray, List.set_cons_zero, List.set_cons_succ]) | (refine tq_cloadx (t := 24) rfl rfl ?_ ?_ rfl rfl ?_; (focus (first | exact wanted_none rfl | (refine wanted_is rfl rfl rfl rfl ?_; with_reducible first | exact eq_tt | exact eq_ff))); (focus assumption); (first | refine ⟨_, fun w' hw' => ld_fee_of hw'.p1, ?_⟩ | refine ⟨_, fun w' hw' => ld_fee_of hw'.p2, ?_⟩ | refine ⟨_, fun w' hw' => ld_fee_of hw'.p3, ?_⟩ | refine ⟨_, fun w' hw' => ld_fee_of hw'.p4, ?_⟩ | refine ⟨_, fun w' hw' => ld_fee_of hw'.p5, ?_⟩); simp only [Act.put, List.setIfInBounds_toArray, List.set_cons_zero, List.set_cons_succ])))
  refine tq_nil ?_
  go_wp2_with fail
  go_ret
  exact ⟨rfl, by (repeat' (first | exact Below.refl _ _ | (with_reducible refine Below.alloc ?_ ?_ _) | (with_reducible refine Below.drew ?_) | (with_reducible refine below_upd ?_ ?_ _) | (with_reducible refine Below.setCell ?_ ?_ _) | (with_reducible refine Below.trans ?_ (Below.mono (by assumption) ?_)) | ((try simp only [World.size_alloc, size_upd, World.size_drew, World.size_setCell] at *); omega)))⟩

set_option maxHeartbeats 4000000 in
theorem walkNPT (a b : Item) (n : Int) (ka : a.ok) (kb : b.ok) (hn : -9223372036854775808 ≤ n) (hn' : n ≤ 9223372036854775807) (hxy : ¬ (a.fee % 1099511627776 * (b.bytes % 4000 + 1)) = (b.fee % 1099511627776 * (a.bytes % 4000 + 1))) (hf0 : ¬ a.fee % 1099511627776 = 0) (hab : worse (Item.mk a.id (a.fee % 1099511627776) (a.bytes % 4000 + 1)) (Item.mk b.id (b.fee % 1099511627776) (b.bytes % 4000 + 1)) = true) (w : World) :
    Calls Try.prog 3 #[.agg a.cells, .agg b.cells, .int .i64 n] w fun e w' => e = .returned (.bool true) ∧ Below w.heap.size w w' := by
  obtain ⟨gx, gx', hx, hx'⟩ := ka
  obtain ⟨gy, gy', hy, hy'⟩ := kb
  have m1 : 0 ≤ n % 1000 ∧ n % 1000 < 1000 := by omega
  have m2 : 0 ≤ a.bytes % 4000 ∧ a.bytes % 4000 < 4000 := by omega
  have m3 : 0 ≤ b.bytes % 4000 ∧ b.bytes % 4000 < 4000 := by omega
  have m4 : 0 ≤ a.fee % 1099511627776 ∧ a.fee % 1099511627776 < 1099511627776 := by omega
  have m5 : 0 ≤ b.fee % 1099511627776 ∧ b.fee % 1099511627776 < 1099511627776 := by omega
  have p1 := prod_le m4.1 (show 0 ≤ n % 1000 + 1 by omega) (show _ ≤ 1099511627776 by omega) (show _ ≤ 1000 by omega)
  have p2 := prod_le (show 0 ≤ a.bytes % 4000 + 1 by omega) (show 0 ≤ n % 1000 + 1 by omega) (show _ ≤ 4000 by omega) (show _ ≤ 1000 by omega)
  have p3 := prod_le m4.1 (show 0 ≤ b.bytes % 4000 + 1 by omega) (show _ ≤ 1099511627776 by omega) (show _ ≤ 4000 by omega)
  have p4 := prod_le m5.1 (show 0 ≤ a.bytes % 4000 + 1 by omega) (show _ ≤ 1099511627776 by omega) (show _ ≤ 4000 by omega)
  have oA : (Item.mk a.id (a.fee % 1099511627776) (a.bytes % 4000 + 1)).ok := ⟨m4.1, by show a.fee % 1099511627776 ≤ _; omega, by show _ ≤ a.bytes % 4000 + 1; omega, by show a.bytes % 4000 + 1 ≤ _; omega⟩
  have oB : (Item.mk b.id (b.fee % 1099511627776) (b.bytes % 4000 + 1)).ok := ⟨m5.1, by show b.fee % 1099511627776 ≤ _; omega, by show _ ≤ b.bytes % 4000 + 1; omega, by show b.bytes % 4000 + 1 ≤ _; omega⟩
  have oM : (Item.mk a.id (a.fee % 1099511627776 + (n % 1000 + 1)) (a.bytes % 4000 + 1)).ok := ⟨by show 0 ≤ a.fee % 1099511627776 + (n % 1000 + 1); omega, by show a.fee % 1099511627776 + (n % 1000 + 1) ≤ _; omega, by show _ ≤ a.bytes % 4000 + 1; omega, by show a.bytes % 4000 + 1 ≤ _; omega⟩
  have oL : (Item.mk a.id (a.fee % 1099511627776) (a.bytes % 4000 + 1 + (n % 1000 + 1))).ok := ⟨m4.1, by show a.fee % 1099511627776 ≤ _; omega, by show _ ≤ a.bytes % 4000 + 1 + (n % 1000 + 1); omega, by show a.bytes % 4000 + 1 + (n % 1000 + 1) ≤ _; omega⟩
  have oT : (Item.mk zeroHash (a.fee % 1099511627776 * (n % 1000 + 1)) ((a.bytes % 4000 + 1) * (n % 1000 + 1))).ok := ⟨p1.1, by have := p1.2; show a.fee % 1099511627776 * (n % 1000 + 1) ≤ _; omega, by have := p2.1; show _ ≤ (a.bytes % 4000 + 1) * (n % 1000 + 1); omega, by have := p2.2; show (a.bytes % 4000 + 1) * (n % 1000 + 1) ≤ _; omega⟩
  have e1 : IntKind.u64.wrap (a.fee % 1099511627776 * (n % 1000 + 1)) = a.fee % 1099511627776 * (n % 1000 + 1) := IntWalk.u64_in _ ⟨p1.1, by have := p1.2; omega⟩
  have e2 : wrap64 ((a.bytes % 4000 + 1) * (n % 1000 + 1)) = (a.bytes % 4000 + 1) * (n % 1000 + 1) := IntWalk.wrap64_in _ ⟨by have := p2.1; omega, by have := p2.2; omega⟩
  have e3 : IntKind.u64.wrap (a.fee % 1099511627776 * (b.bytes % 4000 + 1)) = (a.fee % 1099511627776 * (b.bytes % 4000 + 1)) := IntWalk.u64_in _ ⟨p3.1, by have := p3.2; omega⟩
  have e4 : IntKind.u64.wrap (b.fee % 1099511627776 * (a.bytes % 4000 + 1)) = (b.fee % 1099511627776 * (a.bytes % 4000 + 1)) := IntWalk.u64_in _ ⟨p4.1, by have := p4.2; omega⟩
  have H1 := Lib.hid (more_yes a n m2.1 m1.1)
  have H2 := Lib.hid (more_no a n m2.1 m1.1)
  have H3 := Lib.hid (longer_yes a n m2.1 m1.1)
  obtain ⟨β, hβ⟩ : ∃ β, decide (lcmp zeroHash.l a.id.l < 0) = β := ⟨_, rfl⟩
  have H4 := Lib.hid ((twice_same a n m2.1 m1.1).trans hβ)
  have H7 := Lib.hid hβ
  clear hβ
  have H5 := Lib.hid (worse_asymm (Item.mk a.id (a.fee % 1099511627776) (a.bytes % 4000 + 1)) (Item.mk b.id (b.fee % 1099511627776) (b.bytes % 4000 + 1)))
  have HN := Lib.hid (num_ab a b m3.1)
  have HN' := Lib.hid (num_ab b a m2.1)
  clear p1 p2 p3 p4
  have HAB := Lib.hid hab
  clear hab
  have HBA : Hid (worse (Item.mk b.id (b.fee % 1099511627776) (b.bytes % 4000 + 1)) (Item.mk a.id (a.fee % 1099511627776) (a.bytes % 4000 + 1)) = false) := Lib.hid (by have h := H5.out; rw [HAB.out, Bool.true_and] at h; exact h)
  have hfz : (a.fee % 1099511627776 == 0) = false := by rw [beq_eq_false_iff_ne]; exact hf0
  have hf1 : 0 < a.fee % 1099511627776 := by omega
  have HF := Lib.hid hf1
  clear hf0 hf1
  have hne : ((a.fee % 1099511627776 * (b.bytes % 4000 + 1)) != (b.fee % 1099511627776 * (a.bytes % 4000 + 1))) = true := by rw [bne_iff_ne]; exact hxy
  have heq : ((a.fee % 1099511627776 * (b.bytes % 4000 + 1)) == (b.fee % 1099511627776 * (a.bytes % 4000 + 1))) = false := by rw [beq_eq_false_iff_ne]; exact hxy
  have H6 := Lib.hid (worse_ne (x := (Item.mk a.id (a.fee % 1099511627776) (a.bytes % 4000 + 1))) (y := (Item.mk b.id (b.fee % 1099511627776) (b.bytes % 4000 + 1))) (by rw [num_ab a b m3.1, num_ab b a m2.1]; exact hxy))
  clear hxy
  go_enter Try.func3, Try.ntmps3
  go_wp2_with (first | (go_at_call 7; refine (first_calls _).mono ?_; rintro e w1 ⟨rfl, hb⟩; obtain ⟨hk, hc, hf, hz⟩ := bfacts hb; clear hc hf; try simp only [World.size_alloc, size_upd, World.size_drew] at hz) | (go_at_call 8; refine (number_calls _ _ (by omega) (by omega) (by omega) (by omega) _).mono ?_; rintro e w' ⟨rfl, rfl⟩))
  refine (less_calls _ _ oA oB _).mono ?_
  rintro e w2 ⟨rfl, hb2⟩
  have sz2 := hb2.size
  try simp only [World.size_alloc, size_upd, World.size_drew] at sz2
  rw [H6.out, HN.out, HN'.out]
  have C2 : CX w.heap.size w1.heap.size a b n w2 := CX.on ⟨by (go_simp <;> (repeat' split) <;> first | rfl | omega), by (go_simp <;> (repeat' split) <;> first | rfl | omega), by (go_simp <;> (repeat' split) <;> first | rfl | omega), by (go_simp <;> (repeat' split) <;> first | rfl | omega), by (go_simp <;> (repeat' split) <;> first | rfl | omega)⟩ hb2
  go_wp2_with fail
  have C2' : CX w.heap.size w1.heap.size a b n w2.drew := C2
  refine wp_region_tq (C := CX w.heap.size w1.heap.size a b n) (fun | 4 | 5 | 8 | 10 => .cread | 6 | 11 => .ceff | _ => .pure) [0, 1, 2, 3, 4, 5, 6, 7, 8, 9, 10, 11, 12, 13] [0, 0, 3, 7, 15, 15, 63, 15, 143, 15, 527, 2047, 4095, 8191] (by kernel_rfl) (by kernel_rfl) ?_
  (repeat (first | (refine tq_skipq rfl ?_ ?_; (focus (refine wanted_is rfl rfl rfl rfl ?_; with_reducible first | exact ne_tf | exact ne_ft)); simp only [Act.put, List.setIfInBounds_toArray, List.set_cons_zero, List.set_cons_succ]) | (refine tq_pureq rfl rfl ?_ rfl (fun K hK => ?_); (focus (first | exact wanted_none rfl | (refine wanted_is rfl rfl rfl rfl ?_; with_reducible first | exact eq_tt | exact eq_ff))); go_big_quiet_op; refine hK _ ?_; clear hK K)))
  refine tq_nil ?_
  go_wp2_with fail
  have Cz : CX w.heap.size w1.heap.size a b n w2.drew.drew := C2
  clear C2 C2'
  refine wp_region_tq (C := CX w.heap.size w1.heap.size a b n) (fun | 2 | 3 | 7 | 8 | 14 | 17 | 18 | 23 | 24 | 27 | 29 | 34 | 35 | 38 | 39 => .cread | 4 | 9 | 19 | 25 | 30 | 36 | 40 => .ceff | _ => .pure) [0, 1, 2, 3, 4, 5, 6, 7, 8, 9, 10, 11, 12, 13, 14, 15, 16, 17, 18, 19, 20, 21, 22, 23, 24, 25, 26, 27, 28, 29, 30, 31, 32, 33, 34, 35, 36, 37, 38, 39, 40, 41, 42, 43, 44] [0, 1, 3, 3, 15, 31, 63, 127, 127, 511, 1023, 2047, 4095, 8191, 16383, 32767, 65535, 131071, 131071, 524287, 1048575, 2097151, 4194303, 8388607, 8388607, 33554431, 8388607, 75497471, 8388607, 276824063, 1073741823, 2147483647, 4294967295, 8589934591, 17179869183, 17179869183, 68719476735, 137438953471, 274877906943, 274877906943, 1099511627775, 2199023255551, 4398046511103, 8796093022207, 17592186044415] (by kernel_rfl) (by kernel_rfl) ?_
  have Cv0 := Cz
  clear Cz
  (repeat (first | (refine tq_skipq rfl ?_ ?_; (focus (refine wanted_is rfl rfl rfl rfl ?_; with_reducible first | exact ne_tf | exact ne_ft)); simp only [Act.put, List.setIfInBounds_toArray, List.set_cons_zero, List.set_cons_succ]) | (refine tq_pureq rfl rfl ?_ rfl (fun K hK => ?_); (focus (first | exact wanted_none rfl | (refine wanted_is rfl rfl rfl rfl ?_; with_reducible first | exact eq_tt | exact eq_ff))); go_big_quiet_op; refine hK _ ?_; clear hK K) | (refine tq_cloadx (t := 26) rfl rfl ?_ ?_ rfl rfl ?_; (focus (first | exact wanted_none rfl | (refine wanted_is rfl rfl rfl rfl ?_; with_reducible first | exact eq_tt | exact eq_ff))); (focus assumption); (first | refine ⟨_, fun w' hw' => ld_item_of hw'.p1, ?_⟩ | refine ⟨_, fun w' hw' => ld_item_of hw'.p2, ?_⟩ | refine ⟨_, fun w' hw' => ld_item_of hw'.p3, ?_⟩ | refine ⟨_, fun w' hw' => ld_item_of hw'.p4, ?_⟩ | refine ⟨_, fun w' hw' => ld_item_of hw'.p5, ?_⟩); simp only [Act.put, List.setIfInBounds_toArray, List.set_cons_zero, List.set_cons_succ]) | (refine tq_cloadx (t := 23) rfl rfl ?_ ?_ rfl rfl ?_; (focus (first | exact wanted_none rfl | (refine wanted_is rfl rfl rfl rfl ?_; with_reducible first | exact eq_tt | exact eq_ff))); (focus assumption); (first | refine ⟨_, fun w' hw' => ld_id_of hw'.p1, ?_⟩ | refine ⟨_, fun w' hw' => ld_id_of hw'.p2, ?_⟩ | refine ⟨_, fun w' hw' => ld_id_of hw'.p3, ?_⟩ | refine ⟨_, fun w' hw' => ld_id_of hw'.p4, ?_⟩ | refine ⟨_, fun w' hw' => ld_id_of hw'.p5, ?_⟩); simp only [Act.put, List.setIfInBounds_toArray, List.set_cons_zero, List.set_cons_succ]) | (refine tq_cloadx (t := 24) rfl rfl ?_ ?_ rfl rfl ?_; (focus (first | exact wanted_none rfl | (refine wanted_is rfl rfl rfl rfl ?_; with_reducible first | exact eq_tt | exact eq_ff))); (focus assumption); (first | refine ⟨_, fun w' hw' => ld_fee_of hw'.p1, ?_⟩ | refine ⟨_, fun w' hw' => ld_fee_of hw'.p2, ?_⟩ | refine ⟨_, fun w' hw' => ld_fee_of hw'.p3, ?_⟩ | refine ⟨_, fun w' hw' => ld_fee_of hw'.p4, ?_⟩ | refine ⟨_, fun w' hw' => ld_fee_of hw'.p5, ?_⟩); simp only [Act.put, List.setIfInBounds_toArray, List.set_cons_zero, List.set_cons_succ])))
  (refine tq_ceffq rfl rfl ?_ ?_ (fun K hK => ?_); (focus (first | exact wanted_none rfl | (refine wanted_is rfl rfl rfl rfl ?_; with_reducible first | exact eq_tt | exact eq_ff))); (focus assumption))
  go_wp2_with fail
  refine (less_calls _ _ oA oM _).mono ?_
  rintro e v1 ⟨rfl, hbv1⟩
  have szv1 := hbv1.size
  try simp only [World.size_alloc, size_upd, World.size_drew] at szv1
  rw [H1.out]
  have Cv1 := Cv0.on hbv1
  clear Cv0
  go_wp2_with fail
  refine hK _ _ Cv1 ?_
  clear hK K
  (repeat (first | (refine tq_skipq rfl ?_ ?_; (focus (refine wanted_is rfl rfl rfl rfl ?_; with_reducible first | exact ne_tf | exact ne_ft)); simp only [Act.put, List.setIfInBounds_toArray, List.set_cons_zero, List.set_cons_succ]) | (refine tq_pureq rfl rfl ?_ rfl (fun K hK => ?_); (focus (first | exact wanted_none rfl | (refine wanted_is rfl rfl rfl rfl ?_; with_reducible first | exact eq_tt | exact eq_ff))); go_big_quiet_op; refine hK _ ?_; clear hK K) | (refine tq_cloadx (t := 26) rfl rfl ?_ ?_ rfl rfl ?_; (focus (first | exact wanted_none rfl | (refine wanted_is rfl rfl rfl rfl ?_; with_reducible first | exact eq_tt | exact eq_ff))); (focus assumption); (first | refine ⟨_, fun w' hw' => ld_item_of hw'.p1, ?_⟩ | refine ⟨_, fun w' hw' => ld_item_of hw'.p2, ?_⟩ | refine ⟨_, fun w' hw' => ld_item_of hw'.p3, ?_⟩ | refine ⟨_, fun w' hw' => ld_item_of hw'.p4, ?_⟩ | refine ⟨_, fun w' hw' => ld_item_of hw'.p5, ?_⟩); simp only [Act.put, List.setIfInBounds_toArray, List.set_cons_zero, List.set_cons_succ]) | (refine tq_cloadx (t := 23) rfl rfl ?_ ?_ rfl rfl ?_; (focus (first | exact wanted_none rfl | (refine wanted_is rfl rfl rfl rfl ?_; with_reducible first | exact eq_tt | exact eq_ff))); (focus assumption); (first | refine ⟨_, fun w' hw' => ld_id_of hw'.p1, ?_⟩ | refine ⟨_, fun w' hw' => ld_id_of hw'.p2, ?_⟩ | refine ⟨_, fun w' hw' => ld_id_of hw'.p3, ?_⟩ | refine ⟨_, fun w' hw' => ld_id_of hw'.p4, ?_⟩ | refine ⟨_, fun w' hw' => ld_id_of hw'.p5, ?_⟩); simp only [Act.put, List.setIfInBounds_toArray, List.set_cons_zero, List.set_cons_succ]) | (refine tq_cloadx (t := 24) rfl rfl ?_ ?_ rfl rfl ?_; (focus (first | exact wanted_none rfl | (refine wanted_is rfl rfl rfl rfl ?_; with_reducible first | exact eq_tt | exact eq_ff))); (focus assumption); (first | refine ⟨_, fun w' hw' => ld_fee_of hw'.p1, ?_⟩ | refine ⟨_, fun w' hw' => ld_fee_of hw'.p2, ?_⟩ | refine ⟨_, fun w' hw' => ld_fee_of hw'.p3, ?_⟩ | refine ⟨_, fun w' hw' => ld_fee_of hw'.p4, ?_⟩ | refine ⟨_, fun w' hw' => ld_fee_of hw'.p5, ?_⟩); simp only [Act.put, List.setIfInBounds_toArray, List.set_cons_zero, List.set_cons_succ])))
  (refine tq_ceffq rfl rfl ?_ ?_ (fun K hK => ?_); (focus (first | exact wanted_none rfl | (refine wanted_is rfl rfl rfl rfl ?_; with_reducible first | exact eq_tt | exact eq_ff))); (focus assumption))
  go_wp2_with fail
  refine (less_calls _ _ oM oA _).mono ?_
  rintro e v2 ⟨rfl, hbv2⟩
  have szv2 := hbv2.size
  try simp only [World.size_alloc, size_upd, World.size_drew] at szv2
  rw [H2.out]
  have Cv2 := Cv1.on hbv2
  clear Cv1
  go_wp2_with fail
  refine hK _ _ Cv2 ?_
  clear hK K
  (repeat (first | (refine tq_skipq rfl ?_ ?_; (focus (refine wanted_is rfl rfl rfl rfl ?_; with_reducible first | exact ne_tf | exact ne_ft)); simp only [Act.put, List.setIfInBounds_toArray, List.set_cons_zero, List.set_cons_succ]) | (refine tq_pureq rfl rfl ?_ rfl (fun K hK => ?_); (focus (first | exact wanted_none rfl | (refine wanted_is rfl rfl rfl rfl ?_; with_reducible first | exact eq_tt | exact eq_ff))); go_big_quiet_op; refine hK _ ?_; clear hK K) | (refine tq_cloadx (t := 26) rfl rfl ?_ ?_ rfl rfl ?_; (focus (first | exact wanted_none rfl | (refine wanted_is rfl rfl rfl rfl ?_; with_reducible first | exact eq_tt | exact eq_ff))); (focus assumption); (first | refine ⟨_, fun w' hw' => ld_item_of hw'.p1, ?_⟩ | refine ⟨_, fun w' hw' => ld_item_of hw'.p2, ?_⟩ | refine ⟨_, fun w' hw' => ld_item_of hw'.p3, ?_⟩ | refine ⟨_, fun w' hw' => ld_item_of hw'.p4, ?_⟩ | refine ⟨_, fun w' hw' => ld_item_of hw'.p5, ?_⟩); simp only [Act.put, List.setIfInBounds_toArray, List.set_cons_zero, List.set_cons_succ]) | (refine tq_cloadx (t := 23) rfl rfl ?_ ?_ rfl rfl ?_; (focus (first | exact wanted_none rfl | (refine wanted_is rfl rfl rfl rfl ?_; with_reducible first | exact eq_tt | exact eq_ff))); (focus assumption); (first | refine ⟨_, fun w' hw' => ld_id_of hw'.p1, ?_⟩ | refine ⟨_, fun w' hw' => ld_id_of hw'.p2, ?_⟩ | refine ⟨_, fun w' hw' => ld_id_of hw'.p3, ?_⟩ | refine ⟨_, fun w' hw' => ld_id_of hw'.p4, ?_⟩ | refine ⟨_, fun w' hw' => ld_id_of hw'.p5, ?_⟩); simp only [Act.put, List.setIfInBounds_toArray, List.set_cons_zero, List.set_cons_succ]) | (refine tq_cloadx (t := 24) rfl rfl ?_ ?_ rfl rfl ?_; (focus (first | exact wanted_none rfl | (refine wanted_is rfl rfl rfl rfl ?_; with_reducible first | exact eq_tt | exact eq_ff))); (focus assumption); (first | refine ⟨_, fun w' hw' => ld_fee_of hw'.p1, ?_⟩ | refine ⟨_, fun w' hw' => ld_fee_of hw'.p2, ?_⟩ | refine ⟨_, fun w' hw' => ld_fee_of hw'.p3, ?_⟩ | refine ⟨_, fun w' hw' => ld_fee_of hw'.p4, ?_⟩ | refine ⟨_, fun w' hw' => ld_fee_of hw'.p5, ?_⟩); simp only [Act.put, List.setIfInBounds_toArray, List.set_cons_zero, List.set_cons_succ])))
  (refine tq_ceffq rfl rfl ?_ ?_ (fun K hK => ?_); (focus (first | exact wanted_none rfl | (refine wanted_is rfl rfl rfl rfl ?_; with_reducible first | exact eq_tt | exact eq_ff))); (focus assumption))
  go_wp2_with fail
  refine (less_calls _ _ oL oA _).mono ?_
  rintro e v3 ⟨rfl, hbv3⟩
  have szv3 := hbv3.size
  try simp only [World.size_alloc, size_upd, World.size_drew] at szv3
  rw [H3.out HF.out]
  have Cv3 := Cv2.on hbv3
  clear Cv2
  go_wp2_with fail
  refine hK _ _ Cv3 ?_
  clear hK K
  (repeat (first | (refine tq_skipq rfl ?_ ?_; (focus (refine wanted_is rfl rfl rfl rfl ?_; with_reducible first | exact ne_tf | exact ne_ft)); simp only [Act.put, List.setIfInBounds_toArray, List.set_cons_zero, List.set_cons_succ]) | (refine tq_pureq rfl rfl ?_ rfl (fun K hK => ?_); (focus (first | exact wanted_none rfl | (refine wanted_is rfl rfl rfl rfl ?_; with_reducible first | exact eq_tt | exact eq_ff))); go_big_quiet_op; refine hK _ ?_; clear hK K) | (refine tq_cloadx (t := 26) rfl rfl ?_ ?_ rfl rfl ?_; (focus (first | exact wanted_none rfl | (refine wanted_is rfl rfl rfl rfl ?_; with_reducible first | exact eq_tt | exact eq_ff))); (focus assumption); (first | refine ⟨_, fun w' hw' => ld_item_of hw'.p1, ?_⟩ | refine ⟨_, fun w' hw' => ld_item_of hw'.p2, ?_⟩ | refine ⟨_, fun w' hw' => ld_item_of hw'.p3, ?_⟩ | refine ⟨_, fun w' hw' => ld_item_of hw'.p4, ?_⟩ | refine ⟨_, fun w' hw' => ld_item_of hw'.p5, ?_⟩); simp only [Act.put, List.setIfInBounds_toArray, List.set_cons_zero, List.set_cons_succ]) | (refine tq_cloadx (t := 23) rfl rfl ?_ ?_ rfl rfl ?_; (focus (first | exact wanted_none rfl | (refine wanted_is rfl rfl rfl rfl ?_; with_reducible first | exact eq_tt | exact eq_ff))); (focus assumption); (first | refine ⟨_, fun w' hw' => ld_id_of hw'.p1, ?_⟩ | refine ⟨_, fun w' hw' => ld_id_of hw'.p2, ?_⟩ | refine ⟨_, fun w' hw' => ld_id_of hw'.p3, ?_⟩ | refine ⟨_, fun w' hw' => ld_id_of hw'.p4, ?_⟩ | refine ⟨_, fun w' hw' => ld_id_of hw'.p5, ?_⟩); simp only [Act.put, List.setIfInBounds_toArray, List.set_cons_zero, List.set_cons_succ]) | (refine tq_cloadx (t := 24) rfl rfl ?_ ?_ rfl rfl ?_; (focus (first | exact wanted_none rfl | (refine wanted_is rfl rfl rfl rfl ?_; with_reducible first | exact eq_tt | exact eq_ff))); (focus assumption); (first | refine ⟨_, fun w' hw' => ld_fee_of hw'.p1, ?_⟩ | refine ⟨_, fun w' hw' => ld_fee_of hw'.p2, ?_⟩ | refine ⟨_, fun w' hw' => ld_fee_of hw'.p3, ?_⟩ | refine ⟨_, fun w' hw' => ld_fee_of hw'.p4, ?_⟩ | refine ⟨_, fun w' hw' => ld_fee_of hw'.p5, ?_⟩); simp only [Act.put, List.setIfInBounds_toArray, List.set_cons_zero, List.set_cons_succ])))
  (refine tq_ceffq rfl rfl ?_ ?_ (fun K hK => ?_); (focus (first | exact wanted_none rfl | (refine wanted_is rfl rfl rfl rfl ?_; with_reducible first | exact eq_tt | exact eq_ff))); (focus assumption))
  go_wp2_with fail
  refine (less_calls _ _ oA oT _).mono ?_
  rintro e v4 ⟨rfl, hbv4⟩
  have szv4 := hbv4.size
  try simp only [World.size_alloc, size_upd, World.size_drew] at szv4
  rw [H4.out]
  have Cv4 := Cv3.on hbv4
  clear Cv3
  go_wp2_with fail
  refine hK _ _ Cv4 ?_
  clear hK K
  (repeat (first | (refine tq_skipq rfl ?_ ?_; (focus (refine wanted_is rfl rfl rfl rfl ?_; with_reducible first | exact ne_tf | exact ne_ft)); simp only [Act.put, List.setIfInBounds_toArray, List.set_cons_zero, List.set_cons_succ]) | (refine tq_pureq rfl rfl ?_ rfl (fun K hK => ?_); (focus (first | exact wanted_none rfl | (refine wanted_is rfl rfl rfl rfl ?_; with_reducible first | exact eq_tt | exact eq_ff))); go_big_quiet_op; refine hK _ ?_; clear hK K) | (refine tq_cloadx (t := 26) rfl rfl ?_ ?_ rfl rfl ?_; (focus (first | exact wanted_none rfl | (refine wanted_is rfl rfl rfl rfl ?_; with_reducible first | exact eq_tt | exact eq_ff))); (focus assumption); (first | refine ⟨_, fun w' hw' => ld_item_of hw'.p1, ?_⟩ | refine ⟨_, fun w' hw' => ld_item_of hw'.p2, ?_⟩ | refine ⟨_, fun w' hw' => ld_item_of hw'.p3, ?_⟩ | refine ⟨_, fun w' hw' => ld_item_of hw'.p4, ?_⟩ | refine ⟨_, fun w' hw' => ld_item_of hw'.p5, ?_⟩); simp only [Act.put, List.setIfInBounds_toArray, List.set_cons_zero, List.set_cons_succ]) | (refine tq_cloadx (t := 23) rfl rfl ?_ ?_ rfl rfl ?_; (focus (first | exact wanted_none rfl | (refine wanted_is rfl rfl rfl rfl ?_; with_reducible first | exact eq_tt | exact eq_ff))); (focus assumption); (first | refine ⟨_, fun w' hw' => ld_id_of hw'.p1, ?_⟩ | refine ⟨_, fun w' hw' => ld_id_of hw'.p2, ?_⟩ | refine ⟨_, fun w' hw' => ld_id_of hw'.p3, ?_⟩ | refine ⟨_, fun w' hw' => ld_id_of hw'.p4, ?_⟩ | refine ⟨_, fun w' hw' => ld_id_of hw'.p5, ?_⟩); simp only [Act.put, List.setIfInBounds_toArray, List.set_cons_zero, List.set_cons_succ]) | (refine tq_cloadx (t := 24) rfl rfl ?_ ?_ rfl rfl ?_; (focus (first | exact wanted_none rfl | (refine wanted_is rfl rfl rfl rfl ?_; with_reducible first | exact eq_tt | exact eq_ff))); (focus assumption); (first | refine ⟨_, fun w' hw' => ld_fee_of hw'.p1, ?_⟩ | refine ⟨_, fun w' hw' => ld_fee_of hw'.p2, ?_⟩ | refine ⟨_, fun w' hw' => ld_fee_of hw'.p3, ?_⟩ | refine ⟨_, fun w' hw' => ld_fee_of hw'.p4, ?_⟩ | refine ⟨_, fun w' hw' => ld_fee_of hw'.p5, ?_⟩); simp only [Act.put, List.setIfInBounds_toArray, List.set_cons_zero, List.set_cons_succ])))
  (refine tq_ceffq rfl rfl ?_ ?_ (fun K hK => ?_); (focus (first | exact wanted_none rfl | (refine wanted_is rfl rfl rfl rfl ?_; with_reducible first | exact eq_tt | exact eq_ff))); (focus assumption))
  go_wp2_with fail
  refine (lessHash_calls _ _ _).mono ?_
  rintro e v5 ⟨rfl, hbv5⟩
  have szv5 := hbv5.size
  try simp only [World.size_alloc, size_upd, World.size_drew] at szv5
  rw [H7.out]
  have Cv5 := Cv4.on hbv5
  clear Cv4
  go_wp2_with fail
  refine hK _ _ Cv5 ?_
  clear hK K
  (repeat (first | (refine tq_skipq rfl ?_ ?_; (focus (refine wanted_is rfl rfl rfl rfl ?_; with_reducible first | exact ne_tf | exact ne_ft)); simp only [Act.put, List.setIfInBounds_toArray, List.set_cons_zero, List.set_cons_succ]) | (refine tq_pureq rfl rfl ?_ rfl (fun K hK => ?_); (focus (first | exact wanted_none rfl | (refine wanted_is rfl rfl rfl rfl ?_; with_reducible first | exact eq_tt | exact eq_ff))); go_big_quiet_op; refine hK _ ?_; clear hK K) | (refine tq_cloadx (t := 26) rfl rfl ?_ ?_ rfl rfl ?_; (focus (first | exact wanted_none rfl | (refine wanted_is rfl rfl rfl rfl ?_; with_reducible first | exact eq_tt | exact eq_ff))); (focus assumption); (first | refine ⟨_, fun w' hw' => ld_item_of hw'.p1, ?_⟩ | refine ⟨_, fun w' hw' => ld_item_of hw'.p2, ?_⟩ | refine ⟨_, fun w' hw' => ld_item_of hw'.p3, ?_⟩ | refine ⟨_, fun w' hw' => ld_item_of hw'.p4, ?_⟩ | refine ⟨_, fun w' hw' => ld_item_of hw'.p5, ?_⟩); simp only [Act.put, List.setIfInBounds_toArray, List.set_cons_zero, List.set_cons_succ]) | (refine tq_cloadx (t := 23) rfl rfl ?_ ?_ rfl rfl ?_; (focus (first | exact wanted_none rfl | (refine wanted_is rfl rfl rfl rfl ?_; with_reducible first | exact eq_tt | exact eq_ff))); (focus assumption); (first | refine ⟨_, fun w' hw' => ld_id_of hw'.p1, ?_⟩ | refine ⟨_, fun w' hw' => ld_id_of hw'.p2, ?_⟩ | refine ⟨_, fun w' hw' => ld_id_of hw'.p3, ?_⟩ | refine ⟨_, fun w' hw' => ld_id_of hw'.p4, ?_⟩ | refine ⟨_, fun w' hw' => ld_id_of hw'.p5, ?_⟩); simp only [Act.put, List.setIfInBounds_toArray, List.set_cons_zero, List.set_cons_succ]) | (refine tq_cloadx (t := 24) rfl rfl ?_ ?_ rfl rfl ?_; (focus (first | exact wanted_none rfl | (refine wanted_is rfl rfl rfl rfl ?_; with_reducible first | exact eq_tt | exact eq_ff))); (focus assumption); (first | refine ⟨_, fun w' hw' => ld_fee_of hw'.p1, ?_⟩ | refine ⟨_, fun w' hw' => ld_fee_of hw'.p2, ?_⟩ | refine ⟨_, fun w' hw' => ld_fee_of hw'.p3, ?_⟩ | refine ⟨_, fun w' hw' => ld_fee_of hw'.p4, ?_⟩ | refine ⟨_, fun w' hw' => ld_fee_of hw'.p5, ?_⟩); simp only [Act.put, List.setIfInBounds_toArray, List.set_cons_zero, List.set_cons_succ])))
  (refine tq_ceffq rfl rfl ?_ ?_ (fun K hK => ?_); (focus (first | exact wanted_none rfl | (refine wanted_is rfl rfl rfl rfl ?_; with_reducible first | exact eq_tt | exact eq_ff))); (focus assumption))
  go_wp2_with fail
  refine (less_calls _ _ oA oB _).mono ?_
  rintro e v6 ⟨rfl, hbv6⟩
  have szv6 := hbv6.size
  try simp only [World.size_alloc, size_upd, World.size_drew] at szv6
  rw [HAB.out]
  have Cv6 := Cv5.on hbv6
  clear Cv5
  go_wp2_with fail
  refine hK _ _ Cv6 ?_
  clear hK K
  (repeat (first | (refine tq_skipq rfl ?_ ?_; (focus (refine wanted_is rfl rfl rfl rfl ?_; with_reducible first | exact ne_tf | exact ne_ft)); simp only [Act.put, List.setIfInBounds_toArray, List.set_cons_zero, List.set_cons_succ]) | (refine tq_pureq rfl rfl ?_ rfl (fun K hK => ?_); (focus (first | exact wanted_none rfl | (refine wanted_is rfl rfl rfl rfl ?_; with_reducible first | exact eq_tt | exact eq_ff))); go_big_quiet_op; refine hK _ ?_; clear hK K) | (refine tq_cloadx (t := 26) rfl rfl ?_ ?_ rfl rfl ?_; (focus (first | exact wanted_none rfl | (refine wanted_is rfl rfl rfl rfl ?_; with_reducible first | exact eq_tt | exact eq_ff))); (focus assumption); (first | refine ⟨_, fun w' hw' => ld_item_of hw'.p1, ?_⟩ | refine ⟨_, fun w' hw' => ld_item_of hw'.p2, ?_⟩ | refine ⟨_, fun w' hw' => ld_item_of hw'.p3, ?_⟩ | refine ⟨_, fun w' hw' => ld_item_of hw'.p4, ?_⟩ | refine ⟨_, fun w' hw' => ld_item_of hw'.p5, ?_⟩); simp only [Act.put, List.setIfInBounds_toArray, List.set_cons_zero, List.set_cons_succ]) | (refine tq_cloadx (t := 23) rfl rfl ?_ ?_ rfl rfl ?_; (focus (first | exact wanted_none rfl | (refine wanted_is rfl rfl rfl rfl ?_; with_reducible first | exact eq_tt | exact eq_ff))); (focus assumption); (first | refine ⟨_, fun w' hw' => ld_id_of hw'.p1, ?_⟩ | refine ⟨_, fun w' hw' => ld_id_of hw'.p2, ?_⟩ | refine ⟨_, fun w' hw' => ld_id_of hw'.p3, ?_⟩ | refine ⟨_, fun w' hw' => ld_id_of hw'.p4, ?_⟩ | refine ⟨_, fun w' hw' => ld_id_of hw'.p5, ?_⟩); simp only [Act.put, List.setIfInBounds_toArray, List.set_cons_zero, List.set_cons_succ]) | (refine tq_cloadx (t := 24) rfl rfl ?_ ?_ rfl rfl ?_; (focus (first | exact wanted_none rfl | (refine wanted_is rfl rfl rfl rfl ?_; with_reducible first | exact eq_tt | exact eq_ff))); (focus assumption); (first | refine ⟨_, fun w' hw' => ld_fee_of hw'.p1, ?_⟩ | refine ⟨_, fun w' hw' => ld_fee_of hw'.p2, ?_⟩ | refine ⟨_, fun w' hw' => ld_fee_of hw'.p3, ?_⟩ | refine ⟨_, fun w' hw' => ld_fee_of hw'.p4, ?_⟩ | refine ⟨_, fun w' hw' => ld_fee_of hw'.p5, ?_⟩); simp only [Act.put, List.setIfInBounds_toArray, List.set_cons_zero, List.set_cons_succ])))
  (refine tq_ceffq rfl rfl ?_ ?_ (fun K hK => ?_); (focus (first | exact wanted_none rfl | (refine wanted_is rfl rfl rfl rfl ?_; with_reducible first | exact eq_tt | exact eq_ff))); (focus assumption))
  go_wp2_with fail
  refine (less_calls _ _ oB oA _).mono ?_
  rintro e v7 ⟨rfl, hbv7⟩
  have szv7 := hbv7.size
  try simp only [World.size_alloc, size_upd, World.size_drew] at szv7
  rw [HBA.out]
  have Cv7 := Cv6.on hbv7
  clear Cv6
  go_wp2_with fail
  refine hK _ _ Cv7 ?_
  clear hK K
  (repeat (first | (refine tq_skipq rfl ?_ ?_; (focus (refine wanted_is rfl rfl rfl rfl ?_; with_reducible first | exact ne_tf | exact ne_ft)); simp only [Act.put, List.setIfInBounds_toArray, List.set_cons_zero, List.set_cons_succ]) | (refine tq_pureq rfl rfl ?_ rfl (fun K hK => ?_); (focus (first | exact wanted_none rfl | (refine wanted_is rfl rfl rfl rfl ?_; with_reducible first | exact eq_tt | exact eq_ff))); go_big_quiet_op; refine hK _ ?_; clear hK K) | (refine tq_cloadx (t := 26) rfl rfl ?_ ?_ rfl rfl ?_; (focus (first | exact wanted_none rfl | (refine wanted_is rfl rfl rfl rfl ?_; with_reducible first | exact eq_tt | exact eq_ff))); (focus assumption); (first | refine ⟨_, fun w' hw' => ld_item_of hw'.p1, ?_⟩ | refine ⟨_, fun w' hw' => ld_item_of hw'.p2, ?_⟩ | refine ⟨_, fun w' hw' => ld_item_of hw'.p3, ?_⟩ | refine ⟨_, fun w' hw' => ld_item_of hw'.p4, ?_⟩ | refine ⟨_, fun w' hw' => ld_item_of hw'.p5, ?_⟩); simp only [Act.put, List.setIfInBounds_toArray, List.set_cons_zero, List.set_cons_succ]) | (refine tq_cloadx (t := 23) rfl rfl ?_ ?_ rfl rfl ?_; (focus (first | exact wanted_none rfl | (refine wanted_is rfl rfl rfl rfl ?_; with_reducible first | exact eq_tt | exact eq_ff))); (focus assumption); (first | refine ⟨_, fun w' hw' => ld_id_of hw'.p1, ?_⟩ | refine ⟨_, fun w' hw' => ld_id_of hw'.p2, ?_⟩ | refine ⟨_, fun w' hw' => ld_id_of hw'.p3, ?_⟩ | refine ⟨_, fun w' hw' => ld_id_of hw'.p4, ?_⟩ | refine ⟨_, fun w' hw' => ld_id_of hw'.p5, ?_⟩); simp only [Act.put, List.setIfInBounds_toArray, List.set_cons_zero, List.set_cons_succ]) | (refine tq_cloadx (t := 24) rfl rfl ?_ ?_ rfl rfl ?_; (focus (first | exact wanted_none rfl | (refine wanted_is rfl rfl rfl rfl ?_; with_reducible first | exact eq_tt | exact eq_ff))); (focus assumption); (first | refine ⟨_, fun w' hw' => ld_fee_of hw'.p1, ?_⟩ | refine ⟨_, fun w' hw' => ld_fee_of hw'.p2, ?_⟩ | refine ⟨_, fun w' hw' => ld_fee_of hw'.p3, ?_⟩ | refine ⟨_, fun w' hw' => ld_fee_of hw'.p4, ?_⟩ | refine ⟨_, fun w' hw' => ld_fee_of hw'.p5, ?_⟩); simp only [Act.put, List.setIfInBounds_toArray, List.set_cons_zero, List.set_cons_succ])))
  refine tq_nil ?_
  go_wp2_with fail
  go_ret
  exact ⟨rfl, by (repeat' (first | exact Below.refl _ _ | (with_reducible refine Below.alloc ?_ ?_ _) | (with_reducible refine Below.drew ?_) | (with_reducible refine below_upd ?_ ?_ _) | (with_reducible refine Below.setCell ?_ ?_ _) | (with_reducible refine Below.trans ?_ (Below.mono (by assumption) ?_)) | ((try simp only [World.size_alloc, size_upd, World.size_drew, World.size_setCell] at *); omega)))⟩

set_option maxHeartbeats 4000000 in
theorem walkNPF (a b : Item) (n : Int) (ka : a.ok) (kb : b.ok) (hn : -9223372036854775808 ≤ n) (hn' : n ≤ 9223372036854775807) (hxy : ¬ (a.fee % 1099511627776 * (b.bytes % 4000 + 1)) = (b.fee % 1099511627776 * (a.bytes % 4000 + 1))) (hf0 : ¬ a.fee % 1099511627776 = 0) (hab : worse (Item.mk a.id (a.fee % 1099511627776) (a.bytes % 4000 + 1)) (Item.mk b.id (b.fee % 1099511627776) (b.bytes % 4000 + 1)) = false) (w : World) :
    Calls Try.prog 3 #[.agg a.cells, .agg b.cells, .int .i64 n] w fun e w' => e = .returned (.bool true) ∧ Below w.heap.size w w' := by
  obtain ⟨gx, gx', hx, hx'⟩ := ka
  obtain ⟨gy, gy', hy, hy'⟩ := kb
  have m1 : 0 ≤ n % 1000 ∧ n % 1000 < 1000 := by omega
  have m2 : 0 ≤ a.bytes % 4000 ∧ a.bytes % 4000 < 4000 := by omega
  have m3 : 0 ≤ b.bytes % 4000 ∧ b.bytes % 4000 < 4000 := by omega
  have m4 : 0 ≤ a.fee % 1099511627776 ∧ a.fee % 1099511627776 < 1099511627776 := by omega
  have m5 : 0 ≤ b.fee % 1099511627776 ∧ b.fee % 1099511627776 < 1099511627776 := by omega
  have p1 := prod_le m4.1 (show 0 ≤ n % 1000 + 1 by omega) (show _ ≤ 1099511627776 by omega) (show _ ≤ 1000 by omega)
  have p2 := prod_le (show 0 ≤ a.bytes % 4000 + 1 by omega) (show 0 ≤ n % 1000 + 1 by omega) (show _ ≤ 4000 by omega) (show _ ≤ 1000 by omega)
  have p3 := prod_le m4.1 (show 0 ≤ b.bytes % 4000 + 1 by omega) (show _ ≤ 1099511627776 by omega) (show _ ≤ 4000 by omega)
  have p4 := prod_le m5.1 (show 0 ≤ a.bytes % 4000 + 1 by omega) (show _ ≤ 1099511627776 by omega) (show _ ≤ 4000 by omega)
  have oA : (Item.mk a.id (a.fee % 1099511627776) (a.bytes % 4000 + 1)).ok := ⟨m4.1, by show a.fee % 1099511627776 ≤ _; omega, by show _ ≤ a.bytes % 4000 + 1; omega, by show a.bytes % 4000 + 1 ≤ _; omega⟩
  have oB : (Item.mk b.id (b.fee % 1099511627776) (b.bytes % 4000 + 1)).ok := ⟨m5.1, by show b.fee % 1099511627776 ≤ _; omega, by show _ ≤ b.bytes % 4000 + 1; omega, by show b.bytes % 4000 + 1 ≤ _; omega⟩
  have oM : (Item.mk a.id (a.fee % 1099511627776 + (n % 1000 + 1)) (a.bytes % 4000 + 1)).ok := ⟨by show 0 ≤ a.fee % 1099511627776 + (n % 1000 + 1); omega, by show a.fee % 1099511627776 + (n % 1000 + 1) ≤ _; omega, by show _ ≤ a.bytes % 4000 + 1; omega, by show a.bytes % 4000 + 1 ≤ _; omega⟩
  have oL : (Item.mk a.id (a.fee % 1099511627776) (a.bytes % 4000 + 1 + (n % 1000 + 1))).ok := ⟨m4.1, by show a.fee % 1099511627776 ≤ _; omega, by show _ ≤ a.bytes % 4000 + 1 + (n % 1000 + 1); omega, by show a.bytes % 4000 + 1 + (n % 1000 + 1) ≤ _; omega⟩
  have oT : (Item.mk zeroHash (a.fee % 1099511627776 * (n % 1000 + 1)) ((a.bytes % 4000 + 1) * (n % 1000 + 1))).ok := ⟨p1.1, by have := p1.2; show a.fee % 1099511627776 * (n % 1000 + 1) ≤ _; omega, by have := p2.1; show _ ≤ (a.bytes % 4000 + 1) * (n % 1000 + 1); omega, by have := p2.2; show (a.bytes % 4000 + 1) * (n % 1000 + 1) ≤ _; omega⟩
  have e1 : IntKind.u64.wrap (a.fee % 1099511627776 * (n % 1000 + 1)) = a.fee % 1099511627776 * (n % 1000 + 1) := IntWalk.u64_in _ ⟨p1.1, by have := p1.2; omega⟩
  have e2 : wrap64 ((a.bytes % 4000 + 1) * (n % 1000 + 1)) = (a.bytes % 4000 + 1) * (n % 1000 + 1) := IntWalk.wrap64_in _ ⟨by have := p2.1; omega, by have := p2.2; omega⟩
  have e3 : IntKind.u64.wrap (a.fee % 1099511627776 * (b.bytes % 4000 + 1)) = (a.fee % 1099511627776 * (b.bytes % 4000 + 1)) := IntWalk.u64_in _ ⟨p3.1, by have := p3.2; omega⟩
  have e4 : IntKind.u64.wrap (b.fee % 1099511627776 * (a.bytes % 4000 + 1)) = (b.fee % 1099511627776 * (a.bytes % 4000 + 1)) := IntWalk.u64_in _ ⟨p4.1, by have := p4.2; omega⟩
  have H1 := Lib.hid (more_yes a n m2.1 m1.1)
  have H2 := Lib.hid (more_no a n m2.1 m1.1)
  have H3 := Lib.hid (longer_yes a n m2.1 m1.1)
  obtain ⟨β, hβ⟩ : ∃ β, decide (lcmp zeroHash.l a.id.l < 0) = β := ⟨_, rfl⟩
  have H4 := Lib.hid ((twice_same a n m2.1 m1.1).trans hβ)
  have H7 := Lib.hid hβ
  clear hβ
  have H5 := Lib.hid (worse_asymm (Item.mk a.id (a.fee % 1099511627776) (a.bytes % 4000 + 1)) (Item.mk b.id (b.fee % 1099511627776) (b.bytes % 4000 + 1)))
  have HN := Lib.hid (num_ab a b m3.1)
  have HN' := Lib.hid (num_ab b a m2.1)
  clear p1 p2 p3 p4
  have HAB := Lib.hid hab
  clear hab
  have hfz : (a.fee % 1099511627776 == 0) = false := by rw [beq_eq_false_iff_ne]; exact hf0
  have hf1 : 0 < a.fee % 1099511627776 := by omega
  have HF := Lib.hid hf1
  clear hf0 hf1
  have hne : ((a.fee % 1099511627776 * (b.bytes % 4000 + 1)) != (b.fee % 1099511627776 * (a.bytes % 4000 + 1))) = true := by rw [bne_iff_ne]; exact hxy
  have heq : ((a.fee % 1099511627776 * (b.bytes % 4000 + 1)) == (b.fee % 1099511627776 * (a.bytes % 4000 + 1))) = false := by rw [beq_eq_false_iff_ne]; exact hxy
  have H6 := Lib.hid (worse_ne (x := (Item.mk a.id (a.fee % 1099511627776) (a.bytes % 4000 + 1))) (y := (Item.mk b.id (b.fee % 1099511627776) (b.bytes % 4000 + 1))) (by rw [num_ab a b m3.1, num_ab b a m2.1]; exact hxy))
  clear hxy
  go_enter Try.func3, Try.ntmps3
  go_wp2_with (first | (go_at_call 7; refine (first_calls _).mono ?_; rintro e w1 ⟨rfl, hb⟩; obtain ⟨hk, hc, hf, hz⟩ := bfacts hb; clear hc hf; try simp only [World.size_alloc, size_upd, World.size_drew] at hz) | (go_at_call 8; refine (number_calls _ _ (by omega) (by omega) (by omega) (by omega) _).mono ?_; rintro e w' ⟨rfl, rfl⟩))
  refine (less_calls _ _ oA oB _).mono ?_
  rintro e w2 ⟨rfl, hb2⟩
  have sz2 := hb2.size
  try simp only [World.size_alloc, size_upd, World.size_drew] at sz2
  rw [H6.out, HN.out, HN'.out]
  have C2 : CX w.heap.size w1.heap.size a b n w2 := CX.on ⟨by (go_simp <;> (repeat' split) <;> first | rfl | omega), by (go_simp <;> (repeat' split) <;> first | rfl | omega), by (go_simp <;> (repeat' split) <;> first | rfl | omega), by (go_simp <;> (repeat' split) <;> first | rfl | omega), by (go_simp <;> (repeat' split) <;> first | rfl | omega)⟩ hb2
  go_wp2_with fail
  have C2' : CX w.heap.size w1.heap.size a b n w2.drew := C2
  refine wp_region_tq (C := CX w.heap.size w1.heap.size a b n) (fun | 4 | 5 | 8 | 10 => .cread | 6 | 11 => .ceff | _ => .pure) [0, 1, 2, 3, 4, 5, 6, 7, 8, 9, 10, 11, 12, 13] [0, 0, 3, 7, 15, 15, 63, 15, 143, 15, 527, 2047, 4095, 8191] (by kernel_rfl) (by kernel_rfl) ?_
  (repeat (first | (refine tq_skipq rfl ?_ ?_; (focus (refine wanted_is rfl rfl rfl rfl ?_; with_reducible first | exact ne_tf | exact ne_ft)); simp only [Act.put, List.setIfInBounds_toArray, List.set_cons_zero, List.set_cons_succ]) | (refine tq_pureq rfl rfl ?_ rfl (fun K hK => ?_); (focus (first | exact wanted_none rfl | (refine wanted_is rfl rfl rfl rfl ?_; with_reducible first | exact eq_tt | exact eq_ff))); go_big_quiet_op; refine hK _ ?_; clear hK K)))
  refine tq_nil ?_
  go_wp2_with fail
  have Cz : CX w.heap.size w1.heap.size a b n w2.drew.drew := C2
  clear C2 C2'
  refine wp_region_tq (C := CX w.heap.size w1.heap.size a b n) (fun | 2 | 3 | 7 | 8 | 14 | 17 | 18 | 23 | 24 | 27 | 29 | 34 | 35 | 38 | 39 => .cread | 4 | 9 | 19 | 25 | 30 | 36 | 40 => .ceff | _ => .pure) [0, 1, 2, 3, 4, 5, 6, 7, 8, 9, 10, 11, 12, 13, 14, 15, 16, 17, 18, 19, 20, 21, 22, 23, 24, 25, 26, 27, 28, 29, 30, 31, 32, 33, 34, 35, 36, 37, 38, 39, 40, 41, 42, 43, 44] [0, 1, 3, 3, 15, 31, 63, 127, 127, 511, 1023, 2047, 4095, 8191, 16383, 32767, 65535, 131071, 131071, 524287, 1048575, 2097151, 4194303, 8388607, 8388607, 33554431, 8388607, 75497471, 8388607, 276824063, 1073741823, 2147483647, 4294967295, 8589934591, 17179869183, 17179869183, 68719476735, 137438953471, 274877906943, 274877906943, 1099511627775, 2199023255551, 4398046511103, 8796093022207, 17592186044415] (by kernel_rfl) (by kernel_rfl) ?_
  have Cv0 := Cz
  clear Cz
  (repeat (first | (refine tq_skipq rfl ?_ ?_; (focus (refine wanted_is rfl rfl rfl rfl ?_; with_reducible first | exact ne_tf | exact ne_ft)); simp only [Act.put, List.setIfInBounds_toArray, List.set_cons_zero, List.set_cons_succ]) | (refine tq_pureq rfl rfl ?_ rfl (fun K hK => ?_); (focus (first | exact wanted_none rfl | (refine wanted_is rfl rfl rfl rfl ?_; with_reducible first | exact eq_tt | exact eq_ff))); go_big_quiet_op; refine hK _ ?_; clear hK K) | (refine tq_cloadx (t := 26) rfl rfl ?_ ?_ rfl rfl ?_; (focus (first | exact wanted_none rfl | (refine wanted_is rfl rfl rfl rfl ?_; with_reducible first | exact eq_tt | exact eq_ff))); (focus assumption); (first | refine ⟨_, fun w' hw' => ld_item_of hw'.p1, ?_⟩ | refine ⟨_, fun w' hw' => ld_item_of hw'.p2, ?_⟩ | refine ⟨_, fun w' hw' => ld_item_of hw'.p3, ?_⟩ | refine ⟨_, fun w' hw' => ld_item_of hw'.p4, ?_⟩ | refine ⟨_, fun w' hw' => ld_item_of hw'.p5, ?_⟩); simp only [Act.put, List.setIfInBounds_toArray, List.set_cons_zero, List.set_cons_succ]) | (refine tq_cloadx (t := 23) rfl rfl ?_ ?_ rfl rfl ?_; (focus (first | exact wanted_none rfl | (refine wanted_is rfl rfl rfl rfl ?_; with_reducible first | exact eq_tt | exact eq_ff))); (focus assumption); (first | refine ⟨_, fun w' hw' => ld_id_of hw'.p1, ?_⟩ | refine ⟨_, fun w' hw' => ld_id_of hw'.p2, ?_⟩ | refine ⟨_, fun w' hw' => ld_id_of hw'.p3, ?_⟩ | refine ⟨_, fun w' hw' => ld_id_of hw'.p4, ?_⟩ | refine ⟨_, fun w' hw' => ld_id_of hw'.p5, ?_⟩); simp only [Act.put, List.setIfInBounds_toArray, List.set_cons_zero, List.set_cons_succ]) | (refine tq_cloadx (t := 24) rfl rfl ?_ ?_ rfl rfl ?_; (focus (first | exact wanted_none rfl | (refine wanted_is rfl rfl rfl rfl ?_; with_reducible first | exact eq_tt | exact eq_ff))); (focus assumption); (first | refine ⟨_, fun w' hw' => ld_fee_of hw'.p1, ?_⟩ | refine ⟨_, fun w' hw' => ld_fee_of hw'.p2, ?_⟩ | refine ⟨_, fun w' hw' => ld_fee_of hw'.p3, ?_⟩ | refine ⟨_, fun w' hw' => ld_fee_of hw'.p4, ?_⟩ | refine ⟨_, fun w' hw' => ld_fee_of hw'.p5, ?_⟩); simp only [Act.put, List.setIfInBounds_toArray, List.set_cons_zero, List.set_cons_succ])))
  (refine tq_ceffq rfl rfl ?_ ?_ (fun K hK => ?_); (focus (first | exact wanted_none rfl | (refine wanted_is rfl rfl rfl rfl ?_; with_reducible first | exact eq_tt | exact eq_ff))); (focus assumption))
  go_wp2_with fail
  refine (less_calls _ _ oA oM _).mono ?_
  rintro e v1 ⟨rfl, hbv1⟩
  have szv1 := hbv1.size
  try simp only [World.size_alloc, size_upd, World.size_drew] at szv1
  rw [H1.out]
  have Cv1 := Cv0.on hbv1
  clear Cv0
  go_wp2_with fail
  refine hK _ _ Cv1 ?_
  clear hK K
  (repeat (first | (refine tq_skipq rfl ?_ ?_; (focus (refine wanted_is rfl rfl rfl rfl ?_; with_reducible first | exact ne_tf | exact ne_ft)); simp only [Act.put, List.setIfInBounds_toArray, List.set_cons_zero, List.set_cons_succ]) | (refine tq_pureq rfl rfl ?_ rfl (fun K hK => ?_); (focus (first | exact wanted_none rfl | (refine wanted_is rfl rfl rfl rfl ?_; with_reducible first | exact eq_tt | exact eq_ff))); go_big_quiet_op; refine hK _ ?_; clear hK K) | (refine tq_cloadx (t := 26) rfl rfl ?_ ?_ rfl rfl ?_; (focus (first | exact wanted_none rfl | (refine wanted_is rfl rfl rfl rfl ?_; with_reducible first | exact eq_tt | exact eq_ff))); (focus assumption); (first | refine ⟨_, fun w' hw' => ld_item_of hw'.p1, ?_⟩ | refine ⟨_, fun w' hw' => ld_item_of hw'.p2, ?_⟩ | refine ⟨_, fun w' hw' => ld_item_of hw'.p3, ?_⟩ | refine ⟨_, fun w' hw' => ld_item_of hw'.p4, ?_⟩ | refine ⟨_, fun w' hw' => ld_item_of hw'.p5, ?_⟩); simp only [Act.put, List.setIfInBounds_toArray, List.set_cons_zero, List.set_cons_succ]) | (refine tq_cloadx (t := 23) rfl rfl ?_ ?_ rfl rfl ?_; (focus (first | exact wanted_none rfl | (refine wanted_is rfl rfl rfl rfl ?_; with_reducible first | exact eq_tt | exact eq_ff))); (focus assumption); (first | refine ⟨_, fun w' hw' => ld_id_of hw'.p1, ?_⟩ | refine ⟨_, fun w' hw' => ld_id_of hw'.p2, ?_⟩ | refine ⟨_, fun w' hw' => ld_id_of hw'.p3, ?_⟩ | refine ⟨_, fun w' hw' => ld_id_of hw'.p4, ?_⟩ | refine ⟨_, fun w' hw' => ld_id_of hw'.p5, ?_⟩); simp only [Act.put, List.setIfInBounds_toArray, List.set_cons_zero, List.set_cons_succ]) | (refine tq_cloadx (t := 24) rfl rfl ?_ ?_ rfl rfl ?_; (focus (first | exact wanted_none rfl | (refine wanted_is rfl rfl rfl rfl ?_; with_reducible first | exact eq_tt | exact eq_ff))); (focus assumption); (first | refine ⟨_, fun w' hw' => ld_fee_of hw'.p1, ?_⟩ | refine ⟨_, fun w' hw' => ld_fee_of hw'.p2, ?_⟩ | refine ⟨_, fun w' hw' => ld_fee_of hw'.p3, ?_⟩ | refine ⟨_, fun w' hw' => ld_fee_of hw'.p4, ?_⟩ | refine ⟨_, fun w' hw' => ld_fee_of hw'.p5, ?_⟩); simp only [Act.put, List.setIfInBounds_toArray, List.set_cons_zero, List.set_cons_succ])))
  (refine tq_ceffq rfl rfl ?_ ?_ (fun K hK => ?_); (focus (first | exact wanted_none rfl | (refine wanted_is rfl rfl rfl rfl ?_; with_reducible first | exact eq_tt | exact eq_ff))); (focus assumption))
  go_wp2_with fail
  refine (less_calls _ _ oM oA _).mono ?_
  rintro e v2 ⟨rfl, hbv2⟩
  have szv2 := hbv2.size
  try simp only [World.size_alloc, size_upd, World.size_drew] at szv2
  rw [H2.out]
  have Cv2 := Cv1.on hbv2
  clear Cv1
  go_wp2_with fail
  refine hK _ _ Cv2 ?_
  clear hK K
  (repeat (first | (refine tq_skipq rfl ?_ ?_; (focus (refine wanted_is rfl rfl rfl rfl ?_; with_reducible first | exact ne_tf | exact ne_ft)); simp only [Act.put, List.setIfInBounds_toArray, List.set_cons_zero, List.set_cons_succ]) | (refine tq_pureq rfl rfl ?_ rfl (fun K hK => ?_); (focus (first | exact wanted_none rfl | (refine wanted_is rfl rfl rfl rfl ?_; with_reducible first | exact eq_tt | exact eq_ff))); go_big_quiet_op; refine hK _ ?_; clear hK K) | (refine tq_cloadx (t := 26) rfl rfl ?_ ?_ rfl rfl ?_; (focus (first | exact wanted_none rfl | (refine wanted_is rfl rfl rfl rfl ?_; with_reducible first | exact eq_tt | exact eq_ff))); (focus assumption); (first | refine ⟨_, fun w' hw' => ld_item_of hw'.p1, ?_⟩ | refine ⟨_, fun w' hw' => ld_item_of hw'.p2, ?_⟩ | refine ⟨_, fun w' hw' => ld_item_of hw'.p3, ?_⟩ | refine ⟨_, fun w' hw' => ld_item_of hw'.p4, ?_⟩ | refine ⟨_, fun w' hw' => ld_item_of hw'.p5, ?_⟩); simp only [Act.put, List.setIfInBounds_toArray, List.set_cons_zero, List.set_cons_succ]) | (refine tq_cloadx (t := 23) rfl rfl ?_ ?_ rfl rfl ?_; (focus (first | exact wanted_none rfl | (refine wanted_is rfl rfl rfl rfl ?_; with_reducible first | exact eq_tt | exact eq_ff))); (focus assumption); (first | refine ⟨_, fun w' hw' => ld_id_of hw'.p1, ?_⟩ | refine ⟨_, fun w' hw' => ld_id_of hw'.p2, ?_⟩ | refine ⟨_, fun w' hw' => ld_id_of hw'.p3, ?_⟩ | refine ⟨_, fun w' hw' => ld_id_of hw'.p4, ?_⟩ | refine ⟨_, fun w' hw' => ld_id_of hw'.p5, ?_⟩); simp only [Act.put, List.setIfInBounds_toArray, List.set_cons_zero, List.set_cons_succ]) | (refine tq_cloadx (t := 24) rfl rfl ?_ ?_ rfl rfl ?_; (focus (first | exact wanted_none rfl | (refine wanted_is rfl rfl rfl rfl ?_; with_reducible first | exact eq_tt | exact eq_ff))); (focus assumption); (first | refine ⟨_, fun w' hw' => ld_fee_of hw'.p1, ?_⟩ | refine ⟨_, fun w' hw' => ld_fee_of hw'.p2, ?_⟩ | refine ⟨_, fun w' hw' => ld_fee_of hw'.p3, ?_⟩ | refine ⟨_, fun w' hw' => ld_fee_of hw'.p4, ?_⟩ | refine ⟨_, fun w' hw' => ld_fee_of hw'.p5, ?_⟩); simp only [Act.put, List.setIfInBounds_toArray, List.set_cons_zero, List.set_cons_succ])))
  (refine tq_ceffq rfl rfl ?_ ?_ (fun K hK => ?_); (focus (first | exact wanted_none rfl | (refine wanted_is rfl rfl rfl rfl ?_; with_reducible first | exact eq_tt | exact eq_ff))); (focus assumption))
  go_wp2_with fail
  refine (less_calls _ _ oL oA _).mono ?_
  rintro e v3 ⟨rfl, hbv3⟩
  have szv3 := hbv3.size
  try simp only [World.size_alloc, size_upd, World.size_drew] at szv3
  rw [H3.out HF.out]
  have Cv3 := Cv2.on hbv3
  clear Cv2
  go_wp2_with fail
  refine hK _ _ Cv3 ?_
  clear hK K
  (repeat (first | (refine tq_skipq rfl ?_ ?_; (focus (refine wanted_is rfl rfl rfl rfl ?_; with_reducible first | exact ne_tf | exact ne_ft)); simp only [Act.put, List.setIfInBounds_toArray, List.set_cons_zero, List.set_cons_succ]) | (refine tq_pureq rfl rfl ?_ rfl (fun K hK => ?_); (focus (first | exact wanted_none rfl | (refine wanted_is rfl rfl rfl rfl ?_; with_reducible first | exact eq_tt | exact eq_ff))); go_big_quiet_op; refine hK _ ?_; clear hK K) | (refine tq_cloadx (t := 26) rfl rfl ?_ ?_ rfl rfl ?_; (focus (first | exact wanted_none rfl | (refine wanted_is rfl rfl rfl rfl ?_; with_reducible first | exact eq_tt | exact eq_ff))); (focus assumption); (first | refine ⟨_, fun w' hw' => ld_item_of hw'.p1, ?_⟩ | refine ⟨_, fun w' hw' => ld_item_of hw'.p2, ?_⟩ | refine ⟨_, fun w' hw' => ld_item_of hw'.p3, ?_⟩ | refine ⟨_, fun w' hw' => ld_item_of hw'.p4, ?_⟩ | refine ⟨_, fun w' hw' => ld_item_of hw'.p5, ?_⟩); simp only [Act.put, List.setIfInBounds_toArray, List.set_cons_zero, List.set_cons_succ]) | (refine tq_cloadx (t := 23) rfl rfl ?_ ?_ rfl rfl ?_; (focus (first | exact wanted_none rfl | (refine wanted_is rfl rfl rfl rfl ?_; with_reducible first | exact eq_tt | exact eq_ff))); (focus assumption); (first | refine ⟨_, fun w' hw' => ld_id_of hw'.p1, ?_⟩ | refine ⟨_, fun w' hw' => ld_id_of hw'.p2, ?_⟩ | refine ⟨_, fun w' hw' => ld_id_of hw'.p3, ?_⟩ | refine ⟨_, fun w' hw' => ld_id_of hw'.p4, ?_⟩ | refine ⟨_, fun w' hw' => ld_id_of hw'.p5, ?_⟩); simp only [Act.put, List.setIfInBounds_toArray, List.set_cons_zero, List.set_cons_succ]) | (refine tq_cloadx (t := 24) rfl rfl ?_ ?_ rfl rfl ?_; (focus (first | exact wanted_none rfl | (refine wanted_is rfl rfl rfl rfl ?_; with_reducible first | exact eq_tt | exact eq_ff))); (focus assumption); (first | refine ⟨_, fun w' hw' => ld_fee_of hw'.p1, ?_⟩ | refine ⟨_, fun w' hw' => ld_fee_of hw'.p2, ?_⟩ | refine ⟨_, fun w' hw' => ld_fee_of hw'.p3, ?_⟩ | refine ⟨_, fun w' hw' => ld_fee_of hw'.p4, ?_⟩ | refine ⟨_, fun w' hw' => ld_fee_of hw'.p5, ?_⟩); simp only [Act.put, List.setIfInBounds_toArray, List.set_cons_zero, List.set_cons_succ])))
  (refine tq_ceffq rfl rfl ?_ ?_ (fun K hK => ?_); (focus (first | exact wanted_none rfl | (refine wanted_is rfl rfl rfl rfl ?_; with_reducible first | exact eq_tt | exact eq_ff))); (focus assumption))
  go_wp2_with fail
  refine (less_calls _ _ oA oT _).mono ?_
  rintro e v4 ⟨rfl, hbv4⟩
  have szv4 := hbv4.size
  try simp only [World.size_alloc, size_upd, World.size_drew] at szv4
  rw [H4.out]
  have Cv4 := Cv3.on hbv4
  clear Cv3
  go_wp2_with fail
  refine hK _ _ Cv4 ?_
  clear hK K
  (repeat (first | (refine tq_skipq rfl ?_ ?_; (focus (refine wanted_is rfl rfl rfl rfl ?_; with_reducible first | exact ne_tf | exact ne_ft)); simp only [Act.put, List.setIfInBounds_toArray, List.set_cons_zero, List.set_cons_succ]) | (refine tq_pureq rfl rfl ?_ rfl (fun K hK => ?_); (focus (first | exact wanted_none rfl | (refine wanted_is rfl rfl rfl rfl ?_; with_reducible first | exact eq_tt | exact eq_ff))); go_big_quiet_op; refine hK _ ?_; clear hK K) | (refine tq_cloadx (t := 26) rfl rfl ?_ ?_ rfl rfl ?_; (focus (first | exact wanted_none rfl | (refine wanted_is rfl rfl rfl rfl ?_; with_reducible first | exact eq_tt | exact eq_ff))); (focus assumption); (first | refine ⟨_, fun w' hw' => ld_item_of hw'.p1, ?_⟩ | refine ⟨_, fun w' hw' => ld_item_of hw'.p2, ?_⟩ | refine ⟨_, fun w' hw' => ld_item_of hw'.p3, ?_⟩ | refine ⟨_, fun w' hw' => ld_item_of hw'.p4, ?_⟩ | refine ⟨_, fun w' hw' => ld_item_of hw'.p5, ?_⟩); simp only [Act.put, List.setIfInBounds_toArray, List.set_cons_zero, List.set_cons_succ]) | (refine tq_cloadx (t := 23) rfl rfl ?_ ?_ rfl rfl ?_; (focus (first | exact wanted_none rfl | (refine wanted_is rfl rfl rfl rfl ?_; with_reducible first | exact eq_tt | exact eq_ff))); (focus assumption); (first | refine ⟨_, fun w' hw' => ld_id_of hw'.p1, ?_⟩ | refine ⟨_, fun w' hw' => ld_id_of hw'.p2, ?_⟩ | refine ⟨_, fun w' hw' => ld_id_of hw'.p3, ?_⟩ | refine ⟨_, fun w' hw' => ld_id_of hw'.p4, ?_⟩ | refine ⟨_, fun w' hw' => ld_id_of hw'.p5, ?_⟩); simp only [Act.put, List.setIfInBounds_toArray, List.set_cons_zero, List.set_cons_succ]) | (refine tq_cloadx (t := 24) rfl rfl ?_ ?_ rfl rfl ?_; (focus (first | exact wanted_none rfl | (refine wanted_is rfl rfl rfl rfl ?_; with_reducible first | exact eq_tt | exact eq_ff))); (focus assumption); (first | refine ⟨_, fun w' hw' => ld_fee_of hw'.p1, ?_⟩ | refine ⟨_, fun w' hw' => ld_fee_of hw'.p2, ?_⟩ | refine ⟨_, fun w' hw' => ld_fee_of hw'.p3, ?_⟩ | refine ⟨_, fun w' hw' => ld_fee_of hw'.p4, ?_⟩ | refine ⟨_, fun w' hw' => ld_fee_of hw'.p5, ?_⟩); simp only [Act.put, List.setIfInBounds_toArray, List.set_cons_zero, List.set_cons_succ])))
  (refine tq_ceffq rfl rfl ?_ ?_ (fun K hK => ?_); (focus (first | exact wanted_none rfl | (refine wanted_is rfl rfl rfl rfl ?_; with_reducible first | exact eq_tt | exact eq_ff))); (focus assumption))
  go_wp2_with fail
  refine (lessHash_calls _ _ _).mono ?_
  rintro e v5 ⟨rfl, hbv5⟩
  have szv5 := hbv5.size
  try simp only [World.size_alloc, size_upd, World.size_drew] at szv5
  rw [H7.out]
  have Cv5 := Cv4.on hbv5
  clear Cv4
  go_wp2_with fail
  refine hK _ _ Cv5 ?_
  clear hK K
  (repeat (first | (refine tq_skipq rfl ?_ ?_; (focus (refine wanted_is rfl rfl rfl rfl ?_; with_reducible first | exact ne_tf | exact ne_ft)); simp only [Act.put, List.setIfInBounds_toArray, List.set_cons_zero, List.set_cons_succ]) | (refine tq_pureq rfl rfl ?_ rfl (fun K hK => ?_); (focus (first | exact wanted_none rfl | (refine wanted_is rfl rfl rfl rfl ?_; with_reducible first | exact eq_tt | exact eq_ff))); go_big_quiet_op; refine hK _ ?_; clear hK K) | (refine tq_cloadx (t := 26) rfl rfl ?_ ?_ rfl rfl ?_; (focus (first | exact wanted_none rfl | (refine wanted_is rfl rfl rfl rfl ?_; with_reducible first | exact eq_tt | exact eq_ff))); (focus assumption); (first | refine ⟨_, fun w' hw' => ld_item_of hw'.p1, ?_⟩ | refine ⟨_, fun w' hw' => ld_item_of hw'.p2, ?_⟩ | refine ⟨_, fun w' hw' => ld_item_of hw'.p3, ?_⟩ | refine ⟨_, fun w' hw' => ld_item_of hw'.p4, ?_⟩ | refine ⟨_, fun w' hw' => ld_item_of hw'.p5, ?_⟩); simp only [Act.put, List.setIfInBounds_toArray, List.set_cons_zero, List.set_cons_succ]) | (refine tq_cloadx (t := 23) rfl rfl ?_ ?_ rfl rfl ?_; (focus (first | exact wanted_none rfl | (refine wanted_is rfl rfl rfl rfl ?_; with_reducible first | exact eq_tt | exact eq_ff))); (focus assumption); (first | refine ⟨_, fun w' hw' => ld_id_of hw'.p1, ?_⟩ | refine ⟨_, fun w' hw' => ld_id_of hw'.p2, ?_⟩ | refine ⟨_, fun w' hw' => ld_id_of hw'.p3, ?_⟩ | refine ⟨_, fun w' hw' => ld_id_of hw'.p4, ?_⟩ | refine ⟨_, fun w' hw' => ld_id_of hw'.p5, ?_⟩); simp only [Act.put, List.setIfInBounds_toArray, List.set_cons_zero, List.set_cons_succ]) | (refine tq_cloadx (t := 24) rfl rfl ?_ ?_ rfl rfl ?_; (focus (first | exact wanted_none rfl | (refine wanted_is rfl rfl rfl rfl ?_; with_reducible first | exact eq_tt | exact eq_ff))); (focus assumption); (first | refine ⟨_, fun w' hw' => ld_fee_of hw'.p1, ?_⟩ | refine ⟨_, fun w' hw' => ld_fee_of hw'.p2, ?_⟩ | refine ⟨_, fun w' hw' => ld_fee_of hw'.p3, ?_⟩ | refine ⟨_, fun w' hw' => ld_fee_of hw'.p4, ?_⟩ | refine ⟨_, fun w' hw' => ld_fee_of hw'.p5, ?_⟩); simp only [Act.put, List.setIfInBounds_toArray, List.set_cons_zero, List.set_cons_succ])))
  (refine tq_ceffq rfl rfl ?_ ?_ (fun K hK => ?_); (focus (first | exact wanted_none rfl | (refine wanted_is rfl rfl rfl rfl ?_; with_reducible first | exact eq_tt | exact eq_ff))); (focus assumption))
  go_wp2_with fail
  refine (less_calls _ _ oA oB _).mono ?_
  rintro e v6 ⟨rfl, hbv6⟩
  have szv6 := hbv6.size
  try simp only [World.size_alloc, size_upd, World.size_drew] at szv6
  rw [HAB.out]
  have Cv6 := Cv5.on hbv6
  clear Cv5
  go_wp2_with fail
  refine hK _ _ Cv6 ?_
  clear hK K
  (repeat (first | (refine tq_skipq rfl ?_ ?_; (focus (refine wanted_is rfl rfl rfl rfl ?_; with_reducible first | exact ne_tf | exact ne_ft)); simp only [Act.put, List.setIfInBounds_toArray, List.set_cons_zero, List.set_cons_succ]) | (refine tq_pureq rfl rfl ?_ rfl (fun K hK => ?_); (focus (first | exact wanted_none rfl | (refine wanted_is rfl rfl rfl rfl ?_; with_reducible first | exact eq_tt | exact eq_ff))); go_big_quiet_op; refine hK _ ?_; clear hK K) | (refine tq_cloadx (t := 26) rfl rfl ?_ ?_ rfl rfl ?_; (focus (first | exact wanted_none rfl | (refine wanted_is rfl rfl rfl rfl ?_; with_reducible first | exact eq_tt | exact eq_ff))); (focus assumption); (first | refine ⟨_, fun w' hw' => ld_item_of hw'.p1, ?_⟩ | refine ⟨_, fun w' hw' => ld_item_of hw'.p2, ?_⟩ | refine ⟨_, fun w' hw' => ld_item_of hw'.p3, ?_⟩ | refine ⟨_, fun w' hw' => ld_item_of hw'.p4, ?_⟩ | refine ⟨_, fun w' hw' => ld_item_of hw'.p5, ?_⟩); simp only [Act.put, List.setIfInBounds_toArray, List.set_cons_zero, List.set_cons_succ]) | (refine tq_cloadx (t := 23) rfl rfl ?_ ?_ rfl rfl ?_; (focus (first | exact wanted_none rfl | (refine wanted_is rfl rfl rfl rfl ?_; with_reducible first | exact eq_tt | exact eq_ff))); (focus assumption); (first | refine ⟨_, fun w' hw' => ld_id_of hw'.p1, ?_⟩ | refine ⟨_, fun w' hw' => ld_id_of hw'.p2, ?_⟩ | refine ⟨_, fun w' hw' => ld_id_of hw'.p3, ?_⟩ | refine ⟨_, fun w' hw' => ld_id_of hw'.p4, ?_⟩ | refine ⟨_, fun w' hw' => ld_id_of hw'.p5, ?_⟩); simp only [Act.put, List.setIfInBounds_toArray, List.set_cons_zero, List.set_cons_succ]) | (refine tq_cloadx (t := 24) rfl rfl ?_ ?_ rfl rfl ?_; (focus (first | exact wanted_none rfl | (refine wanted_is rfl rfl rfl rfl ?_; with_reducible first | exact eq_tt | exact eq_ff))); (focus assumption); (first | refine ⟨_, fun w' hw' => ld_fee_of hw'.p1, ?_⟩ | refine ⟨_, fun w' hw' => ld_fee_of hw'.p2, ?_⟩ | refine ⟨_, fun w' hw' => ld_fee_of hw'.p3, ?_⟩ | refine ⟨_, fun w' hw' => ld_fee_of hw'.p4, ?_⟩ | refine ⟨_, fun w' hw' => ld_fee_of hw'.p5, ?_⟩); simp only [Act.put, List.setIfInBounds_toArray, List.set_cons_zero, List.set_cons_succ])))
  refine tq_nil ?_
  go_wp2_with fail
  go_ret
  exact ⟨rfl, by (repeat' (first | exact Below.refl _ _ | (with_reducible refine Below.alloc ?_ ?_ _) | (with_reducible refine Below.drew ?_) | (with_reducible refine below_upd ?_ ?_ _) | (with_reducible refine Below.setCell ?_ ?_ _) | (with_reducible refine Below.trans ?_ (Below.mono (by assumption) ?_)) | ((try simp only [World.size_alloc, size_upd, World.size_drew, World.size_setCell] at *); omega)))⟩

end Go.Proofs.Ytgjmnplpefkbhaa
