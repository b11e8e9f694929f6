/-
  The contracts of the functions of package rate that hold two items against each other.
-/
import Derived.Test.YtgjmnplpefkbhaaProg
import Derived.Test.YtgjmnplpefkbhaaBase
import Derived.Test.YtgjmnplpefkbhaaRegion
import Derived.Test.YtgjmnplpefkbhaaMem
import Derived.Shelf.Bits.Mul64
import Derived.Lib.MinMax
import Derived.Lib.Hide
namespace Go.Proofs.Ytgjmnplpefkbhaa
set_option linter.unusedSimpArgs false
set_option linter.unusedVariables false
open Go Go.RowKit Go.BigFrame Go.Shelf

def mul_ren : Go.Shelf.Ren := ⟨fun | 264 => 30 | n => n, fun | 53 => 24 | 46 => 78 | n => n, fun | n => n⟩
theorem mul_lays : Go.Proofs.Lays.n264 Try.prog mul_ren := {
  mixed := by kernel_rfl
  f264 := Try.func30.trans (congrArg some (by kernel_rfl))
  t46 := Try.underlying78
  a46 := Try.isAgg78
  z46 := Try.sizeOf78
  v46 := Try.zeroValue78
  t53 := Try.underlying24
  a53 := Try.isAgg24
  z53 := Try.sizeOf24
  v53 := Try.zeroValue24 }

def M64 : Int := 18446744073709551616
def mhi (a b : Int) : Int := a * b / M64
def mlo (a b : Int) : Int := a * b % M64

theorem mul_calls (a b : Int) (ha : 0 ≤ a) (ha' : a ≤ 18446744073709551615) (hb : 0 ≤ b) (hb' : b ≤ 18446744073709551615) (w : World) :
    Calls Try.prog 30 #[.int .u64 a, .int .u64 b] w fun e w' => e = .returned (.tuple #[.int .u64 (mhi a b), .int .u64 (mlo a b)]) ∧ w = w' := by
  obtain ⟨x, rfl⟩ := Int.eq_ofNat_of_zero_le ha
  obtain ⟨y, rfl⟩ := Int.eq_ofNat_of_zero_le hb
  refine (Any.bits_Mul64 mul_lays x y (by omega) (by omega) w).mono fun e w' ⟨h1, h2⟩ => ⟨?_, h2.symm⟩
  rw [h1]
  simp [mhi, mlo, M64]

theorem ret_int {k : IntKind} {a b : Int} (h : a = b) : Ending.returned (.int k a) = .returned (.int k b) := by rw [h]

/-- Which has the lesser fee for its bytes. -/
def rnum (x y : Item) : Int := x.fee * max y.bytes 1
def rcmp (x y : Item) : Int := if rnum x y < rnum y x then -1 else if rnum x y = rnum y x then 0 else 1

theorem two_parts (p q : Int) : (p / M64 < q / M64 ∨ (p / M64 = q / M64 ∧ p % M64 < q % M64)) ↔ p < q := by unfold M64; omega
theorem two_same (p q : Int) : (p / M64 = q / M64 ∧ p % M64 = q % M64) ↔ p = q := by unfold M64; omega

theorem rc_m1 {p q : Int} (h : p < q) : (if p < q then -1 else if p = q then 0 else 1 : Int) = -1 := if_pos h
theorem rc_0 {p q : Int} (h : p = q) : (if p < q then -1 else if p = q then 0 else 1 : Int) = 0 := by rw [if_neg (by omega), if_pos h]
theorem rc_1 {p q : Int} (h : ¬ p < q) (h' : ¬ p = q) : (if p < q then -1 else if p = q then 0 else 1 : Int) = 1 := by rw [if_neg h, if_neg h']

theorem ld_hash (b o : Nat) (w : World) : (LD 23 (.pointer (some ⟨b, o, none⟩))).run Try.prog w = loadBlk Try.prog b o 32 w (blk w b) := LD_agg Try.isAgg23 Try.sizeOf23 b o w
theorem st_hash (b o : Nat) (vs : Array Value) (w : World) : (ST 23 (.pointer (some ⟨b, o, none⟩)) (.agg vs)).run Try.prog w = storeBlk Try.prog 23 b o 32 vs w (blk w b) := ST_agg Try.sizeOf23 b o vs w
theorem ld_item (b o : Nat) (w : World) : (LD 26 (.pointer (some ⟨b, o, none⟩))).run Try.prog w = loadBlk Try.prog b o 34 w (blk w b) := LD_agg Try.isAgg26 Try.sizeOf26 b o w
theorem st_item (b o : Nat) (vs : Array Value) (w : World) : (ST 26 (.pointer (some ⟨b, o, none⟩)) (.agg vs)).run Try.prog w = storeBlk Try.prog 26 b o 34 vs w (blk w b) := ST_agg Try.sizeOf26 b o vs w
theorem flat_hash (h : Hash) : Flat h.cells := fun v hv => by
  obtain ⟨n, rfl⟩ := h.shape hv
  exact ⟨fun x => by simp, fun x => by simp⟩
theorem flat_item (h : Item) : Flat h.cells := fun v hv => by
  obtain ⟨k, n, rfl⟩ := h.shape hv
  exact ⟨fun x => by simp, fun x => by simp⟩
theorem splice_hash (g h : Hash) : splice g.cells 0 h.cells = h.cells := splice_all _ _ (by rw [g.size, h.size])
theorem splice_item (g h : Item) : splice g.cells 0 h.cells = h.cells := splice_all _ _ (by rw [g.size, h.size])
theorem splice_id (g : Item) (h : Hash) : splice g.cells 0 h.cells = ({ g with id := h } : Item).cells := by
  have e : g.cells.extract 32 34 = #[.int .u64 g.fee, .int .i64 g.bytes] := by
    have := g.id.size; simp [Item.cells, Array.extract_append, this]
  simp only [splice, Array.extract_zero, Nat.zero_add, h.size, g.size, e]
  simp [Item.cells]
theorem ld_item_of {w : World} {b : Nat} {x : Item} (h : blk w b = some (.cells x.cells 26)) : (Instr.loadAt 26 (.pointer (some ⟨b, 0, none⟩))).run Try.prog w = .ok (.agg x.cells) w := by
  have := ld_item b 0 w
  rw [h, loadBlk_cells, if_pos (by rw [x.size]; omega), Nat.zero_add, x.all] at this
  exact this
theorem ld_id_of {w : World} {b : Nat} {x : Item} (h : blk w b = some (.cells x.cells 26)) : (Instr.loadAt 23 (.pointer (some ⟨b, 0, none⟩))).run Try.prog w = .ok (.agg x.id.cells) w := by
  have := ld_hash b 0 w
  rw [h, loadBlk_cells, if_pos (by rw [x.size]; omega), Nat.zero_add, x.id_at] at this
  exact this
theorem ld_fee_of {w : World} {b : Nat} {x : Item} (h : blk w b = some (.cells x.cells 26)) : (Instr.loadAt 24 (.pointer (some ⟨b, 32, none⟩))).run Try.prog w = .ok (.int .u64 x.fee) w := by
  have := LD_cell (P := Try.prog) (t := 24) b 32 w Try.isAgg24
  rw [h, loadCell_cells, x.fee_at, cellOr_some] at this
  exact this
theorem al_item (w : World) : (AL 26).run Try.prog w = .ok (.pointer (some ⟨w.heap.size, 0, none⟩)) (w.alloc (.cells zeroItem.cells 26)) := AL_agg (fun w => by kernel_rfl) w
theorem bd_hash0 (w : World) : (BD 23 #[]).run Try.prog w = .ok (.agg zeroHash.cells) w := by kernel_rfl
attribute [local go_sem ↓] ex_load ex_store ex_alloc
attribute [local go_sem] LD_cell ST_cell AL_plain loadCell_cells cellOr_some storeCell_cells loadBlk_cells storeBlk_cells blk_alloc blk_drew blk_upd oupd_cells upd_alloc upd_drew size_upd
attribute [local go_sem] flat_hash flat_item splice_hash splice_item splice_id al_item
attribute [local go_sem] ld_hash ld_item st_hash st_item Hash.all Item.all Item.fee_at Item.bytes_at Item.id_at Item.size Hash.size Item.fee_at' Item.bytes_at'

theorem cmp_calls (x y : Item) (kx : x.ok) (ky : y.ok) (w : World) :
    Calls Try.prog 31 #[.agg x.cells, .agg y.cells] w fun e w' => e = .returned (.int .i64 (rcmp x y)) ∧ Below w.heap.size w w' := by
  obtain ⟨gx, gx', hx, hx'⟩ := kx
  obtain ⟨gy, gy', hy, hy'⟩ := ky
  go_enter Try.func31, Try.ntmps31
  go_wp2_with (go_at_call 30; refine (mul_calls _ _ (by omega) (by omega) (by omega) (by omega) _).mono ?_; rintro e w' ⟨rfl, rfl⟩)
  all_goals
    go_ret
    refine ⟨ret_int ?_, (((Below.refl _ _).alloc (Nat.le_refl _) _).alloc (by simp) _)⟩
    have T1 := two_parts (rnum x y) (rnum y x)
    have T2 := two_same (rnum x y) (rnum y x)
    unfold rnum at T1 T2
    try unfold mhi at *
    try unfold mlo at *
    try simp only [beq_iff_eq, beq_eq_false_iff_ne, ne_eq] at *
    unfold rcmp
    first | exact (rc_m1 (by unfold rnum; omega)).symm | exact (rc_0 (by unfold rnum; omega)).symm | exact (rc_1 (by unfold rnum; omega) (by unfold rnum; omega)).symm

/-! digests -/

theorem bcmp_run (a b : List UInt8) (p q : Addr) (c d : Nat) (w : World) (ha : Row w p (a.map bv)) (hb : Row w q (b.map bv)) :
    (callFunc 37 #[.slice (some p) a.length c, .slice (some q) b.length d]).run Try.prog w = .ok (.value (.int .i64 (lcmp a b))) w := by
  rw [run_callFunc_extern Try.func37 (by kernel_rfl) (by kernel_rfl) (by kernel_rfl) (e := Extern.BytealgCompare.compare) (by kernel_rfl)]
  have h1 := run_lb (P := Try.prog) w a p .empty ha
  have h2 := run_lb (P := Try.prog) w b q .empty hb
  change ((Sem.run Try.prog (do pure (goInt (Extern.BytealgCompare.cmp (← Extern.Bytes.bytesOf (.slice (some p) a.length c)) (← Extern.Bytes.bytesOf (.slice (some q) b.length d))))) w).andThen _) = _
  simp only [Extern.Bytes.bytesOf, Sem.run_bind, h1, h2, Result.andThen, Sem.run_pure, goInt]
  rw [empty_data, empty_data, cmp_lcmp]

theorem bcmp_calls (a b : List UInt8) (p q : Addr) (c d : Nat) (w : World) (ha : Row w p (a.map bv)) (hb : Row w q (b.map bv)) :
    Calls Try.prog 36 #[.slice (some p) a.length c, .slice (some q) b.length d] w fun e w' => e = .returned (.int .i64 (lcmp a b)) ∧ w = w' := by
  have hr := bcmp_run a b p q c d w ha hb
  clear ha hb
  go_enter Try.func36, Try.ntmps36
  go_wp2_with fail
  go_ret
  exact ⟨rfl, rfl⟩

theorem dcmp_calls (g h : Hash) (w : World) :
    Calls Try.prog 35 #[.agg g.cells, .agg h.cells] w fun e w' => e = .returned (.int .i64 (lcmp g.l h.l)) ∧ Below w.heap.size w w' := by
  have hg : Row ((w.alloc (.cells g.cells 23)).alloc (.cells h.cells 23)).drew ⟨w.heap.size, 0, none⟩ (g.l.map bv) := by
    have := (row_new w g.cells 23).alloc (by simp) (.cells h.cells 23)
    simpa [Hash.cells] using this.drew
  have hh : Row ((w.alloc (.cells g.cells 23)).alloc (.cells h.cells 23)).drew ⟨w.heap.size + 1, 0, none⟩ (h.l.map bv) := by
    have := row_new (w.alloc (.cells g.cells 23)) h.cells 23
    simpa [Hash.cells] using this.drew
  have hc := bcmp_calls g.l h.l _ _ 32 32 _ hg hh
  rw [g.len, h.len] at hc
  have HC := Lib.hid hc
  clear hc hg hh
  go_enter Try.func35, Try.ntmps35
  go_wp2_with fail
  refine wp_region_tq (C := fun _ => True) (fun | 2 => .eff | _ => .pure) [0, 1, 2, 3] [0, 0, 3, 7] (by kernel_rfl) (by kernel_rfl) ?_
  (repeat (first | (refine tq_skipq rfl ?_ ?_; (focus (refine wanted_is rfl rfl rfl rfl ?_; with_reducible first | exact ne_tf | exact ne_ft)); simp only [Act.put, List.setIfInBounds_toArray, List.set_cons_zero, List.set_cons_succ]) | (refine tq_pureq rfl rfl ?_ rfl (fun K hK => ?_); (focus (first | exact wanted_none rfl | (refine wanted_is rfl rfl rfl rfl ?_; with_reducible first | exact eq_tt | exact eq_ff))); go_big_quiet_op; refine hK _ ?_; clear hK K) | (refine tq_readq rfl rfl ?_ rfl (fun K hK => ?_); (focus (first | exact wanted_none rfl | (refine wanted_is rfl rfl rfl rfl ?_; with_reducible first | exact eq_tt | exact eq_ff))); go_big_quiet_op; refine hK _ ?_; clear hK K)))
  (refine tq_effq rfl rfl ?_ (fun K hK => ?_); (focus (first | exact wanted_none rfl | (refine wanted_is rfl rfl rfl rfl ?_; with_reducible first | exact eq_tt | exact eq_ff))))
  go_wp2_with fail
  refine HC.out.mono ?_
  rintro e w' ⟨rfl, rfl⟩
  (go_wp2_with fail; refine hK _ _ ?_; clear hK K)
  (repeat (first | (refine tq_skipq rfl ?_ ?_; (focus (refine wanted_is rfl rfl rfl rfl ?_; with_reducible first | exact ne_tf | exact ne_ft)); simp only [Act.put, List.setIfInBounds_toArray, List.set_cons_zero, List.set_cons_succ]) | (refine tq_pureq rfl rfl ?_ rfl (fun K hK => ?_); (focus (first | exact wanted_none rfl | (refine wanted_is rfl rfl rfl rfl ?_; with_reducible first | exact eq_tt | exact eq_ff))); go_big_quiet_op; refine hK _ ?_; clear hK K) | (refine tq_readq rfl rfl ?_ rfl (fun K hK => ?_); (focus (first | exact wanted_none rfl | (refine wanted_is rfl rfl rfl rfl ?_; with_reducible first | exact eq_tt | exact eq_ff))); go_big_quiet_op; refine hK _ ?_; clear hK K)))
  refine tq_nil ?_
  go_wp2_with fail
  go_ret
  exact ⟨rfl, (((Below.refl _ _).alloc (Nat.le_refl _) _).alloc (by simp) _).drew⟩

theorem dless_calls (g h : Hash) (w : World) :
    Calls Try.prog 32 #[.agg g.cells, .agg h.cells] w fun e w' => e = .returned (.bool (decide (lcmp g.l h.l < 0))) ∧ Below w.heap.size w w' := by
  go_enter Try.func32, Try.ntmps32
  go_wp2_with (go_at_call 35; refine (dcmp_calls _ _ _).mono ?_; rintro e w' ⟨rfl, hb⟩)
  go_ret
  exact ⟨rfl, (((Below.refl _ _).alloc (Nat.le_refl _) _).alloc (by simp) _).trans (hb.mono (by simp; omega))⟩

/-- Is x worse than y? -/
def worse (x y : Item) : Bool := if rcmp x y ≠ 0 then decide (rcmp x y < 0) else decide (lcmp y.id.l x.id.l < 0)

theorem below_calls (x y : Item) (kx : x.ok) (ky : y.ok) (w : World) :
    Calls Try.prog 24 #[.agg x.cells, .agg y.cells] w fun e w' => e = .returned (.bool (worse x y)) ∧ Below w.heap.size w w' := by
  go_enter Try.func24, Try.ntmps24
  go_wp2_with (first | (go_at_call 31; refine (cmp_calls _ _ kx ky _).mono ?_; rintro e w1 ⟨rfl, hb⟩; obtain ⟨hk, hc, hf, hz⟩ := bfacts hb; clear hc hf; try simp only [World.size_alloc, size_upd, World.size_drew] at hz) | (go_at_call 32; refine (dless_calls _ _ _).mono ?_; rintro e w2 ⟨rfl, hb2⟩))
  all_goals go_ret
  · refine ⟨?_, ?_⟩
    · have : rcmp x y ≠ 0 := by simp_all
      simp [worse, this]
    · (repeat' (first | exact Below.refl _ _ | (with_reducible refine Below.alloc ?_ ?_ _) | (with_reducible refine Below.drew ?_) | (with_reducible refine below_upd ?_ ?_ _) | (with_reducible refine Below.setCell ?_ ?_ _) | (with_reducible refine Below.trans ?_ (Below.mono (by assumption) ?_)) | ((try simp only [World.size_alloc, size_upd, World.size_drew, World.size_setCell] at *); omega)))
  · refine ⟨?_, ?_⟩
    · have : rcmp x y = 0 := by simp_all
      simp [worse, this]
    · (repeat' (first | exact Below.refl _ _ | (with_reducible refine Below.alloc ?_ ?_ _) | (with_reducible refine Below.drew ?_) | (with_reducible refine below_upd ?_ ?_ _) | (with_reducible refine Below.setCell ?_ ?_ _) | (with_reducible refine Below.trans ?_ (Below.mono (by assumption) ?_)) | ((try simp only [World.size_alloc, size_upd, World.size_drew, World.size_setCell] at *); omega)))

theorem above_calls (x y : Item) (kx : x.ok) (ky : y.ok) (w : World) :
    Calls Try.prog 25 #[.agg x.cells, .agg y.cells] w fun e w' => e = .returned (.bool (worse y x)) ∧ Below w.heap.size w w' := by
  go_enter Try.func25, Try.ntmps25
  go_wp2_with (first | (go_at_call 24; refine (below_calls _ _ ky kx _).mono ?_; rintro e w1 ⟨rfl, hb⟩))
  go_ret
  exact ⟨rfl, by (repeat' (first | exact Below.refl _ _ | (with_reducible refine Below.alloc ?_ ?_ _) | (with_reducible refine Below.drew ?_) | (with_reducible refine below_upd ?_ ?_ _) | (with_reducible refine Below.setCell ?_ ?_ _) | (with_reducible refine Below.trans ?_ (Below.mono (by assumption) ?_)) | ((try simp only [World.size_alloc, size_upd, World.size_drew, World.size_setCell] at *); omega)))⟩

theorem less_calls (x y : Item) (kx : x.ok) (ky : y.ok) (w : World) :
    Calls Try.prog 9 #[.agg x.cells, .agg y.cells] w fun e w' => e = .returned (.bool (worse x y)) ∧ Below w.heap.size w w' := by
  go_enter Try.func9, Try.ntmps9
  go_wp2_with (first | (go_at_call 24; refine (below_calls _ _ kx ky _).mono ?_; rintro e w1 ⟨rfl, hb⟩))
  go_ret
  exact ⟨rfl, by (repeat' (first | exact Below.refl _ _ | (with_reducible refine Below.alloc ?_ ?_ _) | (with_reducible refine Below.drew ?_) | (with_reducible refine below_upd ?_ ?_ _) | (with_reducible refine Below.setCell ?_ ?_ _) | (with_reducible refine Below.trans ?_ (Below.mono (by assumption) ?_)) | ((try simp only [World.size_alloc, size_upd, World.size_drew, World.size_setCell] at *); omega)))⟩

end Go.Proofs.Ytgjmnplpefkbhaa
