/-
  The contracts of the functions of package rate that hold two items against each other.
-/
import Derived.Test.YtknhohgnilamcaaGreatDoorProg
import Derived.Test.YtknhohgnilamcaaGreatDoorBasR
import Derived.Test.YtknhohgnilamcaaGreatDoorCmp
import Derived.Test.YtknhohgnilamcaaGreatDoorEnOne
import Derived.Shelf.Bits.Mul64
import Derived.Lib.MinMax
import Derived.Lib.Hide
namespace Go.Proofs.YtknhohgnilamcaaGreatDoor.Rt
set_option linter.unusedSimpArgs false
set_option linter.unusedVariables false
open Go Go.RowKit Go.BigFrame Go.Shelf Go.Proofs.YtknhohgnilamcaaGreatDoor

def mul_ren : Go.Shelf.Ren := ⟨fun | 264 => 172 | n => n, fun | 53 => 37 | 46 => 93 | n => n, fun | n => n⟩
theorem mul_lays : Go.Proofs.Lays.n264 Tryz.prog mul_ren := {
  mixed := by kernel_rfl
  f264 := Tryz.func172.trans (congrArg some (by kernel_rfl))
  t46 := Tryz.underlying93
  a46 := Tryz.isAgg93
  z46 := Tryz.sizeOf93
  v46 := Tryz.zeroValue93
  t53 := Tryz.underlying37
  a53 := Tryz.isAgg37
  z53 := Tryz.sizeOf37
  v53 := Tryz.zeroValue37 }

def M64 : Int := 18446744073709551616
def mhi (a b : Int) : Int := a * b / M64
def mlo (a b : Int) : Int := a * b % M64

theorem mul_calls (a b : Int) (ha : 0 ≤ a) (ha' : a ≤ 18446744073709551615) (hb : 0 ≤ b) (hb' : b ≤ 18446744073709551615) (w : World) :
    Calls Tryz.prog 172 #[.int .u64 a, .int .u64 b] w fun e w' => e = .returned (.tuple #[.int .u64 (mhi a b), .int .u64 (mlo a b)]) ∧ w = w' := by
  obtain ⟨x, rfl⟩ := Int.eq_ofNat_of_zero_le ha
  obtain ⟨y, rfl⟩ := Int.eq_ofNat_of_zero_le hb
  refine (Any.bits_Mul64 mul_lays x y (by omega) (by omega) w).mono fun e w' ⟨h1, h2⟩ => ⟨?_, h2.symm⟩
  rw [h1]
  simp [mhi, mlo, M64]

theorem ret_int {k : IntKind} {a b : Int} (h : a = b) : Ending.returned (.int k a) = .returned (.int k b) := by rw [h]

/-- Which has the lesser fee for its bytes. -/
def rnum (x y : Item) : Int := x.fee * max y.bytes 1
def rcmp (x y : Item) : Int := if rnum x y < rnum y x then -1 else if rnum x y = rnum y x then 0 else 1

theorem two_parts (p q : Int) : (p / M64 < q / M64 ∨ (p / M64 = q / M64 ∧ p % M64 < q % M64)) ↔ p < q := by unfold M64; omega
theorem two_same (p q : Int) : (p / M64 = q / M64 ∧ p % M64 = q % M64) ↔ p = q := by unfold M64; omega

theorem rc_m1 {p q : Int} (h : p < q) : (if p < q then -1 else if p = q then 0 else 1 : Int) = -1 := if_pos h
theorem rc_0 {p q : Int} (h : p = q) : (if p < q then -1 else if p = q then 0 else 1 : Int) = 0 := by rw [if_neg (by omega), if_pos h]
theorem rc_1 {p q : Int} (h : ¬ p < q) (h' : ¬ p = q) : (if p < q then -1 else if p = q then 0 else 1 : Int) = 1 := by rw [if_neg h, if_neg h']

theorem ld_hash (b o : Nat) (w : World) : (LD 26 (.pointer (some ⟨b, o, none⟩))).run Tryz.prog w = loadBlk Tryz.prog b o 32 w (blk w b) := LD_agg Tryz.isAgg26 Tryz.sizeOf26 b o w
theorem st_hash (b o : Nat) (vs : Array Value) (w : World) : (ST 26 (.pointer (some ⟨b, o, none⟩)) (.agg vs)).run Tryz.prog w = storeBlk Tryz.prog 26 b o 32 vs w (blk w b) := ST_agg Tryz.sizeOf26 b o vs w
theorem ld_item (b o : Nat) (w : World) : (LD 127 (.pointer (some ⟨b, o, none⟩))).run Tryz.prog w = loadBlk Tryz.prog b o 34 w (blk w b) := LD_agg Tryz.isAgg127 Tryz.sizeOf127 b o w
theorem st_item (b o : Nat) (vs : Array Value) (w : World) : (ST 127 (.pointer (some ⟨b, o, none⟩)) (.agg vs)).run Tryz.prog w = storeBlk Tryz.prog 127 b o 34 vs w (blk w b) := ST_agg Tryz.sizeOf127 b o vs w
theorem flat_hash (h : Hash) : Flat h.cells := fun v hv => by
  obtain ⟨n, rfl⟩ := h.shape hv
  exact ⟨fun x => by simp, fun x => by simp⟩
theorem flat_item (h : Item) : Flat h.cells := fun v hv => by
  obtain ⟨k, n, rfl⟩ := h.shape hv
  exact ⟨fun x => by simp, fun x => by simp⟩
theorem splice_hash (g h : Hash) : splice g.cells 0 h.cells = h.cells := splice_all _ _ (by rw [g.size, h.size])
theorem splice_item (g h : Item) : splice g.cells 0 h.cells = h.cells := splice_all _ _ (by rw [g.size, h.size])
theorem splice_id (g : Item) (h : Hash) : splice g.cells 0 h.cells = ({ g with id := h } : Item).cells := by
  have e : g.cells.extract 32 34 = #[.int .u64 g.fee, .int .i64 g.bytes] := by
    have := g.id.size; simp [Item.cells, Array.extract_append, this]
  simp only [splice, Array.extract_zero, Nat.zero_add, h.size, g.size, e]
  simp [Item.cells]
theorem ld_item_of {w : World} {b : Nat} {x : Item} (h : blk w b = some (.cells x.cells 127)) : (Instr.loadAt 127 (.pointer (some ⟨b, 0, none⟩))).run Tryz.prog w = .ok (.agg x.cells) w := by
  have := ld_item b 0 w
  rw [h, loadBlk_cells, if_pos (by rw [x.size]; omega), Nat.zero_add, x.all] at this
  exact this
theorem ld_id_of {w : World} {b : Nat} {x : Item} (h : blk w b = some (.cells x.cells 127)) : (Instr.loadAt 26 (.pointer (some ⟨b, 0, none⟩))).run Tryz.prog w = .ok (.agg x.id.cells) w := by
  have := ld_hash b 0 w
  rw [h, loadBlk_cells, if_pos (by rw [x.size]; omega), Nat.zero_add, x.id_at] at this
  exact this
theorem ld_fee_of {w : World} {b : Nat} {x : Item} (h : blk w b = some (.cells x.cells 127)) : (Instr.loadAt 37 (.pointer (some ⟨b, 32, none⟩))).run Tryz.prog w = .ok (.int .u64 x.fee) w := by
  have := LD_cell (P := Tryz.prog) (t := 37) b 32 w Tryz.isAgg37
  rw [h, loadCell_cells, x.fee_at, cellOr_some] at this
  exact this
theorem al_item (w : World) : (AL 127).run Tryz.prog w = .ok (.pointer (some ⟨w.heap.size, 0, none⟩)) (w.alloc (.cells zeroItem.cells 127)) := AL_agg (fun w => by kernel_rfl) w
theorem bd_hash0 (w : World) : (BD 26 #[]).run Tryz.prog w = .ok (.agg zeroHash.cells) w := by kernel_rfl
attribute [local go_sem ↓] ex_load ex_store ex_alloc
attribute [local go_sem] LD_cell ST_cell AL_plain loadCell_cells cellOr_some storeCell_cells loadBlk_cells storeBlk_cells blk_alloc blk_drew blk_upd oupd_cells upd_alloc upd_drew size_upd
attribute [local go_sem] flat_hash flat_item splice_hash splice_item splice_id al_item
attribute [local go_sem] ld_hash ld_item st_hash st_item Hash.all Item.all Item.fee_at Item.bytes_at Item.id_at Item.size Hash.size Item.fee_at' Item.bytes_at'

theorem cmp_calls (x y : Item) (kx : x.ok) (ky : y.ok) (w : World) :
    Calls Tryz.prog 137 #[.agg x.cells, .agg y.cells] w fun e w' => e = .returned (.int .i64 (rcmp x y)) ∧ Below w.heap.size w w' := by
  obtain ⟨gx, gx', hx, hx'⟩ := kx
  obtain ⟨gy, gy', hy, hy'⟩ := ky
  go_enter Tryz.func137, Tryz.ntmps137
  go_wp2_with (go_at_call 172; refine (mul_calls _ _ (by omega) (by omega) (by omega) (by omega) _).mono ?_; rintro e w' ⟨rfl, rfl⟩)
  all_goals
    go_ret
    refine ⟨ret_int ?_, (((Below.refl _ _).alloc (Nat.le_refl _) _).alloc (by simp) _)⟩
    have T1 := two_parts (rnum x y) (rnum y x)
    have T2 := two_same (rnum x y) (rnum y x)
    unfold rnum at T1 T2
    try unfold mhi at *
    try unfold mlo at *
    try simp only [beq_iff_eq, beq_eq_false_iff_ne, ne_eq] at *
    unfold rcmp
    first | exact (rc_m1 (by unfold rnum; omega)).symm | exact (rc_0 (by unfold rnum; omega)).symm | exact (rc_1 (by unfold rnum; omega) (by unfold rnum; omega)).symm

/-! digests -/

def toHB (g : Hash) : Ir.HB := ⟨g.l.map (·.toNat), by simp [g.len], fun x hx => by
  obtain ⟨b, _, rfl⟩ := List.mem_map.1 hx
  exact b.toNat_lt⟩
theorem toHB_enc (g : Hash) : (toHB g).enc.toArray = g.cells := by
  unfold toHB Ir.HB.enc Hash.cells
  simp only [List.map_map]
  rfl
theorem cmpN_lcmp : ∀ (a b : List UInt8), Ir.cmpN (a.map (·.toNat)) (b.map (·.toNat)) = lcmp a b
  | [], [] => rfl
  | [], _ :: _ => rfl
  | _ :: _, [] => rfl
  | x :: a, y :: b => by
    rw [List.map_cons, List.map_cons, Ir.cmpN_cons, cmpN_lcmp a b]
    simp only [lcmp, UInt8.lt_iff_toNat_lt]
theorem below_grow_drew (q : Nat) (os' : Array Obj) (w : World) : Below w.heap.size w (Go.Sort.grow (w.drewN q) os') :=
  ⟨rfl, rfl, rfl, by show w.heap.size ≤ (w.heap ++ os').size; simp, fun k hk => by
    show (w.heap ++ os')[k]? = w.heap[k]?
    exact Array.getElem?_append_left hk⟩
theorem dcmp_calls (g h : Hash) (w : World) :
    Calls Tryz.prog 90 #[.agg g.cells, .agg h.cells] w fun e w' => e = .returned (.int .i64 (lcmp g.l h.l)) ∧ Below w.heap.size w w' := by
  have h1 := Ir.dcmp_calls (toHB g) (toHB h) w
  rw [toHB_enc, toHB_enc] at h1
  refine h1.mono ?_
  rintro e w' ⟨rfl, q, os', rfl⟩
  refine ⟨ret_int (cmpN_lcmp g.l h.l), ?_⟩
  exact below_grow_drew q os' w

theorem dless_calls (g h : Hash) (w : World) :
    Calls Tryz.prog 138 #[.agg g.cells, .agg h.cells] w fun e w' => e = .returned (.bool (decide (lcmp g.l h.l < 0))) ∧ Below w.heap.size w w' := by
  go_enter Tryz.func138, Tryz.ntmps138
  go_wp2_with (go_at_call 90; refine (dcmp_calls _ _ _).mono ?_; rintro e w' ⟨rfl, hb⟩)
  go_ret
  exact ⟨rfl, (((Below.refl _ _).alloc (Nat.le_refl _) _).alloc (by simp) _).trans (hb.mono (by simp; omega))⟩

/-- Is x worse than y? -/
def worse (x y : Item) : Bool := if rcmp x y ≠ 0 then decide (rcmp x y < 0) else decide (lcmp y.id.l x.id.l < 0)

theorem below_calls (x y : Item) (kx : x.ok) (ky : y.ok) (w : World) :
    Calls Tryz.prog 87 #[.agg x.cells, .agg y.cells] w fun e w' => e = .returned (.bool (worse x y)) ∧ Below w.heap.size w w' := by
  go_enter Tryz.func87, Tryz.ntmps87
  go_wp2_with (first | (go_at_call 137; refine (cmp_calls _ _ kx ky _).mono ?_; rintro e w1 ⟨rfl, hb⟩; obtain ⟨hk, hc, hf, hz⟩ := bfacts hb; clear hc hf; try simp only [World.size_alloc, size_upd, World.size_drew] at hz) | (go_at_call 138; refine (dless_calls _ _ _).mono ?_; rintro e w2 ⟨rfl, hb2⟩))
  all_goals go_ret
  · refine ⟨?_, ?_⟩
    · have : rcmp x y ≠ 0 := by simp_all
      simp [worse, this]
    · (repeat' (first | exact Below.refl _ _ | (with_reducible refine Below.alloc ?_ ?_ _) | (with_reducible refine Below.drew ?_) | (with_reducible refine below_upd ?_ ?_ _) | (with_reducible refine Below.setCell ?_ ?_ _) | (with_reducible refine Below.trans ?_ (Below.mono (by assumption) ?_)) | ((try simp only [World.size_alloc, size_upd, World.size_drew, World.size_setCell] at *); omega)))
  · refine ⟨?_, ?_⟩
    · have : rcmp x y = 0 := by simp_all
      simp [worse, this]
    · (repeat' (first | exact Below.refl _ _ | (with_reducible refine Below.alloc ?_ ?_ _) | (with_reducible refine Below.drew ?_) | (with_reducible refine below_upd ?_ ?_ _) | (with_reducible refine Below.setCell ?_ ?_ _) | (with_reducible refine Below.trans ?_ (Below.mono (by assumption) ?_)) | ((try simp only [World.size_alloc, size_upd, World.size_drew, World.size_setCell] at *); omega)))

theorem above_calls (x y : Item) (kx : x.ok) (ky : y.ok) (w : World) :
    Calls Tryz.prog 86 #[.agg x.cells, .agg y.cells] w fun e w' => e = .returned (.bool (worse y x)) ∧ Below w.heap.size w w' := by
  go_enter Tryz.func86, Tryz.ntmps86
  go_wp2_with (first | (go_at_call 87; refine (below_calls _ _ ky kx _).mono ?_; rintro e w1 ⟨rfl, hb⟩))
  go_ret
  exact ⟨rfl, by (repeat' (first | exact Below.refl _ _ | (with_reducible refine Below.alloc ?_ ?_ _) | (with_reducible refine Below.drew ?_) | (with_reducible refine below_upd ?_ ?_ _) | (with_reducible refine Below.setCell ?_ ?_ _) | (with_reducible refine Below.trans ?_ (Below.mono (by assumption) ?_)) | ((try simp only [World.size_alloc, size_upd, World.size_drew, World.size_setCell] at *); omega)))⟩

end Go.Proofs.YtknhohgnilamcaaGreatDoor.Rt
