/-
  What the cells of a digest and of an item are; small facts on them. (Plain data; no program.)
-/
import Derived.WalkKit
import Derived.ProofKit
import Derived.Handy
namespace Go.Proofs.YtknhohgnilamcaaGreatDoor.Rt
set_option linter.unusedSimpArgs false
set_option linter.unusedVariables false
open Go

/-- A digest: 32 bytes. -/
structure Hash where
  l : List UInt8
  len : l.length = 32
  deriving DecidableEq

def bv (b : UInt8) : Value := .int .u8 (b.toNat : Int)
def Hash.cells (h : Hash) : Array Value := (h.l.map bv).toArray
theorem Hash.size (h : Hash) : h.cells.size = 32 := by simp [Hash.cells, h.len]
theorem Hash.all (h : Hash) : h.cells.extract 0 32 = h.cells := by
  have := h.size
  simp [← this]
theorem Hash.get? (h : Hash) (i : Nat) : h.cells[i]? = (h.l[i]?).map bv := by simp [Hash.cells]
theorem Hash.at (h : Hash) {i : Nat} (hi : i < h.l.length) : ∀ hh : i < h.cells.size, h.cells[i]'hh = .int .u8 (h.l[i].toNat : Int) := by
  intro hh
  have := h.get? i
  rw [Array.getElem?_eq_getElem hh, List.getElem?_eq_getElem hi] at this
  simpa [bv] using this
theorem bv_inj {a b : UInt8} (h : bv a = bv b) : a = b := by
  unfold bv at h
  simp only [Value.int.injEq, true_and] at h
  exact UInt8.toNat_inj.1 (by omega)
theorem Hash.cells_inj {g h : Hash} (e : g.cells = h.cells) : g = h := by
  obtain ⟨a, ha⟩ := g
  obtain ⟨b, hb⟩ := h
  have : a = b := by
    have e' : a.map bv = b.map bv := by simpa [Hash.cells] using e
    exact (List.map_inj_right (fun _ _ => bv_inj)).1 e'
  subst this; rfl

/-- An item of a queue. -/
structure Item where
  id : Hash
  fee : Int
  bytes : Int
  deriving DecidableEq
/-- its numbers are of their kinds -/
def Item.ok (x : Item) : Prop := 0 ≤ x.fee ∧ x.fee ≤ 18446744073709551615 ∧ -9223372036854775808 ≤ x.bytes ∧ x.bytes ≤ 9223372036854775807

def Item.cells (x : Item) : Array Value := x.id.cells ++ #[.int .u64 x.fee, .int .i64 x.bytes]
theorem Item.size (x : Item) : x.cells.size = 34 := by simp [Item.cells, Hash.size]
theorem Item.all (h : Item) : h.cells.extract 0 34 = h.cells := by
  have := h.size
  simp [← this]
theorem Item.fee_at (x : Item) : x.cells[32]? = some (.int .u64 x.fee) := by
  simp [Item.cells, Hash.size]
theorem Item.bytes_at (x : Item) : x.cells[33]? = some (.int .i64 x.bytes) := by
  simp [Item.cells, Hash.size]
theorem Item.fee_at' (x : Item) (h : 32 < x.cells.size) : x.cells[32] = .int .u64 x.fee := by
  have := x.fee_at
  rw [Array.getElem?_eq_getElem h] at this
  exact Option.some.inj this
theorem Item.bytes_at' (x : Item) (h : 33 < x.cells.size) : x.cells[33] = .int .i64 x.bytes := by
  have := x.bytes_at
  rw [Array.getElem?_eq_getElem h] at this
  exact Option.some.inj this
theorem Item.id_at (x : Item) : x.cells.extract 0 32 = x.id.cells := by
  have := x.id.size
  simp [Item.cells, Array.extract_append, this]
theorem Item.set_fee (x : Item) (n : Int) : x.cells.setIfInBounds 32 (.int .u64 n) = ({ x with fee := n } : Item).cells := by
  simp [Item.cells, Array.setIfInBounds_append, Hash.size]
theorem Item.set_bytes (x : Item) (n : Int) : x.cells.setIfInBounds 33 (.int .i64 n) = ({ x with bytes := n } : Item).cells := by
  simp [Item.cells, Array.setIfInBounds_append, Hash.size]

theorem Hash.shape (h : Hash) {v : Value} (hv : v ∈ h.cells) : ∃ n, v = .int .u8 n := by
  simp only [Hash.cells, List.mem_toArray, List.mem_map] at hv
  obtain ⟨x, _, rfl⟩ := hv
  exact ⟨_, rfl⟩
theorem Item.shape (x : Item) {v : Value} (hv : v ∈ x.cells) : ∃ k n, v = .int k n := by
  unfold Item.cells at hv
  rcases Array.mem_append.1 hv with h | h
  · obtain ⟨n, rfl⟩ := x.id.shape h
    exact ⟨_, _, rfl⟩
  · simp at h
    rcases h with rfl | rfl <;> exact ⟨_, _, rfl⟩
/-- bytes among cells -/
theorem bytes_in (cs : Array Value) (o n : Nat) (h : ∀ i, i < n → ∃ m : Int, cs[o + i]? = some (.int .u8 m) ∧ 0 ≤ m ∧ m ≤ 255) : ∃ l : List UInt8, l.length = n ∧ ∀ i, i < n → cs[o + i]? = (l[i]?).map bv := by
  induction n with
  | zero => exact ⟨[], rfl, fun i hi => absurd hi (Nat.not_lt_zero i)⟩
  | succ n ih =>
    obtain ⟨l, hl, hc⟩ := ih (fun i hi => h i (by omega))
    obtain ⟨m, hm, h0, h1⟩ := h n (by omega)
    refine ⟨l ++ [UInt8.ofNat m.toNat], by simp [hl], fun i hi => ?_⟩
    by_cases e : i < n
    · rw [hc i e, List.getElem?_append_left (by omega)]
    · have : i = n := by omega
      subst this
      rw [hm, List.getElem?_append_right (by omega), hl]
      simp only [Nat.sub_self, List.getElem?_cons_zero, Option.map_some, bv]
      congr 2
      have h2 : m.toNat < 256 := by omega
      have : (UInt8.ofNat m.toNat).toNat = m.toNat := by rw [UInt8.toNat_ofNat']; omega
      omega
def zeroHash : Hash := ⟨List.replicate 32 0, by simp⟩
def zeroItem : Item := ⟨zeroHash, 0, 0⟩

theorem i64_le (x : Int64) : -9223372036854775808 ≤ x.toInt := by have := x.le_toInt; omega
theorem i64_lt (x : Int64) : x.toInt ≤ 9223372036854775807 := by have := x.toInt_lt; omega
theorem u64_lt (x : UInt64) : (x.toNat : Int) ≤ 18446744073709551615 := by have := x.toNat_lt; omega

/-- the cells from a place on -/
def Row (w : World) (p : Addr) (vs : List Value) : Prop := ∀ j v, vs[j]? = some v → w.cell? (p.add j) = some v
theorem add_off (b o j : Nat) : (⟨b, o, none⟩ : Addr).add j = ⟨b, o + j, none⟩ := by
  unfold Addr.add; split
  · rename_i h; rw [h]; rfl
  · rfl
theorem row_new (w : World) (c : Array Value) (t : TypeId) : Row (w.alloc (.cells c t)) ⟨w.heap.size, 0, none⟩ c.toList := by
  intro j v h
  rw [add_off, Nat.zero_add, World.cell?_alloc_new]
  simpa using h
theorem Row.alloc {w : World} {b o : Nat} {vs : List Value} (h : Row w ⟨b, o, none⟩ vs) (hb : b < w.heap.size) (ob : Obj) : Row (w.alloc ob) ⟨b, o, none⟩ vs := by
  intro j v hv
  rw [add_off, World.cell?_alloc_lt _ _ _ hb, ← add_off]
  exact h j v hv
theorem Row.drew {w : World} {p : Addr} {vs : List Value} (h : Row w p vs) : Row w.drew p vs := h

theorem run_lb {P : Program} (w : World) : ∀ (l : List UInt8) (a : Addr) (acc : ByteArray), Row w a (l.map bv) →
    (Extern.Bytes.loadBytes a l.length acc).run P w = .ok ⟨acc.data ++ l.toArray⟩ w
  | [], a, acc, _ => by simp [Extern.Bytes.loadBytes]
  | x :: l, a, acc, h => by
    have h0 : w.cell? a = some (.int .u8 x.toNat) := by
      have := h 0 (bv x) (by simp)
      simpa [Addr.add, bv] using this
    have ih := run_lb (P := P) w l (a.add 1) (acc.push x) (fun j y hy => by
      have := h (j + 1) y (by simpa using hy)
      have e : (a.add 1).add j = a.add (j + 1) := by
        unfold Addr.add
        by_cases hj : j = 0
        · subst hj; simp
        · simp [hj]; omega
      rw [e]; exact this)
    have hx : ((x.toNat : Int).toNat).toUInt8 = x := by simp
    simp only [List.length_cons, Extern.Bytes.loadBytes, Sem.run_bind, run_load, h0, Result.andThen, hx]
    rw [ih]
    congr 1
    apply ByteArray.ext
    simp
theorem empty_data (l : List UInt8) : (⟨ByteArray.empty.data ++ l.toArray⟩ : ByteArray) = ⟨l.toArray⟩ := by
  congr 1
  show #[] ++ l.toArray = l.toArray
  simp

/-- Which one is the lesser, byte by byte. -/
def lcmp : List UInt8 → List UInt8 → Int
  | [], [] => 0
  | [], _ :: _ => -1
  | _ :: _, [] => 1
  | a :: r, b :: t => if a < b then -1 else if b < a then 1 else lcmp r t

open Extern.BytealgCompare in
theorem find_shift {p q : Nat → Bool} (n : Nat) (h0 : p 0 = false) (h : ∀ i, p (i + 1) = q i) : (List.range (n + 1)).find? p = ((List.range n).find? q).map (· + 1) := by
  rw [List.range_succ_eq_map, List.find?_cons, h0, List.find?_map]
  show Option.map Nat.succ _ = Option.map _ _
  rw [show p ∘ Nat.succ = q from funext h]

open Extern.BytealgCompare in
theorem cmp_lcmp : ∀ (a b : List UInt8), cmp ⟨a.toArray⟩ ⟨b.toArray⟩ = lcmp a b := by
  have gt : ∀ (l : List UInt8) (i : Nat), (⟨l.toArray⟩ : ByteArray)[i]! = l[i]! := fun l i => by
    by_cases h : i < l.length
    · have h' : i < (⟨l.toArray⟩ : ByteArray).size := h
      rw [getElem!_pos (⟨l.toArray⟩ : ByteArray) i h', getElem!_pos l i h]
      rfl
    · have h' : ¬ i < (⟨l.toArray⟩ : ByteArray).size := h
      rw [getElem!_neg (⟨l.toArray⟩ : ByteArray) i h', getElem!_neg l i h]
  have sz : ∀ l : List UInt8, (⟨l.toArray⟩ : ByteArray).size = l.length := fun l => rfl
  intro a
  induction a with
  | nil =>
    intro b
    unfold cmp
    simp only [sz, List.length_nil, Nat.zero_min, List.range_zero, List.find?_nil]
    cases b <;> simp [lcmp]
  | cons x r ih =>
    intro b
    cases b with
    | nil =>
      unfold cmp
      simp [sz, lcmp]
    | cons y t =>
      have IH := ih t
      unfold cmp at IH ⊢
      simp only [sz, gt, List.length_cons, Nat.add_min_add_right] at IH ⊢
      by_cases e : x = y
      · subst e
        rw [find_shift (q := fun i => r[i]! != t[i]!) (min r.length t.length) (by simp) (fun i => by simp)]
        have l1 : lcmp (x :: r) (x :: t) = lcmp r t := by simp [lcmp, UInt8.lt_irrefl]
        rw [l1, ← IH]
        cases (List.range (min r.length t.length)).find? fun i => r[i]! != t[i]! with
        | none => simp
        | some i => simp
      · rw [List.range_succ_eq_map, List.find?_cons]
        have h0 : ((x :: r)[0]! != (y :: t)[0]!) = true := by simpa using e
        rw [h0]
        simp only [lcmp]
        by_cases h : x < y
        · simp [h]
        · have : y < x := by
            rcases UInt8.lt_or_lt_of_ne e with h1 | h1
            · exact absurd h1 h
            · exact h1
          simp [h, this]

end Go.Proofs.YtknhohgnilamcaaGreatDoor.Rt
