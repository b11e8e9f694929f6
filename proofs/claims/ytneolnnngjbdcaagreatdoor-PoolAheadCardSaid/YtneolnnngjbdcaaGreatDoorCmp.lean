/-
  digest.Compare of two hashes: exactly what it does to the world.
-/
import Derived.Test.YtneolnnngjbdcaaGreatDoorBca
import Derived.Test.YtneolnnngjbdcaaGreatDoorSeqA
import Derived.Shelf.SlSortCmp.NoneTotal
import Derived.Deep.RegionWith
namespace Go.Proofs.YtneolnnngjbdcaaGreatDoor.Ir
set_option linter.unusedVariables false
set_option linter.unusedSimpArgs false
open Go Go.Proofs Go.Proofs.YtneolnnngjbdcaaGreatDoor Go.RowKit Go.Shelf Go.Sort

/-- a hash: 32 bytes -/
structure HB where
  l : List Nat
  len : l.length = 32
  lt : ∀ x ∈ l, x < 256
instance : Inhabited HB := ⟨⟨List.replicate 32 0, by simp, by intro x hx; simp at hx; omega⟩⟩
def HB.enc (x : HB) : List Value := x.l.map fun n => .int .u8 (.ofNat n)

theorem HB.get (x : HB) {i n : Nat} (h : x.l[i]? = some n) : x.enc.toArray[i]? = some (.int .u8 (.ofNat n)) := by simp [HB.enc, h]
theorem HB.bytes (x : HB) {V : World} {b : Nat} {e : TypeId} {fr : Nat × Nat} (h : V.heap[b]? = some (.cells x.enc.toArray e fr)) : bytesV V (.slice (some ⟨b, 0, none⟩) 32 32) x.l := by
  refine ⟨⟨b, 0, none⟩, 32, by rw [x.len], .inr rfl, fun i n hi => ?_⟩
  rw [cell?_blk h, Nat.zero_add]
  exact x.get hi

set_option maxRecDepth 100000 in
set_option maxHeartbeats 1000000 in
theorem dcmp_calls (x y : HB) (W : World) : Calls Tryz.prog 61 #[.agg x.enc.toArray, .agg y.enc.toArray] W fun e w' => e = .returned (.int .i64 (cmpN x.l y.l)) ∧ ∃ q os', w' = grow (W.drewN q) os' := by
  have hx : x.enc.toArray.size = 32 := by simp [HB.enc, x.len]
  have hy : y.enc.toArray.size = 32 := by simp [HB.enc, y.len]
  have hbx : ∀ V : World, V.heap = ((W.alloc (.cells x.enc.toArray 30)).alloc (.cells y.enc.toArray 30)).heap → bytesV V (.slice (some ⟨W.heap.size, 0, none⟩) 32 32) x.l := fun V hV => x.bytes (by rw [hV]; exact (Below.heap_alloc _ _ _ (by simp)).trans (World.alloc_heap_new W _))
  have hby : ∀ V : World, V.heap = ((W.alloc (.cells x.enc.toArray 30)).alloc (.cells y.enc.toArray 30)).heap → bytesV V (.slice (some ⟨W.heap.size + 1, 0, none⟩) 32 32) y.l := fun V hV => y.bytes (by
    rw [hV]
    have := World.alloc_heap_new (W.alloc (.cells x.enc.toArray 30)) (.cells y.enc.toArray 30)
    rwa [World.size_alloc] at this)
  have hcon := fun V hV => bcmp_calls (hbx V hV) (hby V hV) x.lt y.lt
  clear hbx hby
  generalize x.enc.toArray = X at hx hcon ⊢
  generalize y.enc.toArray = Y at hy hcon ⊢
  generalize cmpN x.l y.l = r at hcon ⊢
  have hc := hcon ((W.alloc (.cells X 30)).alloc (.cells Y 30)).drew rfl
  clear hcon
  go_enter Tryz.func61, Tryz.ntmps61
  go_wp2_with fail
  go_region_with (go_at_call 91; refine hc.mono ?_; rintro e w' ⟨rfl, rfl⟩)
  go_wp2
  go_ret
  exact ⟨rfl, 1, _, by rw [alloc_eq_grow, alloc_eq_grow, grow_grow]; rfl⟩
theorem dcmp_lays (blk off size : Nat) (w : World) : CmpLays Tryz.prog 61 #[] HB.enc 32 (fun x y => cmpN x.l y.l) blk off size w :=
  fun _ _ _ _ x y => dcmp_calls x y _

/-- a row of bytes as a number -/
def nOf : List Nat → Nat | [] => 0 | x :: l => x * 256 ^ l.length + nOf l
theorem nOf_lt : ∀ l : List Nat, (∀ x ∈ l, x < 256) → nOf l < 256 ^ l.length
  | [], _ => by simp [nOf]
  | x :: l, h => by
    have h1 := nOf_lt l (fun y hy => h y (by simp [hy]))
    have h2 := h x (by simp)
    simp only [nOf, List.length_cons, Nat.pow_succ]
    have : x * 256 ^ l.length + 256 ^ l.length ≤ 256 * 256 ^ l.length := by rw [← Nat.succ_mul]; exact Nat.mul_le_mul_right _ h2
    rw [Nat.mul_comm (256 ^ l.length) 256]
    omega
theorem nOf_less {x y m n p : Nat} (h : x < y) (hm : m < p) : x * p + m < y * p + n := by
  have : (x + 1) * p ≤ y * p := Nat.mul_le_mul_right _ h
  rw [Nat.succ_mul] at this
  omega
theorem cmpN_cons (x y : Nat) (a b : List Nat) : cmpN (x :: a) (y :: b) = if x < y then -1 else if y < x then 1 else cmpN a b := by
  show (match Nat.blt x y with | true => (.negSucc 0 : Int) | false => (match Nat.blt y x with | true => .ofNat 1 | false => cmpN a b)) = _
  rw [blt_eq, blt_eq]
  by_cases h1 : x < y
  · simp [h1]
  · by_cases h2 : y < x <;> simp [h1, h2]
theorem cmpN_num : ∀ (a b : List Nat), a.length = b.length → (∀ x ∈ a, x < 256) → (∀ x ∈ b, x < 256) → (cmpN a b < 0 ↔ nOf a < nOf b)
  | [], [], _, _, _ => by
    show ((0 : Int) < 0 ↔ _)
    simp [nOf]
  | [], _ :: _, h, _, _ => by simp at h
  | _ :: _, [], h, _, _ => by simp at h
  | x :: a, y :: b, h, ha, hb => by
    have hl : a.length = b.length := by simpa using h
    have ih := cmpN_num a b hl (fun z hz => ha z (by simp [hz])) (fun z hz => hb z (by simp [hz]))
    have h1 := nOf_lt a (fun z hz => ha z (by simp [hz]))
    have h2 := nOf_lt b (fun z hz => hb z (by simp [hz]))
    rw [cmpN_cons]
    simp only [nOf]
    rw [hl] at h1 ⊢
    by_cases c1 : x < y
    · rw [if_pos c1]
      exact ⟨fun _ => nOf_less c1 h1, fun _ => by decide⟩
    · rw [if_neg c1]
      by_cases c2 : y < x
      · rw [if_pos c2]
        have := nOf_less (n := nOf a) c2 h2
        exact ⟨fun h => absurd h (by decide), fun h => by omega⟩
      · rw [if_neg c2, ih]
        have : x = y := by omega
        subst this
        omega
theorem nOf_inj : ∀ (a b : List Nat), a.length = b.length → (∀ x ∈ a, x < 256) → (∀ x ∈ b, x < 256) → nOf a = nOf b → a = b
  | [], [], _, _, _, _ => rfl
  | [], _ :: _, h, _, _, _ => by simp at h
  | _ :: _, [], h, _, _, _ => by simp at h
  | x :: a, y :: b, h, ha, hb, e => by
    have hl : a.length = b.length := by simpa using h
    have h1 := nOf_lt a (fun z hz => ha z (by simp [hz]))
    have h2 := nOf_lt b (fun z hz => hb z (by simp [hz]))
    simp only [nOf] at e
    rw [hl] at h1 e
    have hxy : x = y := by
      rcases Nat.lt_trichotomy x y with c | c | c
      · have := nOf_less (n := nOf b) c h1; omega
      · exact c
      · have := nOf_less (n := nOf a) c h2; omega
    subst hxy
    rw [nOf_inj a b hl (fun z hz => ha z (by simp [hz])) (fun z hz => hb z (by simp [hz])) (by omega)]
theorem HB.ext {x y : HB} (h : x.l = y.l) : x = y := by
  cases x; cases y; cases h; rfl
noncomputable def dcf (x y : HB) : Int := cmpN x.l y.l
theorem dcf_lt (x y : HB) : ltOf dcf x y = decide (nOf x.l < nOf y.l) := by
  have := cmpN_num x.l y.l (by rw [x.len, y.len]) x.lt y.lt
  unfold ltOf dcf
  simp only [decide_eq_decide]
  exact this
theorem dcf_swo : SWO (ltOf dcf) where
  irrefl x := by rw [dcf_lt]; simp
  trans x y z h1 h2 := by rw [dcf_lt] at *; simp at *; omega
  ntrans x y z h1 h2 := by rw [dcf_lt] at *; simp at *; omega
theorem dcf_total (x y : HB) (h1 : ltOf dcf x y = false) (h2 : ltOf dcf y x = false) : x = y := by
  rw [dcf_lt] at h1 h2
  simp at h1 h2
  exact HB.ext (nOf_inj _ _ (by rw [x.len, y.len]) x.lt y.lt (by omega))
end Go.Proofs.YtneolnnngjbdcaaGreatDoor.Ir
