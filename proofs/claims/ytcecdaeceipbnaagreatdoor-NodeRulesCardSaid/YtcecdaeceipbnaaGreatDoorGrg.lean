/-
  slices.Grow of a nil row, whatever its elements, as a contract of the machine (over whatever laying of the shelf's Lays8.n4).
-/
import Derived.Shelf.Spec.SlicesGrow
import Derived.Test.YtcecdaeceipbnaaGreatDoorProg
import Derived.Test.YtcecdaeceipbnaaGreatDoorEnFour
namespace Go.Proofs.YtcecdaeceipbnaaGreatDoor
set_option linter.unusedVariables false
set_option maxRecDepth 100000
open Go Go.Proofs.YtcecdaeceipbnaaGreatDoor Go.RowKit

noncomputable def ggSpec (es : Nat) (vs : List V) (σ : St) : Option (V × St) := match vs with
  | [.nils, .int .i64 (.ofNat n)] => (match Nat.ble n 1000000 with
    | true => (match n with
      | 0 => some (.nils, σ)
      | _ + 1 => some (.slice σ.nx 0 0 none es, ⟨T.set (.cells [] [] false false) σ.nx σ.h, σ.nx.succ⟩))
    | false => none)
  | _ => none
theorem gg_grow {ρ : Go.Shelf.Ren} (L : Go.Proofs.Lays8.n4 Tryz.prog ρ) {i0 : TypeInfo} {z : Value} {es : Nat} (hi0 : Tryz.prog.info? (ρ.t 25) = some i0) (hz0 : i0.zero = some z) (hs0 : i0.size = es) (hz : z.cells.size = es) (he : 0 < es) (hb0 : i0.bytes ≤ 10000)
    (k : Nat) (hk : 0 < k) (hk2 : k ≤ 1000001) (w : World) : Calls Tryz.prog (ρ.f 4) #[.slice none 0 0, .int .i64 (k : Nat)] w fun e w' => ∃ (C : Array Value) (g : Nat), C.size = g * es ∧ e = .returned (.slice (some ⟨w.heap.size, 0, none⟩) 0 g) ∧ w' = w.drew.alloc (.cells C (ρ.t 25)) := by
  have hm : (0 + k) * i0.bytes ≤ 1000001 * 10000 := Nat.mul_le_mul (by omega) hb0
  have h := Any8.slices_Grow_grow L i0 z hi0 hz0 (by rw [hs0]; exact he) none 0 0 k [] w (Nat.le_refl _) (by omega) (by omega) (by omega) (by rw [Nat.zero_mul]; rfl) (fun _ => rfl) (fun a h => by cases h)
  have hG : 0 + k ≤ grownCap w (0 + k) 0 (ρ.t 25) := grownCap_ge w _ _ _
  generalize grownCap w (0 + k) 0 (ρ.t 25) = G at hG h
  refine h.mono ?_
  rintro e w' ⟨h1, h2⟩
  refine ⟨_, G, ?_, h1, h2⟩
  rw [Array.size_append, Array.size_append, size_zeroCells, size_zeroCells, hz]
  show 0 + (0 + k - 0) * es + (G - (0 + k)) * es = G * es
  rw [Nat.zero_add, ← Nat.add_mul]
  congr 1
  omega
theorem gg_ok {ρ : Go.Shelf.Ren} (L : Go.Proofs.Lays8.n4 Tryz.prog ρ) {i0 : TypeInfo} {z : Value} {es : Nat} (hi0 : Tryz.prog.info? (ρ.t 25) = some i0) (hz0 : i0.zero = some z) (hs0 : i0.size = es) (hz : z.cells.size = es) (he : 0 < es) (hb0 : i0.bytes ≤ 10000)
    {vs : List V} {σ : St} {v : V} {σ' : St} (h : ggSpec es vs σ = some (v, σ')) {ι : Nm} {w : World} {args : Array Value} (R : Rep ι σ w) (hv : VRs ι vs args.toList) : Calls Tryz.prog (ρ.f 4) args w (Post ι σ w v σ') := by
  unfold ggSpec at h
  split at h
  · rename_i n
    split at h
    · rename_i hn
      have hn : n ≤ 1000000 := Nat.le_of_ble_eq_true hn
      obtain ⟨al⟩ := args
      have hl : 2 = al.length := hv.1
      match al, hl, hv with
      | [x, y], _, hv =>
        have hx := hv.head
        have hy := hv.tail.head
        have hxv : x = .slice none 0 0 := by cases hx; rfl
        have hyv : y = .int .i64 (n : Nat) := by cases hy; rfl
        subst hxv; subst hyv
        cases n with
        | zero =>
          cases h
          refine (Any8.slices_Grow_room L none 0 0 0 w (by omega) (by omega) (by omega) (by omega)).mono ?_
          rintro e w' ⟨rfl, rfl⟩
          exact ⟨ι, _, rfl, .nils, R, ⟨.refl ι, fun _ _ => rfl, Nat.le_refl _, Nat.le_refl _, rfl, rfl, rfl, fun r hr _ => rfl, fun _ _ h => h, fun x y h1 h2 => by rw [h2] at h1; cases h1⟩⟩
        | succ m =>
          cases h
          have hk : m + 1 ≤ 1000001 := by omega
          have hg := gg_grow L hi0 hz0 hs0 hz he hb0 (m + 1) (Nat.succ_pos m) hk w
          clear hn
          refine hg.mono ?_
          rintro e w' ⟨C, g, hC, rfl, rfl⟩
          have hb : Below w.heap.size w (w.drew.alloc (.cells C (ρ.t 25))) := (Below.refl _ w).drew.alloc (Nat.le_refl _) _
          have hm := R.meet hb (g := w.heap.size) (c := C) (Nat.le_refl _) (l := []) (e := ρ.t 25) (by show (w.heap.push _)[w.heap.size]? = _; simp) ⟨by simp, fun i a b ha => by simp at ha⟩ (Nat.zero_le _)
          refine ⟨_, _, rfl, ?_, hm.1, hm.2⟩
          exact .slice _ _ _ _ _ ⟨w.heap.size, 0, C.size, 0⟩ _ _ (nmSet_self _ _ _) rfl (fun _ hn => by cases hn) (Nat.zero_le _) (fun _ => rfl) (by show 0 + 0 + g * es ≤ C.size; omega)
    · cases h
  · cases h
end Go.Proofs.YtcecdaeceipbnaaGreatDoor
