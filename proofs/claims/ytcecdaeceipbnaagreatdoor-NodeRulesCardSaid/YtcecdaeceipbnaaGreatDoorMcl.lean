/-
  maps.Clone as a contract of the machine.
-/
import Derived.Test.YtcecdaeceipbnaaGreatDoorMcL
import Derived.Test.YtcecdaeceipbnaaGreatDoorEnFour
namespace Go.Proofs.YtcecdaeceipbnaaGreatDoor
set_option linter.unusedVariables false
set_option maxRecDepth 100000
open Go Go.Proofs.YtcecdaeceipbnaaGreatDoor Go.RowKit

theorem Rep.copyMap {ι : Nm} {σ : St} {w : World} (R : Rep ι σ w) {p : Pos} {es : List ME} {ck : Nat} {ks : KSh} (hp : T.get p σ.h = some (.map es ck ks)) {pl : Pl} {es' : Array MapEntry} (hι : ι p = some pl) (hb : w.heap[pl.blk]? = some (.map es' ck)) :
    Rep (nmSet ι σ.nx ⟨w.heap.size, 0, 0, 1⟩) ⟨T.set (.map es ck ks) σ.nx σ.h, σ.nx.succ⟩ (w.alloc (.map es' ck)) ∧
    G σ.nx.nat ι σ w (nmSet ι σ.nx ⟨w.heap.size, 0, 0, 1⟩) ⟨T.set (.map es ck ks) σ.nx σ.h, σ.nx.succ⟩ (w.alloc (.map es' ck)) := by
  obtain ⟨h1, h2⟩ := R.fresh
  have hn := Pos.succ_nat σ.nx
  have hx : Ext ι (nmSet ι σ.nx ⟨w.heap.size, 0, 0, 1⟩) := nmSet_ext h1
  obtain ⟨pl2, es2, k1, k2, k3, k4, k5, k6, k7⟩ := R.ob p _ hp
  rw [hι] at k1; cases k1
  rw [hb] at k3; cases k3
  refine R.push (nx := σ.nx.succ) h1 h2 (by omega) (by omega) (fun q hq => by cases hq) ?_ ?_ (Nat.le_refl _)
  · exact ⟨_, es', nmSet_self _ _ _, rfl, by rw [heap_alloc_if, if_pos rfl], k4, fun i x y hx' hy => ⟨(k5 i x y hx' hy).1.mono hx, (k5 i x y hx' hy).2.1.mono hx, (k5 i x y hx' hy).2.2⟩, k6, k7⟩
  · exact ⟨(fun h => by cases h), (fun _ => ⟨es', ck, by rw [heap_alloc_if, if_pos rfl]⟩), (fun h => by cases h), (fun h => by cases h), (by show 1 ≤ 3; omega)⟩

noncomputable def mcSpec (vs : List V) (σ : St) : Option (V × St) := match vs with
  | [.nilm] => some (.nilm, σ)
  | [.map p] => (match T.get p σ.h with
    | some (.map es ck ks) => some (.map σ.nx, ⟨T.set (.map es ck ks) σ.nx σ.h, σ.nx.succ⟩)
    | _ => none)
  | _ => none

theorem mc_ok {ρ : Go.Shelf.Ren} (L : Go.Proofs.SlLaysW.n5 Tryz.prog ρ) {vs : List V} {σ : St} {v : V} {σ' : St} (h : mcSpec vs σ = some (v, σ')) {ι : Nm} {w : World} {args : Array Value} (R : Rep ι σ w) (hv : VRs ι vs args.toList) : Calls Tryz.prog (ρ.f 5) args w (Post ι σ w v σ') := by
  unfold mcSpec at h
  split at h
  · cases h
    obtain ⟨al⟩ := args
    have hl : 1 = al.length := hv.1
    match al, hl, hv with
    | [x], _, hv =>
      have hx := hv.head
      have hxv : x = .map none := by cases hx; rfl
      subst hxv
      refine (AnyW.maps_Clone_nil L w).mono ?_
      rintro e w' ⟨rfl, rfl⟩
      exact ⟨ι, _, rfl, .nilm, R, ⟨.refl ι, fun _ _ => rfl, Nat.le_refl _, Nat.le_refl _, rfl, rfl, rfl, fun r hr _ => rfl, fun _ _ h => h, fun x y h1 h2 => by rw [h2] at h1; cases h1⟩⟩
  · rename_i p
    split at h
    · rename_i es ck ks hp
      cases h
      obtain ⟨al⟩ := args
      have hl : 1 = al.length := hv.1
      match al, hl, hv with
      | [x], _, hv =>
        have hx := hv.head
        obtain ⟨pl, es', k1, k2, k3, _⟩ := R.ob p _ hp
        have hxv : x = .map (some pl.blk) := by
          cases hx with
          | map _ pl' h1 _ => rw [k1] at h1; cases h1; rfl
        subst hxv
        refine (AnyW.maps_Clone L pl.blk es' ck w k3).mono ?_
        rintro e w' ⟨rfl, rfl⟩
        have hm := R.copyMap hp k1 k3
        exact ⟨_, _, rfl, .map _ _ (nmSet_self _ _ _) rfl, hm.1, hm.2⟩
    · cases h
  · cases h
end Go.Proofs.YtcecdaeceipbnaaGreatDoor
