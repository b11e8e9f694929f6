/-
  slices.AppendSeq over the keys of a map without entries, as a contract of the machine.
-/
import Derived.Test.YtneolnnngjbdcaaGreatDoorSeqE
import Derived.Test.YtneolnnngjbdcaaGreatDoorEnThree
import Derived.Test.YtneolnnngjbdcaaGreatDoorPaB
namespace Go.Proofs.YtneolnnngjbdcaaGreatDoor
set_option linter.unusedVariables false
set_option linter.unusedSimpArgs false
open Go Go.RowKit Go.Maps Go.Shelf

set_option maxRecDepth 100000 in
set_option maxHeartbeats 1000000 in
/-- the iterator of a map without entries: no round -/
theorem keys_noneB (n : Nat) (l b ck : Nat) (a : Addr) (W : World) (hm : W.cell? a = some (.map (some b))) (hb : W.heap[b]? = some (.map #[] ck)) :
    CallsIn Fence.wide n Tryz.prog 141 #[.func (.yield l) #[] #[], .pointer (some a)] W fun e W' => (∃ v, e = .returned v) ∧ W' = W.alloc (.mapIter (some b) ck #[] ck) := by
  have hbl : b < W.heap.size := (Array.getElem?_eq_some_iff.1 hb).1
  refine callsIn_of_wp Tryz.func141 rfl trivial ?_ rfl
  simp only [Tryz.ntmps141, List.size_toArray, List.length_cons, List.length_nil, Nat.reduceAdd, Nat.reduceSub, Array.replicate_succ, Array.replicate_zero, List.push_toArray, List.append_toArray, List.nil_append, List.cons_append]
  have hrg := run_range_map (P := Tryz.prog) W 97 30 4 b #[] ck Tryz.underlying97 hb
  have hnx : ∀ ty, (Instr.next (.pointer (some ⟨W.heap.size, 0, none⟩)) false ty).run Tryz.prog (W.alloc (.mapIter (some b) ck #[] ck)) = _ := fun ty => next_none (r := W.heap.size) (bm := b) (since := ck) (c0 := ck) (ck := ck) (World.alloc_heap_new W _) ((Below.heap_alloc W _ b hbl).trans hb) (Nat.le_refl _) ty
  gi_wp2
  refine wpIn_loop_rounds 1 ?_
  rw [roundsIn_succ]
  gi_wp2
  go_end0
  exact ⟨⟨_, rfl⟩, rfl⟩

end Go.Proofs.YtneolnnngjbdcaaGreatDoor
namespace Go.Proofs.YtneolnnngjbdcaaGreatDoor.Ir
set_option linter.unusedVariables false
set_option maxRecDepth 100000
open Go Go.Proofs.YtneolnnngjbdcaaGreatDoor Go.RowKit

noncomputable def apSpecB (vs : List V) (σ : St) : Option (V × St) := match vs with
  | [.nils, .fn f [] [.ptr q 0]] => (match Nat.beq f 141 with
    | true => (match T.get q σ.h with
      | some (.cells [.map p] _ _ _) => (match T.get p σ.h with | some (.map [] _ _) => some (.nils, σ) | _ => none)
      | _ => none)
    | false => none)
  | _ => none
theorem ap_okB {vs : List V} {σ : St} {v : V} {σ' : St} (h : apSpecB vs σ = some (v, σ')) {ι : Nm} {w : World} {args : Array Value} (R : Rep ι σ w) (hv : VRs ι vs args.toList) : Calls Tryz.prog (p128.nat - 1) args w (Post ι σ w v σ') := by
  unfold apSpecB at h
  split at h
  · rename_i f q
    split at h
    · rename_i hf
      have hf := Nat.eq_of_beq_eq_true hf
      subst hf
      split at h
      · rename_i p kin fz ro hq
        split at h
        · rename_i ck ks hp
          cases h
          obtain ⟨al⟩ := args
          have hl : 2 = al.length := hv.1
          match al, hl, hv with
          | [x, y], _, hv =>
            have hx := hv.head
            have hy := hv.tail.head
            obtain ⟨plp, es', k1, k2, k3, k4, _, _, _⟩ := R.ob p _ hp
            have hes : es' = #[] := Array.eq_empty_of_size_eq_zero k4.symm
            subst hes
            obtain ⟨plq, c, e, j1, j2, j3, j4, j5, j6⟩ := R.ob q _ hq
            have hlt : plq.st < c.size := by
              have : ([V.map p] : List V).length = 1 := rfl
              omega
            have hcell := j6 0 (.map p) (c[plq.st]'hlt) rfl (by rw [Nat.add_zero]; exact Array.getElem?_eq_getElem hlt)
            have hval : c[plq.st]'hlt = .map (some plp.blk) := by
              generalize c[plq.st]'hlt = z at hcell
              cases hcell with
              | map _ pl h1 _ => rw [k1] at h1; cases h1; rfl
            have hc : w.cell? ⟨plq.blk, plq.st, none⟩ = some (.map (some plp.blk)) := by
              simp only [World.cell?, j3]
              rw [Array.getElem?_eq_getElem hlt, hval]
              simp
            have hyv : y = .func (.func 141) #[] #[.pointer (some ⟨plq.blk, plq.st, none⟩)] := by
              cases hy with
              | fn _ _ _ x' y' hx' hy' h1 h2 =>
                have e1 : x' = #[] := Array.eq_empty_of_size_eq_zero hx'.symm
                subst e1
                obtain ⟨ly⟩ := y'
                have hly : 1 = ly.length := hy'
                match ly, hly, h2 with
                | [z], _, h2 =>
                  have := h2 0 (.ptr q 0) z rfl rfl
                  cases this with
                  | ptr _ _ pl h3 _ => rw [j1] at h3; cases h3; rfl
            have hxv : x = .slice none 0 0 := by cases hx; rfl
            subst hyv; subst hxv
            have hblk : plp.blk < w.heap.size := (Array.getElem?_eq_some_iff.1 k3).1
            have hqlt : plq.blk < w.heap.size := (Array.getElem?_eq_some_iff.1 j3).1
            refine (append_none _ #[.pointer (some ⟨plq.blk, plq.st, none⟩)] (enters_of Tryz.func141 (by kernel_rfl) rfl) w (fun l W hb => ?_)).mono ?_
            · refine (keys_noneB 5 l plp.blk ck ⟨plq.blk, plq.st, none⟩ W ?_ ((hb.block _ hblk).trans k3)).mono ?_
              · rw [hb.cell (p := ⟨plq.blk, plq.st, none⟩) hqlt]; exact hc
              · rintro e W' ⟨he, rfl⟩
                exact ⟨he, _, rfl⟩
            · rintro e w' ⟨rfl, hb⟩
              exact ⟨ι, _, rfl, .nils, R.stays hb.block, ⟨.refl ι, fun _ _ => rfl, Nat.le_refl _, hb.size, hb.os, hb.tape, hb.output, fun r hr _ => hb.block r hr, fun _ _ h => h, fun x y h1 h2 => by rw [h2] at h1; cases h1⟩⟩
        · cases h
      · cases h
    · cases h
  · cases h
end Go.Proofs.YtneolnnngjbdcaaGreatDoor.Ir
