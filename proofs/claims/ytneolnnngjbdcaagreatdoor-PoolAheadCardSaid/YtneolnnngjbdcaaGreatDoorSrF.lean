/-
  slices.SortFunc at rows of hashes, by digest.Compare: the row holds the same hashes, in order.
-/
import Derived.Test.YtneolnnngjbdcaaGreatDoorCmp
import Derived.Test.YtneolnnngjbdcaaGreatDoorSrt
namespace Go.Proofs.YtneolnnngjbdcaaGreatDoor.Ir
set_option linter.unusedVariables false
set_option linter.unusedSimpArgs false
open Go Go.Proofs Go.Proofs.YtneolnnngjbdcaaGreatDoor Go.RowKit Go.Shelf Go.Sort
noncomputable def sortH (l : List HB) : List HB := l.mergeSort fun x y => !(ltOf dcf) y x
theorem sort_calls (blk off cap : Nat) (d : Array HB) (w : World) (hH : HoldsK HB.enc 32 w blk off d) (hblk : blk < w.heap.size) (hsz : d.size < 1000000) :
    Calls Tryz.prog 89 #[.slice (some ⟨blk, off, none⟩) d.size cap, .func (.func 61) #[] #[]] w fun e w' =>
      e = .returned (.tuple #[]) ∧ ∃ n os, w' = sortWorldK HB.enc 32 w blk off n (sortH d.toList).toArray os := by
  have eg : ∀ args w, (callFunc 61 args).run Tryz.prog w = .ok (.enter 61 args) w := enters_of Tryz.func61 (by kernel_rfl) rfl
  have h := AnyQ.slices_SortFunc_total Tryz.sortH 32 tE_agg tE_size HB.enc (fun x => by simp [HB.enc, x.len]) (fun x v hv => by
    simp only [HB.enc, List.mem_map] at hv
    obtain ⟨n, _, rfl⟩ := hv
    rfl) dcf dcf_swo 61 #[] blk off cap d w eg (dcmp_lays blk off d.size w) hH hblk (by omega) (fun x y => dcf_total x y)
  exact h
end Go.Proofs.YtneolnnngjbdcaaGreatDoor.Ir
