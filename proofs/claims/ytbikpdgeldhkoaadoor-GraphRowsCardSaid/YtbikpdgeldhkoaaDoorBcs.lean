/-
  bytes.Compare, for every two slices of bytes, as a contract of the machine (over XBca's exact one).
-/
import Derived.Test.YtbikpdgeldhkoaaDoorBca
import Derived.Test.YtbikpdgeldhkoaaDoorShd2
namespace Go.Proofs.YtbikpdgeldhkoaaDoor.Ir
set_option linter.unusedVariables false
set_option maxRecDepth 100000
open Go Go.Proofs.YtbikpdgeldhkoaaDoor
noncomputable def bcSpec (vs : List V) (σ : St) : Option (V × St) := match vs with
  | [.slice p o n _ 1, .slice p' o' n' _ 1] => (match sliceB σ p o n with | some bl => (match sliceB σ p' o' n' with | some bl' => (match lall (fun b => Nat.blt b 256) bl && lall (fun b => Nat.blt b 256) bl' with | true => some (.int .i64 (cmpN bl bl'), σ) | false => none) | none => none) | none => none)
  | _ => none
theorem bytesV_of {ι : Nm} {w : World} {σ : St} (R : Rep ι σ w) {p : Pos} {o n : Nat} {cap : Option Nat} {bl : List Nat} (hb : sliceB σ p o n = some bl) {y : Value} (hv : VR ι (.slice p o n cap 1) y) : bytesV w y bl := by
  obtain ⟨L, kin, fz, ro, h1, h2, h3⟩ := sliceB_eq hb
  obtain ⟨pl, a, c, s1, s2, s3, s4, s5, s6, s7⟩ := hv.slice_inv
  obtain ⟨pl', cc, e, j1, j2, j3, j4, j5, j6⟩ := R.ob p _ h1
  rw [s1] at j1; cases j1
  refine ⟨a, c, by rw [h3]; exact s7, ?_, fun i b hi => ?_⟩
  · by_cases hn : bl = []
    · exact .inl hn
    · refine .inr ?_
      have : c ≠ 0 := fun hc => by
        have : bl.length = 0 := by omega
        exact hn (List.eq_nil_of_length_eq_zero this)
      rw [s5 this]
  · have hlt : i < bl.length := (List.getElem?_eq_some_iff.1 hi).1
    have hc : c ≠ 0 := by omega
    rw [s5 hc]
    have hL : L[o + i]? = some (.int .u8 (.ofNat b)) := by
      have h4 : (bs bl)[i]? = some (.int .u8 (.ofNat b)) := by unfold bs; rw [lmap_eq, List.getElem?_map, hi]; rfl
      rw [← h2, List.getElem?_take, if_pos (by omega), List.getElem?_drop] at h4
      exact h4
    have hlen : o + i < L.length := (List.getElem?_eq_some_iff.1 hL).1
    have hin : pl.st + (o + i) < cc.size := by omega
    have := j6 (o + i) _ _ hL (Array.getElem?_eq_getElem hin)
    have e2 : w.cell? ⟨pl.blk, pl.st + o + i, none⟩ = some cc[pl.st + (o + i)] := by
      simp only [World.cell?, j3]
      rw [show pl.st + o + i = pl.st + (o + i) by omega, Array.getElem?_eq_getElem hin]
      simp
    show w.cell? ⟨pl.blk, pl.st + o + i, none⟩ = _
    rw [e2]
    generalize cc[pl.st + (o + i)] = z at this
    cases this
    rfl
theorem bcmp_ok {vs : List V} {σ : St} {v : V} {σ' : St} (h : bcSpec vs σ = some (v, σ')) {ι : Nm} {w : World} {args : Array Value} (R : Rep ι σ w) (hv : VRs ι vs args.toList) : Calls Tryd.prog (p111.nat - 1) args w (Post ι σ w v σ') := by
  unfold bcSpec at h
  split at h
  · rename_i p o n cap p' o' n' cap'
    split at h
    · rename_i bl h1
      split at h
      · rename_i bl' h2
        split at h
        · rename_i hb
          cases h
          simp only [Bool.and_eq_true] at hb
          rw [lall_eq, lall_eq] at hb
          obtain ⟨al⟩ := args
          have hl : 2 = al.length := hv.1
          match al, hl, hv with
          | [x, y], _, hv =>
            refine (bcmp_calls (bytesV_of R h1 hv.head) (bytesV_of R h2 hv.tail.head) (fun b hb1 => ?_) (fun b hb1 => ?_)).mono ?_
            · have := List.all_eq_true.1 hb.1 b hb1
              rw [blt_eq] at this; simpa using this
            · have := List.all_eq_true.1 hb.2 b hb1
              rw [blt_eq] at this; simpa using this
            · rintro e w' ⟨rfl, rfl⟩
              refine ⟨ι, _, rfl, .int _ _ ?_, R, .refl _ _ _ _⟩
              rcases cmpN_range bl bl' with h | h | h <;> rw [h] <;> exact ⟨by decide, by decide⟩
        · cases h
      · cases h
    · cases h
  · cases h
end Go.Proofs.YtbikpdgeldhkoaaDoor.Ir
