/-
  slices.AppendSeq over slices.Values of a row (and over the keys of a map without entries), as a contract of the machine.
-/
import Derived.Test.YtneolnnngjbdcaaGreatDoorSeqV
import Derived.Test.YtneolnnngjbdcaaGreatDoorEnThree
import Derived.Test.YtneolnnngjbdcaaGreatDoorPaB
namespace Go.Proofs.YtneolnnngjbdcaaGreatDoor.Ir
set_option linter.unusedVariables false
set_option maxRecDepth 100000
open Go Go.Proofs.YtneolnnngjbdcaaGreatDoor Go.RowKit

noncomputable def intV (v : V) : Bool := match v with | .int _ _ => true | _ => false
noncomputable def avSpec (vs : List V) (σ : St) : Option (V × St) := match vs with
  | [.nils, .fn f [] [.ptr q 0]] => (match Nat.beq f 127 with
    | true => (match T.get q σ.h with
      | some (.cells [.slice p o (n + 1) _ 32] _ _ _) => (match T.get p σ.h with
        | some (.cells l _ _ _) => (match Nat.ble (Nat.add o (Nat.mul (n + 1) 32)) (llen l) && (Nat.ble n 900000 && lall intV (ltake (ldrop l o) (Nat.mul (n + 1) 32))) with
          | true => some (.slice σ.nx 0 (n + 1) none 32, ⟨T.set (.cells (ltake (ldrop l o) (Nat.mul (n + 1) 32)) [] false false) σ.nx σ.h, σ.nx.succ⟩)
          | false => none)
        | _ => none)
      | _ => none)
    | false => none)
  | _ => none

open Classical in
noncomputable def rowAt (c : Array Value) (b : Nat) : Row 32 :=
  if h : (c.extract b (b + 32)).size = 32 ∧ ∀ u ∈ (c.extract b (b + 32)).toList, u.oneCell' = true then ⟨_, h.1, h.2⟩ else ⟨Array.replicate 32 (.int .u8 0), by simp, by intro u hu; simp at hu; subst hu; rfl⟩
noncomputable def rowsAt (c : Array Value) (b n : Nat) : List (Row 32) := (List.range n).map fun i => rowAt c (b + i * 32)
theorem rowAt_c {c : Array Value} {b : Nat} (h1 : b + 32 ≤ c.size) (h2 : ∀ i, b ≤ i → i < b + 32 → ∀ u, c[i]? = some u → u.oneCell' = true) : (rowAt c b).c = c.extract b (b + 32) := by
  unfold rowAt
  rw [dif_pos]
  refine ⟨by simp; omega, fun u hu => ?_⟩
  obtain ⟨i, hi, rfl⟩ := List.getElem_of_mem hu
  simp at hi
  refine h2 (b + i) (by omega) (by omega) _ ?_
  simp
theorem rowsAt_all {c : Array Value} {b : Nat} : ∀ n, b + n * 32 ≤ c.size → (∀ i, b ≤ i → i < b + n * 32 → ∀ u, c[i]? = some u → u.oneCell' = true) → Row.all (rowsAt c b n) = (c.toList.drop b).take (n * 32)
  | 0, _, _ => by simp [rowsAt, Row.all]
  | n + 1, h1, h2 => by
    have ih := rowsAt_all n (by omega) (fun i ha hb => h2 i ha (by omega))
    have e : rowsAt c b (n + 1) = rowsAt c b n ++ [rowAt c (b + n * 32)] := by simp [rowsAt, List.range_succ]
    rw [e, Row.all_snoc, ih, rowAt_c (by omega) (fun i ha hb => h2 i (by omega) (by omega))]
    rw [show (n + 1) * 32 = n * 32 + 32 by omega, List.take_add, List.drop_drop]
    congr 1
    rw [Array.toList_extract, List.extract_eq_take_drop]
    congr 1
    omega
theorem rowsAt_get {c : Array Value} {b n : Nat} (h1 : b + n * 32 ≤ c.size) (h2 : ∀ i, b ≤ i → i < b + n * 32 → ∀ u, c[i]? = some u → u.oneCell' = true) (i : Nat) (x : Row 32) (hx : (rowsAt c b n)[i]? = some x) :
    c.extract (b + i * 32) (b + i * 32 + 32) = x.c ∧ b + i * 32 + 32 ≤ c.size := by
  unfold rowsAt at hx
  rw [List.getElem?_map] at hx
  have hi : i < n := by
    by_cases hi : i < n
    · exact hi
    · rw [List.getElem?_eq_none (by simp; omega)] at hx; cases hx
  rw [List.getElem?_range hi] at hx
  cases hx
  rw [rowAt_c (by omega) (fun j ha hb => h2 j (by omega) (by omega))]
  exact ⟨rfl, by omega⟩

theorem av_ok {vs : List V} {σ : St} {v : V} {σ' : St} (h : avSpec vs σ = some (v, σ')) {ι : Nm} {w : World} {args : Array Value} (R : Rep ι σ w) (hv : VRs ι vs args.toList) : Calls Tryz.prog (p128.nat - 1) args w (Post ι σ w v σ') := by
  unfold avSpec at h
  split at h
  · rename_i f q
    split at h
    · rename_i hf
      have hf := Nat.eq_of_beq_eq_true hf
      subst hf
      split at h
      · rename_i p o n cap kin fz ro hq
        split at h
        · rename_i L kin2 fz2 ro2 hp
          split at h
          · rename_i hc
            cases h
            simp only [Bool.and_eq_true, llen_eq, lall_eq, ltake_eq, ldrop_eq] at hc
            obtain ⟨c1, c2, c3⟩ := hc
            have c1 : o + (n + 1) * 32 ≤ L.length := Nat.le_of_ble_eq_true c1
            have c2 : n ≤ 900000 := Nat.le_of_ble_eq_true c2
            obtain ⟨al⟩ := args
            have hl : 2 = al.length := hv.1
            match al, hl, hv with
            | [x, y], _, hv =>
              have hx := hv.head
              have hy := hv.tail.head
              have hxv : x = .slice none 0 0 := by cases hx; rfl
              obtain ⟨plq, c, e, j1, j2, j3, j4, j5, j6⟩ := R.ob q _ hq
              obtain ⟨plp, cp, ep, k1, k2, k3, k4, k5, k6⟩ := R.ob p _ hp
              have hlt : plq.st < c.size := by
                have : plq.st + 1 ≤ c.size := j5
                omega
              have hcell := j6 0 (.slice p o (n + 1) cap 32) (c[plq.st]'hlt) rfl (by rw [Nat.add_zero]; exact Array.getElem?_eq_getElem hlt)
              obtain ⟨cap', hval⟩ : ∃ cap', c[plq.st]'hlt = .slice (some ⟨plp.blk, plp.st + o, none⟩) (n + 1) cap' := by
                generalize c[plq.st]'hlt = z at hcell
                cases hcell with
                | slice _ _ _ _ _ pl a c' h1 _ _ h3 h4 _ => rw [k1] at h1; cases h1; rw [h4 (by omega)]; exact ⟨_, rfl⟩
              have hc : w.cell? ⟨plq.blk, plq.st, none⟩ = some (.slice (some ⟨plp.blk, plp.st + o, none⟩) (n + 1) cap') := by
                simp only [World.cell?, j3]
                rw [Array.getElem?_eq_getElem hlt, hval]
                simp
              have hyv : y = .func (.func 127) #[] #[.pointer (some ⟨plq.blk, plq.st, none⟩)] := by
                cases hy with
                | fn _ _ _ x' y' hx' hy' h1 h2 =>
                  have e1 : x' = #[] := Array.eq_empty_of_size_eq_zero hx'.symm
                  subst e1
                  obtain ⟨ly⟩ := y'
                  have hly : 1 = ly.length := hy'
                  match ly, hly, h2 with
                  | [z], _, h2 =>
                    have := h2 0 (.ptr q 0) z rfl rfl
                    cases this with
                    | ptr _ _ pl h3 _ => rw [j1] at h3; cases h3; rfl
              subst hyv; subst hxv
              have hqlt : plq.blk < w.heap.size := (Array.getElem?_eq_some_iff.1 j3).1
              have hone : ∀ i, plp.st + o ≤ i → i < plp.st + o + (n + 1) * 32 → ∀ u, cp[i]? = some u → u.oneCell' = true := by
                intro i h1 h2 u hu
                have hi : i - plp.st < L.length := by omega
                have hL : L[i - plp.st]? = some (L[i - plp.st]'hi) := List.getElem?_eq_getElem hi
                have hV := k6 (i - plp.st) _ u hL (by rw [show plp.st + (i - plp.st) = i by omega]; exact hu)
                have hm : (L[i - plp.st]'hi) ∈ (L.drop o).take ((n + 1) * 32) := by
                  rw [List.mem_iff_getElem?]
                  refine ⟨i - plp.st - o, ?_⟩
                  rw [List.getElem?_take, if_pos (by omega), List.getElem?_drop, show o + (i - plp.st - o) = i - plp.st by omega]
                  exact hL
                have hI := List.all_eq_true.1 c3 _ hm
                generalize L[i - plp.st]'hi = z at hV hI
                cases hV <;> first | (cases hI; done) | rfl
              have hsz : plp.st + o + (n + 1) * 32 ≤ cp.size := by omega
              have hlen : (rowsAt cp (plp.st + o) (n + 1)).length = n + 1 := by simp [rowsAt]
              have hval := values_gives ⟨plq.blk, plq.st, none⟩ plp.blk (plp.st + o) (n + 1) cap' cp ep (0, 0) (rowsAt cp (plp.st + o) (n + 1)) w hqlt hc k3 hlen (by omega) (rowsAt_get hsz hone)
              refine (append_seq _ #[.pointer (some ⟨plq.blk, plq.st, none⟩)] (enters_of Tryz.func127 (by kernel_rfl) rfl) _ _ (by simp [maxLen]; omega) (by omega) w hval).mono ?_
              rintro e' w' ⟨v', ss, rfl, rfl, hrow, hnil, hb⟩
              rw [rowsAt_all _ hsz hone, hlen] at hrow
              rcases hrow.2 with ⟨_, h0⟩ | ⟨g, cap2, cur, rfl, hg, hgb, hn1, hn2, hcs, htk⟩
              · omega
              · have hVs : VRs ι ((L.drop o).take ((n + 1) * 32)) (cur.toList.take ((L.drop o).take ((n + 1) * 32)).length) := by
                  have hll : ((L.drop o).take ((n + 1) * 32)).length = (n + 1) * 32 := by simp; omega
                  rw [hll, htk]
                  refine ⟨by simp; omega, fun i a b ha hb' => ?_⟩
                  have hi : i < (n + 1) * 32 := by
                    have := (List.getElem?_eq_some_iff.1 ha).1
                    rw [hll] at this; exact this
                  rw [List.getElem?_take, if_pos hi, List.getElem?_drop] at ha hb'
                  refine k6 (o + i) a b ha ?_
                  rw [← Nat.add_assoc]
                  simpa using hb'
                have hm := R.meet hb hg hgb hVs (by simp; omega)
                rw [ltake_eq, ldrop_eq]
                refine ⟨_, _, rfl, ?_, hm.1, hm.2⟩
                exact .slice _ _ _ _ _ ⟨g, 0, cur.size, 0⟩ _ _ (nmSet_self _ _ _) rfl (fun _ hn => by cases hn) hn1 (fun _ => rfl) (by simp only [Nat.zero_add, Nat.add_zero]; rw [hcs]; exact Nat.le_refl _)
          · cases h
        · cases h
      · cases h
    · cases h
  · cases h
end Go.Proofs.YtneolnnngjbdcaaGreatDoor.Ir
