/-
  The operations that write or make memory: the model does the same; maps, new slices, copies. (Of no program.)
-/
import Derived.Test.YtknhohgnilamcaaGreatDoorEngI
namespace Go.Proofs.YtknhohgnilamcaaGreatDoor
set_option linter.unusedVariables false
set_option linter.unusedSimpArgs false
set_option linter.unusedSectionVars false
open Go

section
variable {P : Program} {E : Env P}
/-- a new map -/
theorem Rep.newMap {ι : Nm} {σ : St} {w : World} (R : Rep ι σ w) (ks : KSh) :
    Rep (nmSet ι σ.nx ⟨w.heap.size, 0, 0, 1⟩) ⟨T.set (.map [] 0 ks) σ.nx σ.h, σ.nx.succ⟩ (w.alloc (.map #[] 0)) ∧
    G σ.nx.nat ι σ w (nmSet ι σ.nx ⟨w.heap.size, 0, 0, 1⟩) ⟨T.set (.map [] 0 ks) σ.nx σ.h, σ.nx.succ⟩ (w.alloc (.map #[] 0)) := by
  obtain ⟨h1, h2⟩ := R.fresh
  have hn := Pos.succ_nat σ.nx
  refine R.push (nx := σ.nx.succ) h1 h2 (by omega) (by omega) (fun q hq => by cases hq) ?_ ?_ (Nat.le_refl _)
  · exact ⟨_, #[], nmSet_self _ _ _, rfl, by rw [heap_alloc_if, if_pos rfl], rfl, (fun i x y h => by simp at h), (fun i x h => by simp at h), (fun i j x y h => by simp at h)⟩
  · exact ⟨(fun h => by cases h), (fun _ => ⟨#[], 0, by rw [heap_alloc_if, if_pos rfl]⟩), (fun h => by cases h), (fun h => by cases h), (by show 1 ≤ 3; omega)⟩
theorem e_mkm (ks : KSh) : ESound E (.mkm ks) := by
  intro n ι A b σ σ' w o v F L R hok h
  obtain ⟨d, op, ty, pos, af, g⟩ := o
  cases op <;> simp only [okE, Bool.false_eq_true, Bool.and_eq_true] at hok
  rename_i t r
  obtain ⟨h1, h2⟩ := hok
  simp only [eev, Option.some.injEq, Prod.mk.injEq] at h
  obtain ⟨rfl, rfl⟩ := h
  obtain ⟨q1, q2⟩ := R.newMap ks
  refine ⟨_, _, Or.inl ⟨.map (some w.heap.size), exv2 (s := Instr.makeMap t (r.map b.eval)) rfl ?_, .map _ _ (nmSet_self _ _ _) rfl⟩, q1, q2⟩
  split at h2
  · rename_i k e hu
    split at h1
    · simp only [Option.map_none, Instr.makeMap, newObj, Sem.run_bind, Sem.run, Result.andThen, Sem.run_pure]; rfl
    · simp only [Option.map_some, Act.eval, Instr.makeMap, Sem.run_bind, run_underlying hu, Result.andThen_ok, asInt, asIntOf, Sem.run_pure, newObj, Sem.run, Result.andThen]; rfl
    · cases h1
  · cases h2
theorem lrep_eq (z : List V) (n : Nat) : lrep z n = (List.replicate n z).flatten := by
  induction n with
  | zero => rfl
  | succ n ih => show lapp z (lrep z n) = _; rw [lapp_eq, ih, List.replicate_succ, List.flatten_cons]
theorem zero_row {ι : Nm} {z : List V} {zv : Value} (hz : VRs ι z zv.cells.toList) (c : Nat) (hpos : 0 < z.length) : VRs ι (lrep z c) ((Array.range (c * z.length)).map (zv.cells[· % zv.cells.size]!)).toList := by
  have hsz : zv.cells.size = z.length := by have := hz.1; simp at this; omega
  rw [lrep_eq]
  refine ⟨by simp, fun i x y hx hy => ?_⟩
  simp only [Array.toList_map, List.getElem?_map] at hy
  have hx' : z[i % z.length]? = some x := by
    clear hy
    induction c generalizing i with
    | zero => simp at hx
    | succ c ih =>
      rw [List.replicate_succ, List.flatten_cons] at hx
      by_cases hi : i < z.length
      · rw [List.getElem?_append_left hi] at hx
        rw [Nat.mod_eq_of_lt hi]; exact hx
      · rw [List.getElem?_append_right (by omega)] at hx
        have := ih (i - z.length) hx
        rw [Nat.mod_eq_sub_mod (by omega)]
        exact this
  have hlt : i < c * z.length := by
    have := (List.getElem?_eq_some_iff.1 hx).1
    simpa using this
  have hr : (Array.range (c * z.length)).toList[i]? = some i := by simp [hlt]
  rw [hr] at hy
  simp only [Option.map_some, Option.some.injEq] at hy
  subst hy
  rw [hsz]
  have hm := Nat.mod_lt i hpos
  have hlt2 : i % z.length < zv.cells.size := by omega
  refine hz.2 (i % z.length) x _ hx' ?_
  rw [Array.getElem?_toList, Array.getElem?_eq_getElem hlt2]
  congr 1
  exact (getElem!_pos zv.cells _ hlt2).symm
theorem e_mks (len cap : Arg) (z : List V) (esz bts : Nat) : ESound E (.mks len cap z esz bts) := by
  intro n ι A b σ σ' w o v F L R hok h
  obtain ⟨d, op, ty, pos, af, g⟩ := o
  cases op <;> simp only [okE, Bool.false_eq_true, Bool.and_eq_true] at hok
  rename_i t l' c'
  obtain ⟨⟨h1, h2⟩, h3⟩ := hok
  split at h3
  · rename_i e hu
    simp only [Bool.and_eq_true, beq_iff_eq, decide_eq_true_eq] at h3
    obtain ⟨⟨⟨⟨h4, h5⟩, h6⟩, h7⟩, h8⟩ := h3
    obtain ⟨zv, hz, hzv⟩ := zeroB_inv h6
    simp only [eev] at h
    split at h
    · rename_i k l hl
      split at h
      · rename_i k2 c hc
        split at h
        · rename_i l1 hl1
          split at h
          · rename_i c1 hc1
            split at h
            · rename_i hle
              obtain ⟨hle1, hle2⟩ := and_ble hle
              simp only [Option.some.injEq, Prod.mk.injEq] at h
              obtain ⟨rfl, rfl⟩ := h
              have e1 := natOf_inv hl1
              have e2 := natOf_inv hc1
              subst e1; subst e2
              obtain ⟨k3, _⟩ := (ev_as F L h1 hl).int_inv
              obtain ⟨k4, _⟩ := (ev_as F L h2 hc).int_inv
              have hle2 : c1 * (bts + 1) ≤ 1099511627776 := hle2
              rw [Nat.mul_add] at hle2
              subst h7
              have hrow := zero_row (hzv ι) c1 h8
              obtain ⟨q1, q2⟩ := R.newCells (l := lrep z c1) (c := (Array.range (c1 * z.length)).map (zv.cells[· % zv.cells.size]!)) e (by rw [hrow.1, List.take_length]; exact hrow) (by have := hrow.1; simp at this; simp; omega)
              refine ⟨_, _, Or.inl ⟨.slice (some ⟨w.heap.size, 0, none⟩) l1 c1, exv2 (s := Instr.makeSlice t (b.eval l') (b.eval c')) rfl ?_, ?_⟩, q1, q2⟩
              · unfold bytesB at h5
                split at h5
                · rename_i i hi
                  have hb : i.bytes = bts := by simpa using h5
                  have hw : ∀ m : Nat, m ≤ 1099511627776 → IntKind.i64.wrap (m : Int) = m := fun m hm => wrap_id (by
                    unfold IntKind.has IntKind.min IntKind.max
                    simp only [IntKind.bits, IntKind.signed, if_true, p63]
                    omega)
                  have hw1 := hw l1 (by omega)
                  have hw2 := hw c1 (by omega)
                  have hbc : bts * c1 ≤ 1099511627776 := by rw [Nat.mul_comm]; omega
                  have hbci : ((bts : Int) * (c1 : Int)) ≤ 1099511627776 := by rw [← Int.natCast_mul]; omega
                  simp only [Instr.makeSlice, Sem.run_bind, run_underlying hu, Result.andThen_ok, k3, k4, asInt, asIntOf, Sem.run_pure, typeInfo, program, Sem.run, hi, hw1, hw2, hb]
                  have t1 : decide ((c1 : Int) < 0) = false := decide_eq_false (by omega)
                  have p48 : (2 : Int) ^ 48 = 281474976710656 := rfl
                  have t2 : decide ((bts : Int) * (c1 : Int) > 2 ^ 48) = false := decide_eq_false (by rw [p48]; omega)
                  have t3 : decide ((l1 : Int) < 0) = false := decide_eq_false (by omega)
                  have t4 : decide ((l1 : Int) > (c1 : Int)) = false := decide_eq_false (by omega)
                  clear p48
                  rw [t1, t2, t3, t4]
                  rw [if_neg (by decide)]
                  have hroom : askRoom ((c1 : Int).toNat * bts) = pure () := by
                    unfold askRoom roomBytes
                    rw [if_neg (by simp; omega)]
                  rw [hroom]
                  simp only [Sem.run_pure, Result.andThen_ok, Sem.run_bind, run_szB h4, Int.toNat_natCast]
                  by_cases hc0 : c1 = 0
                  · subst hc0
                    rw [if_pos (by simp)]
                    have e0 : ∀ f : Nat → Value, (Array.range (0 * z.length)).map f = #[] := fun f => by simp
                    simp only [Sem.run_bind, Sem.run_pure, Result.andThen_ok, newRow, newObj, Sem.run, Result.andThen, e0]
                    rfl
                  · have : ¬ c1 * z.length = 0 := Nat.mul_ne_zero hc0 (by omega)
                    rw [if_neg this]
                    simp only [Sem.run_bind, hz, Result.andThen_ok, Sem.run_pure, newRow, newObj, Sem.run, Result.andThen]
                    rfl
                · cases h5
              · have := VR.slice (ι := nmSet ι σ.nx ⟨w.heap.size, 0, ((Array.range (c1 * z.length)).map (zv.cells[· % zv.cells.size]!)).size, 0⟩) σ.nx 0 l1 (some c1) z.length _ ⟨w.heap.size, 0, none⟩ c1 (nmSet_self _ _ _) rfl (fun m hm => by cases hm; rfl) hle1 (fun _ => rfl) (by simp)
                exact this
            · cases h
          · cases h
        · cases h
      · cases h
    · cases h
  · cases h3
end
end Go.Proofs.YtknhohgnilamcaaGreatDoor
