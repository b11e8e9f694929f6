/-
  The operations that write or make memory: the model does the same. (Of no program.)
-/
import Derived.Test.YtknhohgnilamcaaGreatDoorEngE
namespace Go.Proofs.YtknhohgnilamcaaGreatDoor
set_option linter.unusedVariables false
set_option linter.unusedSimpArgs false
set_option linter.unusedSectionVars false
open Go

def ESound {P : Program} (E : Env P) (e : EOp) : Prop := ∀ {n : Nat} {ι : Nm} {A : T V} {a : Act} {σ σ' : St} {w : World} {o : Oper} {v : V}, FR n ι A a → Gl E.ng ι → Rep ι σ w →
  okE E e o.op = true → eev e none A σ = some (v, σ') →
  ∃ ι' w', ((∃ v', (execOp a.eval o).run P w = .ok (.value v') w' ∧ VR ι' v v') ∨ ((execOp a.eval o).run P w = .ok .skip w' ∧ v = .u)) ∧ Rep ι' σ' w' ∧ G σ.nx.nat ι σ w ι' σ' w'
/-- .. those that only make a block, whenever -/
def LSound {P : Program} (E : Env P) (e : EOp) : Prop := ∀ {n : Nat} {ι : Nm} {A : T V} {a : Act} {σ σ' : St} {w : World} {o : Oper} {v : V} {nm : Option Pos}, FR n ι A a → Gl E.ng ι → Rep ι σ w →
  okE E e o.op = true → eev e nm A σ = some (v, σ') →
  ∃ l c ty v', σ' = newB σ nm (.cells l [] false false) ∧ (execOp a.eval o).run P w = .ok (.value v') (w.alloc (.cells c ty)) ∧ VRs ι l c.toList ∧
    ∀ ι' : Nm, ι' (nameOf σ nm) = some ⟨w.heap.size, 0, c.size, 0⟩ → VR ι' v v'

theorem exu {P : Program} {ρ : Operand → Value} {o : Oper} {s : Sem Unit} {w w' : World} (h : execOp ρ o = (do s; pure .skip)) (hs : s.run P w = .ok () w') : (execOp ρ o).run P w = .ok .skip w' := by
  rw [h]; simp only [Sem.run_bind, hs, Result.andThen_ok, Sem.run_pure]
theorem exv2 {P : Program} {ρ : Operand → Value} {o : Oper} {s : Sem Value} {w w' : World} {v' : Value} (h : execOp ρ o = (do pure (.value (← s)))) (hs : s.run P w = .ok v' w') : (execOp ρ o).run P w = .ok (.value v') w' := by
  rw [h]; simp only [Sem.run_bind, hs, Result.andThen_ok, Sem.run_pure]

section
variable {P : Program} {E : Env P}
theorem Rep.fresh {ι : Nm} {σ : St} {w : World} (R : Rep ι σ w) : ι σ.nx = none ∧ T.get σ.nx σ.h = none := by
  constructor
  · cases h : ι σ.nx with
    | none => rfl
    | some pl => exact absurd (R.dom _ _ h) (Nat.lt_irrefl _)
  · cases h : T.get σ.nx σ.h with
    | none => rfl
    | some o => exact absurd (R.hdom _ _ h) (Nat.lt_irrefl _)
/-- a new row of cells, as the next name -/
theorem Rep.newCells {ι : Nm} {σ : St} {w : World} (R : Rep ι σ w) {l : List V} {c : Array Value} (e : TypeId) (h : VRs ι l (c.toList.take l.length)) (hle : l.length ≤ c.size) :
    Rep (nmSet ι σ.nx ⟨w.heap.size, 0, c.size, 0⟩) ⟨T.set (.cells l [] false false) σ.nx σ.h, σ.nx.succ⟩ (w.alloc (.cells c e)) ∧
    G σ.nx.nat ι σ w (nmSet ι σ.nx ⟨w.heap.size, 0, c.size, 0⟩) ⟨T.set (.cells l [] false false) σ.nx σ.h, σ.nx.succ⟩ (w.alloc (.cells c e)) := by
  obtain ⟨h1, h2⟩ := R.fresh
  have hn := Pos.succ_nat σ.nx
  refine R.push (nx := σ.nx.succ) h1 h2 (by omega) (by omega) (fun q hq => by cases hq) ?_ ?_ (Nat.le_refl _)
  · refine ⟨_, c, e, nmSet_self _ _ _, rfl, by rw [heap_alloc_if, if_pos rfl], rfl, by simpa using hle, fun i x y hx hy => ?_⟩
    have hlt : i < l.length := (List.getElem?_eq_some_iff.1 hx).1
    refine (h.2 i x y hx ?_).mono (nmSet_ext h1)
    rw [List.getElem?_take, if_pos hlt]
    simpa using hy
  · refine ⟨fun _ => ⟨c, e, by rw [heap_alloc_if, if_pos rfl], rfl⟩, (fun h => by cases h), (fun h => by cases h), (fun h => by cases h), Nat.zero_le _⟩
theorem l_alo (z : List V) : LSound E (.alo z) := by
  intro n ι A b σ σ' w o v nm F L R hok h
  obtain ⟨d, op, ty, pos, af, g⟩ := o
  cases op <;> simp only [okE, Bool.false_eq_true] at hok
  rename_i t
  obtain ⟨zv, hz, hzv⟩ := zeroB_inv hok
  simp only [eev, Option.some.injEq, Prod.mk.injEq] at h
  obtain ⟨rfl, rfl⟩ := h
  refine ⟨z, zv.cells, t, .pointer (some ⟨w.heap.size, 0, none⟩), rfl, exv2 (s := Instr.alloc t true (.tuple #[])) rfl ?_, hzv ι, fun ι' h => ?_⟩
  · simp only [Instr.alloc, Sem.run_bind, hz, Result.andThen, newVar, newRow, newObj, Sem.run, Sem.run_pure]
    rfl
  · have := VR.ptr (ι := ι') (nameOf σ nm) 0 _ h rfl
    simpa using this
theorem l_box (x : Arg) (m : Nat) : LSound E (.box x m) := by
  intro n ι A b σ σ' w o v nm F L R hok h
  obtain ⟨d, op, ty, pos, af, g⟩ := o
  cases op <;> simp only [okE, Bool.false_eq_true] at hok
  rename_i t x'
  simp only [eev] at h
  split at h
  · rename_i l hl
    split at h
    · simp only [Option.some.injEq, Prod.mk.injEq] at h
      obtain ⟨rfl, rfl⟩ := h
      have hv := flat_sound hl (ev_sound F L hok)
      refine ⟨l, (b.eval x').cells, t, .pointer (some ⟨w.heap.size, 0, none⟩), rfl, exv2 (s := Instr.box t (b.eval x')) rfl ?_, hv, fun ι' h => ?_⟩
      · simp only [Instr.box, newVar, newRow, newObj, Sem.run_bind, Sem.run, Result.andThen, Sem.run_pure]
        rfl
      · have := VR.ptr (ι := ι') (nameOf σ nm) 0 _ h rfl
        simpa using this
    · cases h
  · cases h
theorem zrepB_inv {e n : Nat} {z : List V} (h : zrepB P e n z = true) : ∃ zv, (∀ w, (zeroValue e).run P w = .ok zv w) ∧ ∀ ι, VRs ι z ((Array.range n).map (zv.cells[· % zv.cells.size]!)).toList := by
  unfold zrepB at h
  split at h
  · rename_i i hi
    split at h
    · rename_i v hv
      exact ⟨v, run_zero hi hv, fun ι => csts_sound (fun l x hx y hy => cst_sound x y hy) _ _ h⟩
    · cases h
  · cases h
theorem bldF_length {A : T V} : ∀ {ps : List (Nat × Nat × Arg)} {z l : List V}, bldF A ps z = some l → l.length = z.length
  | [], z, l, h => by
    have e : bldF A [] z = some z := rfl
    rw [e] at h; cases h; rfl
  | (off, sz, x) :: ps, z, l, h => by
    have e : bldF A ((off, sz, x) :: ps) z = match flat (ev A x) with
      | none => none
      | some l => (match Nat.beq (llen l) sz && Nat.ble (Nat.add off sz) (llen z) with | true => bldF A ps (lsplice z off l) | false => none) := rfl
    rw [e] at h
    split at h
    · cases h
    · rename_i l1 hf
      split at h
      · rename_i hb
        simp only [Bool.and_eq_true] at hb
        have hb1 : llen l1 = sz := Nat.eq_of_beq_eq_true hb.1
        have hb2 := ble_le hb.2
        rw [llen_eq] at hb1 hb2
        have hle : off + sz ≤ z.length := hb2
        rw [bldF_length h]
        have e : lsplice z off l1 = z.take off ++ (l1 ++ z.drop (off + l1.length)) := by
          simp only [lsplice, lapp_eq, ltake_eq, ldrop_eq, llen_eq]; rfl
        rw [e]; simp; omega
      · cases h
theorem bslB_places {ng : GS} {e esz : Nat} : ∀ (ps : List (Nat × Nat × Arg)) (qs : List (Nat × Operand)), okE.bslB P ng e esz ps qs = true → ∀ {n : Nat} {ι : Nm} {A : T V} {a : Act}, FR n ι A a → Gl ng ι →
    ∀ (z l : List V) (cells : Array Value), bldF A ps z = some l → VRs ι z cells.toList → ∃ c, Instr.fill (fun i => some (i * esz, esz)) cells (qs.map fun x => (x.1, a.eval x.2)) = some c ∧ VRs ι l c.toList
  | [], [], _, n, ι, A, a, F, L, z, l, cells, h, hz => by
    have : l = z := by
      have e : bldF A [] z = some z := rfl
      rw [e] at h; exact (Option.some.inj h).symm
    subst this
    exact ⟨cells, rfl, hz⟩
  | [], _ :: _, h, _, _, _, _, _, _, _, _, _, _, _ => by simp [okE.bslB] at h
  | _ :: _, [], h, _, _, _, _, _, _, _, _, _, _, _ => by simp [okE.bslB] at h
  | (off, sz, x) :: ps, (i, o) :: qs, hok, n, ι, A, a, F, L, z, l, cells, h, hz => by
    simp only [okE.bslB, Bool.and_eq_true, beq_iff_eq] at hok
    obtain ⟨⟨⟨rfl, rfl⟩, h2⟩, h3⟩ := hok
    have e : bldF A ((i * sz, sz, x) :: ps) z = match flat (ev A x) with
      | none => none
      | some l => (match Nat.beq (llen l) sz && Nat.ble (Nat.add (i * sz) sz) (llen z) with | true => bldF A ps (lsplice z (i * sz) l) | false => none) := rfl
    rw [e] at h
    split at h
    · cases h
    · rename_i l1 hf
      have hv := flat_sound hf (ev_sound F L h2)
      split at h
      · rename_i hb
        simp only [Bool.and_eq_true] at hb
        have hb1 : llen l1 = sz := Nat.eq_of_beq_eq_true hb.1
        have hb2 := ble_le hb.2
        rw [llen_eq] at hb1 hb2
        have hvs : (a.eval o).cells.size = sz := by
          have := hv.1; simp at this; omega
        have hcs : cells.size = z.length := by have := hz.1; simp at this; omega
        have hle : i * sz + sz ≤ z.length := hb2
        have hfill : ∀ j : Nat, ((a.eval o).cells.zipIdx.foldl (fun (cs : Array Value) (x : Value × Nat) => cs.setIfInBounds (i * sz + x.2) x.1) cells)[j]? = if i * sz ≤ j ∧ j < i * sz + (a.eval o).cells.toList.length then (a.eval o).cells.toList[j - i * sz]? else cells.toList[j]? := by
          intro j
          rw [← Array.foldl_toList, Array.toList_zipIdx]
          have := fill_one (i * sz) (a.eval o).cells.toList 0 cells j (by simp; omega)
          rw [Nat.add_zero] at this
          rw [this]
          simp
        have hz' := VRs.splice hz hv (by omega) hfill
        obtain ⟨c, k1, k2⟩ := bslB_places ps qs h3 F L _ l _ h hz'
        refine ⟨c, ?_, k2⟩
        simp only [List.map_cons, Instr.fill]
        rw [if_neg (by simp [hvs]; omega)]
        exact k1
      · cases h
theorem ex_bs (ρ : Operand → Value) (d : Option Tmp) (t ty : TypeId) (n : Nat) (pos : String) (af : Array Edge) (g : Option (Nat × Bool)) (ps : Array (Nat × Operand)) :
    execOp ρ ⟨d, .buildSlice t n ps, ty, pos, af, g⟩ = (do pure (.value (← Instr.buildSlice t n (ps.map fun x => (x.1, ρ x.2))))) := rfl
theorem l_bsl (z : List V) (ps : List (Nat × Nat × Arg)) (len esz : Nat) : LSound E (.bsl z ps len esz) := by
  intro n ι A b σ σ' w o v nm F L R hok h
  obtain ⟨d, op, ty, pos, af, g⟩ := o
  cases op <;> simp only [okE, Bool.false_eq_true, Bool.and_eq_true, beq_iff_eq, decide_eq_true_eq] at hok
  rename_i t m parts
  obtain ⟨⟨⟨⟨rfl, h1⟩, h2⟩, h3⟩, h4⟩ := hok
  split at h4
  · rename_i e hu
    simp only [Bool.and_eq_true] at h4
    obtain ⟨⟨h5, h6⟩, h7⟩ := h4
    obtain ⟨zv, hz, hzv⟩ := zrepB_inv h6
    simp only [eev] at h
    split at h
    · rename_i l hl
      simp only [Option.some.injEq, Prod.mk.injEq] at h
      obtain ⟨rfl, rfl⟩ := h
      obtain ⟨c, k1, k2⟩ := bslB_places ps parts.toList h7 F L z l _ hl (hzv ι)
      have hlen : l.length = z.length := by
        have := bldF_length hl; exact this
      have hcs : c.size = m * esz := by have := k2.1; simp at this; omega
      have hmap : (parts.map fun x => (x.1, b.eval x.2)).toList = parts.toList.map fun x => (x.1, b.eval x.2) := by simp
      refine ⟨l, c, e, .slice (some ⟨w.heap.size, 0, none⟩) m m, rfl, exv2 (ex_bs _ _ _ _ _ _ _ _ _) ?_, k2, fun ι' h => ?_⟩
      · simp only [Instr.buildSlice, Sem.run_bind, run_underlying hu, Result.andThen_ok, run_szB h5]
        by_cases h0 : m * esz = 0
        · have hp : parts.toList = [] := by
            simp only [Bool.or_eq_true, decide_eq_true_eq, List.isEmpty_iff] at h2
            rcases h2 with h2 | h2
            · omega
            · exact h2
          rw [if_neg (by omega), if_pos h0]
          have hmap2 : (parts.map fun x => (x.1, b.eval x.2)).toList = [] := by rw [hmap, hp]; rfl
          have k1 : Instr.fill (fun i => some (i * esz, esz)) ((Array.range (m * esz)).map (zv.cells[· % zv.cells.size]!)) [] = some c := by rw [hp] at k1; exact k1
          have hr0 : ∀ f : Nat → Value, (Array.range 0).map f = #[] := fun f => by simp
          have hc : c = #[] := by
            rw [h0, hr0] at k1
            have : some #[] = some c := k1
            cases this; rfl
          subst hc
          simp only [Sem.run_bind, Result.andThen_ok, Sem.run_pure, hmap2, h0, hr0, newRow, newObj, Sem.run]
          rfl
        · rw [if_neg (by omega), if_neg h0]
          simp only [Sem.run_bind, hz, Result.andThen_ok, Sem.run_pure, hmap, k1, newRow, newObj, Sem.run]
          rfl
      · have := VR.slice (ι := ι') (nameOf σ nm) 0 m (some m) esz _ ⟨w.heap.size, 0 + 0, none⟩ m h rfl (fun n hn => by cases hn; rfl) (Nat.le_refl _) (fun _ => rfl) (by simp [hcs])
        simpa using this
    · cases h
  · cases h4
end
end Go.Proofs.YtknhohgnilamcaaGreatDoor
