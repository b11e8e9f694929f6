/-
  Keys that are rows of whole numbers: what the machine asks of them. (Of no program.)
-/
import Derived.Test.YtknhohgnilamcaaGreatDoorEngM
import Derived.DeepKeys3
namespace Go.Proofs.YtknhohgnilamcaaGreatDoor
set_option linter.unusedVariables false
set_option linter.unusedSimpArgs false
set_option linter.unusedSectionVars false
open Go

section
variable {P : Program}
/-- a type's cells are whole numbers of these kinds -/
noncomputable def shapeB (P : Program) : Nat → Nat → List IntKind → Bool
  | 0, _, _ => false
  | m + 1, t, sh => match P.underlying t with
    | some (.int q) => (match sh with | [q'] => beqK q' q | _ => false)
    | some (.array n e) => Nat.beq sh.length (P.cellsOf t) && (List.range n).all fun i => shapeB P m e ((sh.drop (i * P.cellsOf e)).take (P.cellsOf e))
    | some (.struct fs) => Nat.beq sh.length (P.cellsOf t) && fs.all (·.name != "_") && fs.toList.all fun f => shapeB P m f.type ((sh.drop f.offset).take (P.cellsOf f.type))
    | _ => false
/-- cells of these kinds -/
def Sh (sh : List IntKind) (cs : List Value) : Prop := cs.length = sh.length ∧ ∀ (i : Nat) k x, sh[i]? = some k → cs[i]? = some x → ∃ n, x = .int k n ∧ k.has n
theorem Sh.part {sh : List IntKind} {cs : List Value} (h : Sh sh cs) (o c : Nat) : Sh ((sh.drop o).take c) ((cs.drop o).take c) := by
  refine ⟨by simp [h.1], fun i k x h1 h2 => ?_⟩
  rw [List.getElem?_take] at h1 h2
  split at h1
  · rename_i hi
    rw [if_pos hi] at h2
    rw [List.getElem?_drop] at h1 h2
    exact h.2 _ k x h1 h2
  · cases h1
theorem mapM_some2 {α β : Type} {f : α → Option β} : ∀ (l : List α), (∀ x ∈ l, ∃ y, f x = some y) → ∃ ys, l.mapM f = some ys
  | [], _ => ⟨[], rfl⟩
  | x :: l, h => by
    obtain ⟨y, hy⟩ := h x (by simp)
    obtain ⟨ys, hys⟩ := mapM_some2 l (fun z hz => h z (by simp [hz]))
    exact ⟨y :: ys, by simp [List.mapM_cons, hy, hys]⟩
theorem lits_of_shape : ∀ (m t : Nat) (sh : List IntKind) (cs : List Value), shapeB P m t sh = true → Sh sh cs → ∃ L, P.keyLits m t cs = some L
  | 0, t, sh, cs, h, _ => by cases h
  | m + 1, t, sh, cs, h, hs => by
    unfold shapeB at h
    split at h
    · rename_i q hu
      split at h
      · rename_i q'
        have := beqK_eq h; subst this
        obtain ⟨x, rfl⟩ : ∃ x, cs = [x] := List.length_eq_one_iff.1 (by simpa using hs.1)
        obtain ⟨n, rfl, hn⟩ := hs.2 0 q' x rfl rfl
        refine ⟨[.int q' n], ?_⟩
        unfold Program.keyLits
        simp only [hu]
        rw [if_pos]
        refine ⟨trivial, ?_⟩
        unfold IntKind.has at hn
        simpa [Lit.wf] using hn
      · cases h
    · rename_i n e hu
      simp only [Bool.and_eq_true] at h
      obtain ⟨h1, h2⟩ := h
      have h1 := nbeq h1
      obtain ⟨ys, hys⟩ := mapM_some2 (f := fun i => P.keyLits m e ((cs.drop (i * P.cellsOf e)).take (P.cellsOf e))) (List.range n) (fun i hi =>
        lits_of_shape m e _ _ (List.all_eq_true.1 h2 i hi) (hs.part _ _))
      refine ⟨ys.flatten, ?_⟩
      rw [Program.keyLits.eq_def]
      simp only [hu]
      rw [if_pos (by rw [hs.1]; exact h1), hys]
      rfl
    · rename_i fs hu
      simp only [Bool.and_eq_true] at h
      obtain ⟨⟨h1, h3⟩, h2⟩ := h
      have h1 := nbeq h1
      obtain ⟨ys, hys⟩ := mapM_some2 (f := fun f : Field => P.keyLits m f.type ((cs.drop f.offset).take (P.cellsOf f.type))) fs.toList (fun f hf =>
        lits_of_shape m f.type _ _ (List.all_eq_true.1 h2 f hf) (hs.part _ _))
      refine ⟨ys.flatten, ?_⟩
      rw [Program.keyLits.eq_def]
      simp only [hu]
      rw [if_pos ⟨by rw [hs.1]; exact h1, h3⟩, hys]
      rfl
    · cases h
noncomputable def keyB (P : Program) (t : Nat) (sh : List IntKind) : Bool := shapeB P (P.types.size + 1) t sh && P.keyTypeAt 8 t && P.keyType t && P.tiled 8 t && Nat.beq sh.length (P.cellsOf t) && !(P.eqGuardType P.depth t) &&
  (match P.underlying t with | some (.array _ _) => true | some (.struct _) => true | _ => false)
theorem Shaped.sh {sh : List IntKind} {v : Value} (h : Shaped (.cells sh) v) : ∃ c : Array Value, v = .agg c ∧ Sh sh c.toList := by
  obtain ⟨c, rfl, h1, h2⟩ := h
  exact ⟨c, rfl, by simpa using h1, fun i k x a b => h2 i k x a (by simpa using b)⟩
theorem key_of {t : Nat} {sh : List IntKind} (h : keyB P t sh = true) : KTok P t sh ∧ MapK P t (.cells sh) := by
  simp only [keyB, Bool.and_eq_true, Bool.not_eq_true'] at h
  obtain ⟨⟨⟨⟨⟨⟨h1, h2⟩, h3⟩, h4⟩, h5⟩, h6⟩, h7⟩ := h
  have h5 := nbeq h5
  have hwide : (match P.underlying t with | some (.array _ _) | some (.struct _) => true | _ => false) = true := by
    split at h7 <;> first | (rename_i hu; simp only [hu]; done) | cases h7
  have lits : ∀ v, Shaped (.cells sh) v → v.formed P t = true ∧ ∃ L, P.keyLits (P.types.size + 1) t v.cells.toList = some L := fun v hv => by
    obtain ⟨c, rfl, hs⟩ := hv.sh
    refine ⟨?_, lits_of_shape _ _ _ _ h1 hs⟩
    have hsz : c.size = P.cellsOf t := by have := hs.1; simp at this; omega
    unfold Value.formed
    split at h7
    · rename_i hu; simp [hu, hsz]
    · rename_i hu; simp [hu, hsz]
    · cases h7
  have kof : ∀ v, Shaped (.cells sh) v → ∃ l, keyOf P t v = some l := fun v hv => by
    obtain ⟨hf, L, hL⟩ := lits v hv
    refine ⟨.string (keyBytes L), ?_⟩
    unfold keyOf
    split at h7
    · rename_i hu; simp [hu, h3, hf, hL]
    · rename_i hu; simp [hu, h3, hf, hL]
    · cases h7
  have law : WideMaps.KeyLaw P t := deep_law (m := 8) (by decide) h2 h4 hwide
  refine ⟨⟨h6, fun w a b ha hb => ?_⟩, ⟨fun w em v hv => ?_, fun w x es hx hes => ?_, fun w v hv => ?_⟩⟩
  · obtain ⟨fa, la, hla⟩ := lits a ha
    obtain ⟨fb, lb, hlb⟩ := lits b hb
    obtain ⟨r, r1, r2⟩ := run_equalIn_deep 9992 8 t h2 w _ _ a b la lb fa fb hla hlb
    refine ⟨r, r1, r2.trans ?_⟩
    obtain ⟨ca, rfl, _⟩ := ha.sh
    obtain ⟨cb, rfl, _⟩ := hb.sh
    have c1 := cells_of_lits 8 t h4 _ _ _ hla
    have c2 := cells_of_lits 8 t h4 _ _ _ hlb
    simp only [Value.cells] at c1 c2
    constructor
    · rintro rfl
      congr 1
      apply Array.ext'
      rw [c1, c2]
    · intro e
      cases e
      rw [hla] at hlb
      exact Option.some.inj hlb
  · obtain ⟨l, hl⟩ := kof v hv
    exact law.check w em hl
  · obtain ⟨l, hl⟩ := kof x hx
    exact law.find w hl es (fun e he => kof _ (hes e he))
  · obtain ⟨l, hl⟩ := kof v hv
    exact law.stays w hl
end
end Go.Proofs.YtknhohgnilamcaaGreatDoor
