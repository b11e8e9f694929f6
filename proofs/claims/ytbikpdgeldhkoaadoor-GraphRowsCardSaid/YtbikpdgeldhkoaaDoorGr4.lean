/-
  GraphRows: a case that the kernel has run, for the program; the law out of all cases.
-/
import Derived.Test.YtbikpdgeldhkoaaDoorGr3
namespace Go.Proofs.YtbikpdgeldhkoaaDoor.Ir
set_option linter.unusedVariables false
set_option linter.unusedSimpArgs false
set_option maxRecDepth 100000
open Go Go.Proofs.YtbikpdgeldhkoaaDoor
/-- what the kernel says of a case -/
noncomputable def okT (n j r : Nat) (t : TK) : TK := some ([.bool true], [], dgT (n1 t), rep (e2 r n j, true) 14 (rep (e1 r j, true) 5 (rep (true, true) 35 [])), dgT (n2 t))
noncomputable def okS (c : CK) (n : Nat) (y : Int) (r : Nat) : CK := some (.int .i64 y, [], dgT (vs1 c), lmap (fun x => (x.1, okT n x.1 r x.2)) (vs2 c))
/-! the sums are the same, whichever order -/
theorem wS (m : Nat) (h : m < 18446744073709551616) : wrapQ .u64 (.ofNat m) = .ofNat m := by
  show Int.ofNat (Nat.mod m 18446744073709551616) = _
  rw [show Nat.mod m 18446744073709551616 = m from Nat.mod_eq_of_lt h]
theorem lupF_eq (r : Nat) (hr : r < 1000000) : ∀ (l : List Nat) (s : Nat), (∀ i ∈ l, i < 20) → s + l.length * 1000100 < 18446744073709551616 → lupF r l (.ofNat s) = .ofNat (s + l.length * r + l.sum)
  | [], s, _, _ => by simp [lupF]
  | i :: l, s, h, hs => by
    have hi := h i (by simp)
    have hl : (i :: l).length = l.length + 1 := rfl
    rw [hl, Nat.succ_mul] at hs
    have e : lupF r (i :: l) (.ofNat s) = lupF r l (wrapQ .u64 (Int.add (.ofNat s) (wrapQ .u64 (Int.mul (.ofNat 1) (wrapQ .u64 (Int.add (.ofNat r) (.ofNat i))))))) := rfl
    rw [e, show Int.add (.ofNat r) (.ofNat i) = .ofNat (r + i) from rfl, wS _ (by omega), show Int.mul (.ofNat 1) (.ofNat (r + i)) = .ofNat (1 * (r + i)) from rfl, Nat.one_mul, wS _ (by omega),
      show Int.add (.ofNat s) (.ofNat (r + i)) = .ofNat (s + (r + i)) from rfl, wS _ (by omega), lupF_eq r hr l (s + (r + i)) (fun x hx => h x (by simp [hx])) (by omega), hl, Nat.succ_mul, List.sum_cons]
    congr 1
    omega
theorem laF_eq (r : Nat) (hr : r < 1000000) : ∀ (l : List Nat) (s : Nat), (∀ i ∈ l, i < 20) → s + l.length * 1000100 < 18446744073709551616 → laF r l (.ofNat s) = .ofNat (s + l.length * r + l.sum)
  | [], s, _, _ => by simp [laF]
  | i :: l, s, h, hs => by
    have hi := h i (by simp)
    have hl : (i :: l).length = l.length + 1 := rfl
    rw [hl, Nat.succ_mul] at hs
    have e : laF r (i :: l) (.ofNat s) = laF r l (wrapQ .u64 (Int.add (wrapQ .u64 (Int.add (.ofNat s) (.ofNat r))) (.ofNat i))) := rfl
    rw [e, show Int.add (.ofNat s) (.ofNat r) = .ofNat (s + r) from rfl, wS _ (by omega), show Int.add (.ofNat (s + r)) (.ofNat i) = .ofNat (s + r + i) from rfl, wS _ (by omega), laF_eq r hr l (s + r + i) (fun x hx => h x (by simp [hx])) (by omega), hl, Nat.succ_mul, List.sum_cons]
    congr 1
    omega
theorem sum_same (r : Nat) (hr : r < 1000000) {l m : List Nat} (h1 : ∀ i ∈ l, i < 20) (h2 : ∀ i ∈ m, i < 20) (h3 : l.length = m.length) (h4 : l.sum = m.sum) (h5 : m.length ≤ 20) : ieqQ (lupF r l (.ofNat 0)) (laF r m (.ofNat 0)) = true := by
  rw [lupF_eq r hr l 0 h1 (by omega), laF_eq r hr m 0 h2 (by omega), h3, h4]
  show Nat.beq _ _ = true
  rw [nbeq_eq]; simp
def sameB (l m : List Nat) : Bool := l.all (fun i => Nat.blt i 20) && m.all (fun i => Nat.blt i 20) && Nat.beq l.length m.length && Nat.beq l.sum m.sum && Nat.ble m.length 20
theorem sum_sameB (r : Nat) (hr : r < 1000000) {l m : List Nat} (h : sameB l m = true) : ieqQ (lupF r l (.ofNat 0)) (laF r m (.ofNat 0)) = true := by
  simp only [sameB, Bool.and_eq_true] at h
  obtain ⟨⟨⟨⟨h1, h2⟩, h3⟩, h4⟩, h5⟩ := h
  rw [List.all_eq_true] at h1 h2
  exact sum_same r hr (fun i hi => by have := h1 i hi; rw [blt_eq] at this; simpa using this) (fun i hi => by have := h2 i hi; rw [blt_eq] at this; simpa using this) (Nat.eq_of_beq_eq_true h3) (Nat.eq_of_beq_eq_true h4) (Nat.le_of_ble_eq_true h5)
theorem e1_all : (List.range 20).all (fun j => sameB (sel (inU j) srt) (sel (inU j) (upto 0))) = true := by decide +kernel
theorem e2_all : (List.range 21).all (fun n => (List.range 20).all fun j => sameB (sel (inD n j) srt) (sel (inD n j) (upto 0))) = true := by decide +kernel
theorem e1_ok (r j : Nat) (hr : r < 1000000) (hj : j < 20) : e1 r j = true := sum_sameB r hr (List.all_eq_true.1 e1_all j (by simpa using hj))
theorem e2_ok (r n j : Nat) (hr : r < 1000000) (hn : n < 21) (hj : j < 20) : e2 r n j = true := sum_sameB r hr (List.all_eq_true.1 (List.all_eq_true.1 e2_all n (by simpa using hn)) j (by simpa using hj))
abbrev fin (w0 : World) : Exit → Act → World → Prop := fun e a' w' => e = .ret ∧ ∃ A' σ', At gs 157 w0 A' σ' a' w' ∧ resF (resI f5) A' σ' = some [.bool true]
theorem lmap_at {α β : Type} {f g : α → β} : ∀ {l : List α}, lmap f l = lmap g l → ∀ x ∈ l, f x = g x
  | [], _, x, hx => by cases hx
  | z :: l, h, x, hx => by
    have h : f z :: lmap f l = g z :: lmap g l := h
    injection h with h1 h2
    rcases List.mem_cons.1 hx with rfl | hx
    · exact h1
    · exact lmap_at h2 x hx
theorem lmap_lmap {α β γ : Type} (f : β → γ) (g : α → β) : ∀ l : List α, lmap f (lmap g l) = lmap (fun x => f (g x)) l
  | [] => rfl
  | x :: l => by
    show f (g x) :: lmap f (lmap g l) = f (g x) :: lmap (fun x => f (g x)) l
    rw [lmap_lmap f g l]
theorem rep_mem {x y : Bool × Bool} : ∀ {n : Nat} {l : List (Bool × Bool)}, y ∈ rep x n l → y = x ∨ y ∈ l
  | 0, l, h => .inr h
  | n + 1, l, h => by
    have h : y ∈ x :: rep x n l := h
    rcases List.mem_cons.1 h with h | h
    · exact .inl h
    · exact rep_mem h
theorem case_tri (n j r : Nat) (js : List Nat) (y : Int) (hy : y = .ofNat j) (hj : j ∈ js) (h1 : e1 r j = true) (h2 : e2 r n j = true) (hc : chk (.ofNat n) y (.ofNat r) js = okS (chk (.ofNat n) y (.ofNat r) js) n y r) (w0 : World) :
    Tri Tryd.prog E 157 (seqL lP (seqL lT cT)) (At gs 157 w0 (ofL (bB (.ofNat n) y (.ofNat r))) sg0) (fin w0) := by
  revert hc
  unfold chk
  cases hp : putR (.ofNat n) y (.ofNat r) with
  | no => intro hc; cases hc
  | ext i F σ L => intro hc; cases hc
  | ret F σ L => intro hc; cases hc
  | nrm F σ L =>
    intro hc
    have hc : some (Hot.getV p1 F, L.log, L.vs, lmap (fun j => (j, tkV (tkR F σ j))) js) = some (V.int .i64 y, ([] : List (Bool × Bool)), dgT L.vs, lmap (fun x => (x.1, okT n x.1 r x.2)) (lmap (fun j => (j, tkV (tkR F σ j))) js)) := hc
    simp only [Option.some.injEq, Prod.mk.injEq] at hc
    obtain ⟨g1, g2, g3, g4⟩ := hc
    rw [lmap_lmap] at g4
    have g5 := congrArg Prod.snd (lmap_at g4 j hj)
    have g5 : tkV (tkR F σ j) = okT n j r (tkV (tkR F σ j)) := g5
    have hO : Hot.Ob L := ⟨fun x hx => (by rw [g2] at hx; cases hx), fun x hx => (by rw [g3] at hx; exact dgT_eq _ x hx)⟩
    refine Hot.toldS okC_ (fB_ok _ _ _) hp hO (fun A' hA => ?_)
    have hs : T.get p1 A' = some (.int .i64 (.ofNat j)) := by
      rw [← hy]
      exact hA.slot g1 (by intro h; cases h)
    have hA2 := hA.again hs
    cases ht : tkR F σ j with
    | no => rw [ht] at g5; cases g5
    | ext i F σ L => rw [ht] at g5; cases g5
    | ret F σ L => rw [ht] at g5; cases g5
    | nrm F2 σ2 L2 =>
      rw [ht] at g5
      have g5 : enV (enR F2 σ2) L2 = okT n j r (enV (enR F2 σ2) L2) := g5
      cases he : enR F2 σ2 with
      | no => rw [he] at g5; cases g5
      | ext i F σ L => rw [he] at g5; cases g5
      | nrm F σ L => rw [he] at g5; cases g5
      | ret F3 σ3 L3 =>
        rw [he] at g5
        have e : enV (.ret F3 σ3 L3) L2 = match Hot.un (Hot.rsB (resI f5)) F3 σ3 with | some l => some (l, L2.log, L2.vs, L3.log, L3.vs) | none => none := rfl
        rw [e] at g5
        cases hr : Hot.un (Hot.rsB (resI f5)) F3 σ3 with
        | none => rw [hr] at g5; cases g5
        | some l =>
          rw [hr] at g5
          have g5 : some (l, L2.log, L2.vs, L3.log, L3.vs) = some ([V.bool true], ([] : List (Bool × Bool)), dgT L2.vs, rep (e2 r n j, true) 14 (rep (e1 r j, true) 5 (rep (true, true) 35 [])), dgT L3.vs) := g5
          simp only [Option.some.injEq, Prod.mk.injEq] at g5
          obtain ⟨rfl, k1, k2, k3, k4⟩ := g5
          refine Hot.toldS okC_ hA2 ht ⟨fun x hx => (by rw [k1] at hx; cases hx), fun x hx => (by rw [k2] at hx; exact dgT_eq _ x hx)⟩ (fun A3 hA3 => ?_)
          refine Hot.toldRT okC_ hA3 he ⟨fun x hx => ?_, fun x hx => by rw [k4] at hx; exact dgT_eq _ x hx⟩ hr
          rw [k3, h1, h2] at hx
          rcases rep_mem hx with rfl | hx
          · rfl
          · rcases rep_mem hx with rfl | hx
            · rfl
            · rcases rep_mem hx with rfl | hx
              · rfl
              · cases hx
/-- all cases -/
def Cases : Prop := ∀ (k : Nat), k < 20 → ∀ j, j < k + 1 → ∀ r : Nat, ∃ js, j ∈ js ∧ ∀ y, chk (.ofNat (Nat.succ k)) y (.ofNat r) js = okS (chk (.ofNat (Nat.succ k)) y (.ofNat r) js) (Nat.succ k) y r
abbrev H7 (w0 : World) (k y f : Int) (c : IR) : Prop := Tri Tryd.prog E 157 c (At gs 157 w0 (ofL (bB k y f)) sg0) (fin w0)
theorem st4 (w0 : World) (k j m : Nat) (hk : k < 20) (hj : j < k + 1) (hC : Cases) : H7 w0 (.ofNat (Nat.succ k)) (.ofNat j) (.ofNat m) (seqL l4 (seqL lP (seqL lT cT))) := by
  refine preL okC_ (k := 289) (m := 290) (σ1 := sg0) (bB (.ofNat (Nat.succ k)) (.ofNat j) (fX (.ofNat m))) (by kernel_rfl) (by kernel_rfl) (by kernel_rfl) ?_
  obtain ⟨r, hr, e⟩ := fX_eq m
  rw [e]
  obtain ⟨js, h1, h2⟩ := hC k hk j hj r
  exact case_tri (Nat.succ k) j r js _ rfl h1 (e1_ok r j hr (by omega)) (e2_ok r _ j hr (by omega) (by omega)) (h2 _) w0
theorem st3 (w0 : World) (k : Nat) (b : Int) (m : Nat) (hk : k < 20) (hC : Cases) : H7 w0 (.ofNat (Nat.succ k)) b (.ofNat m) (seqL l3 (seqL l4 (seqL lP (seqL lT cT)))) := by
  have key : ∀ {c : IR} {Q : Exit → Act → World → Prop}, Tri Tryd.prog E 157 c (At gs 157 w0 (ofL (bB (.ofNat (Nat.succ k)) (yX b k) (.ofNat m))) sg0) Q → Tri Tryd.prog E 157 (seqL l3 c) (At gs 157 w0 (ofL (bB (.ofNat (Nat.succ k)) b (.ofNat m))) sg0) Q := by
    intro c Q hc
    have hk : k = 0 ∨ k = 1 ∨ k = 2 ∨ k = 3 ∨ k = 4 ∨ k = 5 ∨ k = 6 ∨ k = 7 ∨ k = 8 ∨ k = 9 ∨ k = 10 ∨ k = 11 ∨ k = 12 ∨ k = 13 ∨ k = 14 ∨ k = 15 ∨ k = 16 ∨ k = 17 ∨ k = 18 ∨ k = 19 := by omega
    rcases hk with rfl | rfl | rfl | rfl | rfl | rfl | rfl | rfl | rfl | rfl | rfl | rfl | rfl | rfl | rfl | rfl | rfl | rfl | rfl | rfl
    · exact preL okC_ (k := 289) (m := 290) (σ1 := sg0) (bB (.ofNat 1) (yX b 0) (.ofNat m)) (by kernel_rfl) (by kernel_rfl) (by kernel_rfl) hc
    · exact preL okC_ (k := 289) (m := 290) (σ1 := sg0) (bB (.ofNat 2) (yX b 1) (.ofNat m)) (by kernel_rfl) (by kernel_rfl) (by kernel_rfl) hc
    · exact preL okC_ (k := 289) (m := 290) (σ1 := sg0) (bB (.ofNat 3) (yX b 2) (.ofNat m)) (by kernel_rfl) (by kernel_rfl) (by kernel_rfl) hc
    · exact preL okC_ (k := 289) (m := 290) (σ1 := sg0) (bB (.ofNat 4) (yX b 3) (.ofNat m)) (by kernel_rfl) (by kernel_rfl) (by kernel_rfl) hc
    · exact preL okC_ (k := 289) (m := 290) (σ1 := sg0) (bB (.ofNat 5) (yX b 4) (.ofNat m)) (by kernel_rfl) (by kernel_rfl) (by kernel_rfl) hc
    · exact preL okC_ (k := 289) (m := 290) (σ1 := sg0) (bB (.ofNat 6) (yX b 5) (.ofNat m)) (by kernel_rfl) (by kernel_rfl) (by kernel_rfl) hc
    · exact preL okC_ (k := 289) (m := 290) (σ1 := sg0) (bB (.ofNat 7) (yX b 6) (.ofNat m)) (by kernel_rfl) (by kernel_rfl) (by kernel_rfl) hc
    · exact preL okC_ (k := 289) (m := 290) (σ1 := sg0) (bB (.ofNat 8) (yX b 7) (.ofNat m)) (by kernel_rfl) (by kernel_rfl) (by kernel_rfl) hc
    · exact preL okC_ (k := 289) (m := 290) (σ1 := sg0) (bB (.ofNat 9) (yX b 8) (.ofNat m)) (by kernel_rfl) (by kernel_rfl) (by kernel_rfl) hc
    · exact preL okC_ (k := 289) (m := 290) (σ1 := sg0) (bB (.ofNat 10) (yX b 9) (.ofNat m)) (by kernel_rfl) (by kernel_rfl) (by kernel_rfl) hc
    · exact preL okC_ (k := 289) (m := 290) (σ1 := sg0) (bB (.ofNat 11) (yX b 10) (.ofNat m)) (by kernel_rfl) (by kernel_rfl) (by kernel_rfl) hc
    · exact preL okC_ (k := 289) (m := 290) (σ1 := sg0) (bB (.ofNat 12) (yX b 11) (.ofNat m)) (by kernel_rfl) (by kernel_rfl) (by kernel_rfl) hc
    · exact preL okC_ (k := 289) (m := 290) (σ1 := sg0) (bB (.ofNat 13) (yX b 12) (.ofNat m)) (by kernel_rfl) (by kernel_rfl) (by kernel_rfl) hc
    · exact preL okC_ (k := 289) (m := 290) (σ1 := sg0) (bB (.ofNat 14) (yX b 13) (.ofNat m)) (by kernel_rfl) (by kernel_rfl) (by kernel_rfl) hc
    · exact preL okC_ (k := 289) (m := 290) (σ1 := sg0) (bB (.ofNat 15) (yX b 14) (.ofNat m)) (by kernel_rfl) (by kernel_rfl) (by kernel_rfl) hc
    · exact preL okC_ (k := 289) (m := 290) (σ1 := sg0) (bB (.ofNat 16) (yX b 15) (.ofNat m)) (by kernel_rfl) (by kernel_rfl) (by kernel_rfl) hc
    · exact preL okC_ (k := 289) (m := 290) (σ1 := sg0) (bB (.ofNat 17) (yX b 16) (.ofNat m)) (by kernel_rfl) (by kernel_rfl) (by kernel_rfl) hc
    · exact preL okC_ (k := 289) (m := 290) (σ1 := sg0) (bB (.ofNat 18) (yX b 17) (.ofNat m)) (by kernel_rfl) (by kernel_rfl) (by kernel_rfl) hc
    · exact preL okC_ (k := 289) (m := 290) (σ1 := sg0) (bB (.ofNat 19) (yX b 18) (.ofNat m)) (by kernel_rfl) (by kernel_rfl) (by kernel_rfl) hc
    · exact preL okC_ (k := 289) (m := 290) (σ1 := sg0) (bB (.ofNat 20) (yX b 19) (.ofNat m)) (by kernel_rfl) (by kernel_rfl) (by kernel_rfl) hc
  refine key ?_
  obtain ⟨j, hj, e⟩ := yX_eq b k
  rw [e]
  exact st4 w0 k j m hk hj hC
theorem st2 (w0 : World) (a b : Int) (m : Nat) (hC : Cases) : H7 w0 a b (.ofNat m) (seqL l2 (seqL l3 (seqL l4 (seqL lP (seqL lT cT))))) := by
  refine preL okC_ (k := 289) (m := 290) (σ1 := sg0) (bB (kX a) b (.ofNat m)) (by kernel_rfl) (by kernel_rfl) (by kernel_rfl) ?_
  obtain ⟨k, hk, e⟩ := kX_eq a
  rw [e]
  exact st3 w0 k b m hk hC
theorem law_tri (w0 : World) (a b v : Int) (ha : IntKind.has .i64 a) (hb : IntKind.has .i64 b) (hv : IntKind.has .u64 v) (hC : Cases) :
    Tri Tryd.prog E 157 c0 (At gs 157 w0 (frameOf [.int .i64 a, .int .i64 b, .int .u64 v] .H .nil) sg0) (fin w0) := by
  have h1 := hv.1
  have h2 : IntKind.min .u64 = 0 := rfl
  rw [h2] at h1
  cases v with
  | ofNat m =>
    rw [shape]
    exact preL okC_ (k := 289) (m := 290) (σ1 := sg0) (bB a b (.ofNat m)) (by kernel_rfl) (by kernel_rfl) (by kernel_rfl) (st2 w0 a b m hC)
  | negSucc n => rw [Int.negSucc_eq] at h1; omega
theorem get3 : T.get p5 machC.tab = some (.code 157 c0 (resI f5)) := by kernel_rfl
theorem sg0_wr {p : Pos} {o : Ob} (h : T.get p sg0.h = some o) : o.wr = false := by
  have h1 := roT_spec _ _ id sg0_ro p o h
  unfold roO at h1
  split at h1
  · rename_i l kin fz ro
    cases kin with
    | cons _ _ => cases h1
    | nil =>
      simp only [Bool.and_eq_true] at h1
      show (!fz && !ro) = false
      rw [h1.1.2]; simp
  · cases h1
end Go.Proofs.YtbikpdgeldhkoaaDoor.Ir
