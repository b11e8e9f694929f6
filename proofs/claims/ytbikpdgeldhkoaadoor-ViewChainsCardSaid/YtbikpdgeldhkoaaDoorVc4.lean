/-
  ViewChains: a case that the kernel has run, for the program; the law out of all cases.
-/
import Derived.Test.YtbikpdgeldhkoaaDoorVc3
namespace Go.Proofs.YtbikpdgeldhkoaaDoor.Ir
set_option linter.unusedVariables false
set_option linter.unusedSimpArgs false
set_option maxRecDepth 100000
open Go Go.Proofs.YtbikpdgeldhkoaaDoor
abbrev CK := Option (V × List (Bool × Bool) × List (V × V) × List (Option (List V × List (Bool × Bool) × List (V × V))))
/-- what the kernel says of a case -/
noncomputable def okS (c : CK) (v y : Int) : CK := some (.int .i64 y, [(true, true), (false, false), (true, true), (big v, false)], dgT (vs1 c), lmap (fun r => some ([.bool true], [], dgT (nts r))) (vs2 c))
abbrev fin (w0 : World) : Exit → Act → World → Prop := fun e a' w' => e = .ret ∧ ∃ A' σ', At gs 190 w0 A' σ' a' w' ∧ resF (resI f3) A' σ' = some [.bool true]
theorem lmap_at {α β : Type} {f g : α → β} : ∀ {l : List α}, lmap f l = lmap g l → ∀ x ∈ l, f x = g x
  | [], _, x, hx => by cases hx
  | z :: l, h, x, hx => by
    have h : f z :: lmap f l = g z :: lmap g l := h
    injection h with h1 h2
    rcases List.mem_cons.1 hx with rfl | hx
    · exact h1
    · exact lmap_at h2 x hx
theorem lmap_lmap {α β γ : Type} (f : β → γ) (g : α → β) : ∀ l : List α, lmap f (lmap g l) = lmap (fun x => f (g x)) l
  | [] => rfl
  | x :: l => by
    show f (g x) :: lmap f (lmap g l) = f (g x) :: lmap (fun x => f (g x)) l
    rw [lmap_lmap f g l]
theorem case_tri (k j : Nat) (js : List Nat) (v y : Int) (hy : y = .ofNat j) (hj : j ∈ js) (hb : big v = false) (hc : chk (.ofNat k) v y js = okS (chk (.ofNat k) v y js) v y) (w0 : World) :
    Tri Tryd.prog E 190 (seqL lP cT) (At gs 190 w0 (ofL (bB (.ofNat k) v y)) sg0) (fin w0) := by
  revert hc
  unfold chk
  cases hp : putR (.ofNat k) v y with
  | no => intro hc; cases hc
  | ext i F σ L => intro hc; cases hc
  | ret F σ L => intro hc; cases hc
  | nrm F σ L =>
    intro hc
    have hc : some (Hot.getV p2 F, L.log, L.vs, lmap (fun j => tkV (tkR F σ j)) js) = some (V.int .i64 y, [(true, true), (false, false), (true, true), (big v, false)], dgT L.vs, lmap (fun r => some ([V.bool true], [], dgT (nts r))) (lmap (fun j => tkV (tkR F σ j)) js)) := hc
    simp only [Option.some.injEq, Prod.mk.injEq] at hc
    obtain ⟨h1, h2, h3, h4⟩ := hc
    rw [lmap_lmap] at h4
    have h5 := lmap_at h4 j hj
    have hO : Hot.Ob L := by
      refine ⟨fun x hx => ?_, fun x hx => ?_⟩
      · rw [h2] at hx
        simp only [List.mem_cons, List.mem_nil_iff, or_false] at hx
        rcases hx with rfl | rfl | rfl | rfl
        · rfl
        · rfl
        · rfl
        · exact hb
      · rw [h3] at hx
        exact dgT_eq _ x hx
    refine Hot.toldS okC_ (fB_ok _ _ _) hp hO (fun A' hA => ?_)
    have hs : T.get p2 A' = some (.int .i64 (.ofNat j)) := by
      rw [← hy]
      exact hA.slot h1 (by intro h; cases h)
    have hA2 := hA.again hs
    cases ht : tkR F σ j with
    | no => rw [ht] at h5; cases h5
    | ext i F σ L => rw [ht] at h5; cases h5
    | nrm F σ L => rw [ht] at h5; cases h5
    | ret F2 σ2 L2 =>
      rw [ht] at h5
      cases hr : Hot.un (Hot.rsB (resI f3)) F2 σ2 with
      | none =>
        have h5 : (match Hot.un (Hot.rsB (resI f3)) F2 σ2 with | some l => some (l, L2.log, L2.vs) | none => none) = some ([V.bool true], [], dgT (nts (match Hot.un (Hot.rsB (resI f3)) F2 σ2 with | some l => some (l, L2.log, L2.vs) | none => none))) := h5
        rw [hr] at h5; cases h5
      | some l =>
        have h5 : (match Hot.un (Hot.rsB (resI f3)) F2 σ2 with | some l => some (l, L2.log, L2.vs) | none => none) = some ([V.bool true], [], dgT (nts (match Hot.un (Hot.rsB (resI f3)) F2 σ2 with | some l => some (l, L2.log, L2.vs) | none => none))) := h5
        rw [hr] at h5
        have h5 : some (l, L2.log, L2.vs) = some ([V.bool true], [], dgT L2.vs) := h5
        simp only [Option.some.injEq, Prod.mk.injEq] at h5
        obtain ⟨rfl, h6, h7⟩ := h5
        exact Hot.toldR okC_ hA2 ht ⟨(fun x hx => by rw [h6] at hx; cases hx), (fun x hx => by rw [h7] at hx; exact dgT_eq _ x hx)⟩ hr
/-- all cases -/
def Cases : Prop := ∀ (k : Nat), k < 20 → ∀ j, j < k + 1 → ∀ v : Int, ∃ js, j ∈ js ∧ ∀ y, chk (.ofNat (Nat.succ k)) v y js = okS (chk (.ofNat (Nat.succ k)) v y js) v y
theorem big_eq (m : Nat) : big (.ofNat m) = false := by
  unfold big
  rw [wrapQ_eq]
  show iltQ (.ofNat 2100000000000000) (.ofNat (Nat.mod (Nat.mod m 1000) 18446744073709551616)) = false
  show Nat.blt _ _ = false
  rw [blt_eq]
  have h1 := Nat.mod_lt m (show 0 < 1000 by omega)
  have h2 : Nat.mod (Nat.mod m 1000) 18446744073709551616 < 1000 := Nat.lt_of_le_of_lt (Nat.mod_le _ _) h1
  simp
  omega
abbrev H7 (w0 : World) (k : Int) (v y : Int) (c : IR) : Prop := Tri Tryd.prog E 190 c (At gs 190 w0 (ofL (bB k v y)) sg0) (fin w0)
theorem st5 (w0 : World) (k : Nat) (v : Int) (m : Nat) (hk : k < 20) (hv : ∃ n, v = .ofNat n) (hC : Cases) : H7 w0 (.ofNat (Nat.succ k)) v (.ofNat m) (seqL l5 (seqL lP cT)) := by
  refine preL okC_ (k := 289) (m := 290) (σ1 := sg0) (bB (.ofNat (Nat.succ k)) v (yX (.ofNat m) k)) (by kernel_rfl) (by kernel_rfl) (by kernel_rfl) ?_
  rw [yX_eq m k (by omega)]
  obtain ⟨n, rfl⟩ := hv
  obtain ⟨js, h1, h2⟩ := hC k hk (m % (k + 1)) (Nat.mod_lt _ (by omega)) (.ofNat n)
  exact case_tri (Nat.succ k) (m % (k + 1)) js (.ofNat n) _ rfl h1 (big_eq n) (h2 _) w0
theorem has_neg {m : Nat} (h : IntKind.has .i64 (.negSucc m)) : m < 9223372036854775808 := by
  have h1 := h.1
  have h2 : IntKind.min .i64 = -9223372036854775808 := rfl
  rw [h2, Int.negSucc_eq] at h1
  omega
theorem st4 (w0 : World) (k : Nat) (v b : Int) (hk : k < 20) (hv : ∃ n, v = .ofNat n) (hb : IntKind.has .i64 b) (hC : Cases) : H7 w0 (.ofNat (Nat.succ k)) v b (seqL l4 (seqL l5 (seqL lP cT))) := by
  cases b with
  | ofNat m =>
    exact preL okC_ (k := 289) (m := 290) (σ1 := sg0) (bB (.ofNat (Nat.succ k)) v (.ofNat m)) (by kernel_rfl) (by kernel_rfl) (by kernel_rfl) (st5 w0 k v m hk hv hC)
  | negSucc m =>
    refine preL okC_ (k := 289) (m := 290) (σ1 := sg0) (bB (.ofNat (Nat.succ k)) v (ng m)) (by kernel_rfl) (by kernel_rfl) (by kernel_rfl) ?_
    rw [ng_eq (has_neg hb)]
    exact st5 w0 k v m hk hv hC
theorem st3 (w0 : World) (m : Nat) (v b : Int) (hv : ∃ n, v = .ofNat n) (hb : IntKind.has .i64 b) (hC : Cases) : H7 w0 (.ofNat m) v b (seqL l3 (seqL l4 (seqL l5 (seqL lP cT)))) := by
  refine preL okC_ (k := 289) (m := 290) (σ1 := sg0) (bB (kX (.ofNat m)) v b) (by kernel_rfl) (by kernel_rfl) (by kernel_rfl) ?_
  rw [kX_eq m]
  exact st4 w0 (m % 20) v b (Nat.mod_lt _ (by omega)) hv hb hC
theorem st2 (w0 : World) (a v b : Int) (ha : IntKind.has .i64 a) (hv : ∃ n, v = .ofNat n) (hb : IntKind.has .i64 b) (hC : Cases) : H7 w0 a v b (seqL l2 (seqL l3 (seqL l4 (seqL l5 (seqL lP cT))))) := by
  cases a with
  | ofNat m =>
    exact preL okC_ (k := 289) (m := 290) (σ1 := sg0) (bB (.ofNat m) v b) (by kernel_rfl) (by kernel_rfl) (by kernel_rfl) (st3 w0 m v b hv hb hC)
  | negSucc m =>
    refine preL okC_ (k := 289) (m := 290) (σ1 := sg0) (bB (ng m) v b) (by kernel_rfl) (by kernel_rfl) (by kernel_rfl) ?_
    rw [ng_eq (has_neg ha)]
    exact st3 w0 m v b hv hb hC
theorem law_tri (w0 : World) (a v b : Int) (ha : IntKind.has .i64 a) (hv : IntKind.has .u64 v) (hb : IntKind.has .i64 b) (hC : Cases) :
    Tri Tryd.prog E 190 c0 (At gs 190 w0 (frameOf [.int .i64 a, .int .u64 v, .int .i64 b] .H .nil) sg0) (fin w0) := by
  rw [shape]
  refine preL okC_ (k := 289) (m := 290) (σ1 := sg0) (bB a v b) (by kernel_rfl) (by kernel_rfl) (by kernel_rfl) (st2 w0 a v b ha ?_ hb hC)
  have h1 := hv.1
  have h2 : IntKind.min .u64 = 0 := rfl
  rw [h2] at h1
  cases v with
  | ofNat n => exact ⟨n, rfl⟩
  | negSucc n => rw [Int.negSucc_eq] at h1; omega
theorem get3 : T.get p3 machC.tab = some (.code 190 c0 (resI f3)) := by kernel_rfl
theorem sg0_wr {p : Pos} {o : Ob} (h : T.get p sg0.h = some o) : o.wr = false := by
  have h1 := roT_spec _ _ id sg0_ro p o h
  unfold roO at h1
  split at h1
  · rename_i l kin fz ro
    cases kin with
    | cons _ _ => cases h1
    | nil =>
      simp only [Bool.and_eq_true] at h1
      show (!fz && !ro) = false
      rw [h1.1.2]; simp
  · cases h1
end Go.Proofs.YtbikpdgeldhkoaaDoor.Ir
