/-
  bytes.Compare, for every two slices of bytes: exactly.
-/
import Derived.Test.YtbikpdgeldhkoaaDoorProg
import Derived.Test.YtbikpdgeldhkoaaDoorEnOne
import Derived.Lib.Bytealg
import Derived.WalkKit
import Derived.ProofKit
import Derived.Handy
namespace Go.Proofs.YtbikpdgeldhkoaaDoor.Ir
set_option linter.unusedVariables false
set_option linter.unusedSimpArgs false
set_option maxRecDepth 100000
open Go Go.Proofs.YtbikpdgeldhkoaaDoor Go.RowKit

noncomputable def cmpN (a : List Nat) : List Nat → Int := List.rec (motive := fun _ => List Nat → Int) (fun b => match b with | [] => .ofNat 0 | _ :: _ => .negSucc 0)
  (fun x _ ih b => match b with | [] => .ofNat 1 | y :: b => (match Nat.blt x y with | true => .negSucc 0 | false => (match Nat.blt y x with | true => .ofNat 1 | false => ih b))) a
theorem u8_lt {x y : Nat} (hx : x < 256) (hy : y < 256) : (x.toUInt8 < y.toUInt8) ↔ x < y := by
  rw [UInt8.lt_iff_toNat_lt]
  simp only [Nat.toUInt8, UInt8.toNat_ofNat']
  omega
theorem cmpN_eq : ∀ (a b : List Nat), (∀ x ∈ a, x < 256) → (∀ x ∈ b, x < 256) → Lib.compareBytes (a.map (·.toUInt8)) (b.map (·.toUInt8)) = cmpN a b
  | [], [], _, _ => rfl
  | [], _ :: _, _, _ => rfl
  | _ :: _, [], _, _ => rfl
  | x :: a, y :: b, ha, hb => by
    have hx := ha x (by simp)
    have hy := hb y (by simp)
    have ih := cmpN_eq a b (fun z hz => ha z (by simp [hz])) (fun z hz => hb z (by simp [hz]))
    show (if x.toUInt8 < y.toUInt8 then (-1 : Int) else if y.toUInt8 < x.toUInt8 then 1 else Lib.compareBytes (a.map (·.toUInt8)) (b.map (·.toUInt8))) = (match Nat.blt x y with | true => .negSucc 0 | false => (match Nat.blt y x with | true => .ofNat 1 | false => cmpN a b))
    rw [ih, blt_eq, blt_eq]
    by_cases h1 : x < y
    · rw [if_pos ((u8_lt hx hy).2 h1)]; simp [h1]
    · rw [if_neg (fun h => h1 ((u8_lt hx hy).1 h))]
      by_cases h2 : y < x
      · rw [if_pos ((u8_lt hy hx).2 h2)]; simp [h1, h2]
      · rw [if_neg (fun h => h2 ((u8_lt hy hx).1 h))]; simp [h1, h2]
theorem cmpN_range (a b : List Nat) : cmpN a b = 0 ∨ cmpN a b = 1 ∨ cmpN a b = -1 := by
  induction a generalizing b with
  | nil => cases b with | nil => exact .inl rfl | cons => exact .inr (.inr rfl)
  | cons x a ih =>
    cases b with
    | nil => exact .inr (.inl rfl)
    | cons y b =>
      show (match Nat.blt x y with | true => (.negSucc 0 : Int) | false => (match Nat.blt y x with | true => .ofNat 1 | false => cmpN a b)) = 0 ∨ _
      cases h1 : Nat.blt x y with
      | true => exact .inr (.inr (by show (match Nat.blt x y with | true => (.negSucc 0 : Int) | false => _) = -1; rw [h1]; rfl))
      | false =>
        cases h2 : Nat.blt y x with
        | true => exact .inr (.inl (by show (match Nat.blt x y with | true => (.negSucc 0 : Int) | false => (match Nat.blt y x with | true => .ofNat 1 | false => cmpN a b)) = 1; rw [h1, h2]; rfl))
        | false =>
          have e : cmpN (x :: a) (y :: b) = cmpN a b := by
            show (match Nat.blt x y with | true => (.negSucc 0 : Int) | false => (match Nat.blt y x with | true => .ofNat 1 | false => cmpN a b)) = _
            rw [h1, h2]
          simp only
          rw [e]
          exact ih b
theorem loadBytes_run {P : Program} {w : World} : ∀ (l : List Nat) (a : Addr) (acc : ByteArray), a.spot = none → (∀ i b, l[i]? = some b → w.cell? ⟨a.block, a.off + i, none⟩ = some (.int .u8 (.ofNat b))) →
    (Extern.Bytes.loadBytes a l.length acc).run P w = .ok ⟨acc.data ++ (l.map (·.toUInt8)).toArray⟩ w
  | [], a, acc, _, _ => by
    show Result.ok acc w = _
    simp
  | b :: l, a, acc, hs, h => by
    have h0 := h 0 b rfl
    obtain ⟨blk, off, spot⟩ := a
    simp only at hs
    subst hs
    have ih := loadBytes_run (P := P) (w := w) l (Addr.add ⟨blk, off, none⟩ 1) (acc.push b.toUInt8) rfl (fun i c hi => by
      have := h (i + 1) c (by simpa using hi)
      show w.cell? ⟨blk, off + 1 + i, none⟩ = _
      rw [show off + 1 + i = off + (i + 1) by omega]
      exact this)
    show (Extern.Bytes.loadBytes ⟨blk, off, none⟩ (l.length + 1) acc).run P w = _
    unfold Extern.Bytes.loadBytes
    simp only [Sem.run_bind, run_load]
    have h0' : w.cell? ⟨blk, off, none⟩ = some (.int .u8 (.ofNat b)) := h0
    rw [h0']
    simp only [Result.andThen]
    have e : (Int.ofNat b).toNat.toUInt8 = b.toUInt8 := rfl
    rw [e, ih]
    congr 1
    simp
def bytesV (w : World) (v : Value) (l : List Nat) : Prop := ∃ a c, v = .slice (some a) l.length c ∧ (l = [] ∨ a.spot = none) ∧ ∀ i b, l[i]? = some b → w.cell? ⟨a.block, a.off + i, none⟩ = some (.int .u8 (.ofNat b))
theorem bytesOf_run {P : Program} {w : World} {v : Value} {l : List Nat} (h : bytesV w v l) : (Extern.Bytes.bytesOf v).run P w = .ok ⟨(l.map (·.toUInt8)).toArray⟩ w := by
  obtain ⟨a, c, rfl, h1, h2⟩ := h
  show (Extern.Bytes.loadBytes a l.length .empty).run P w = _
  rcases h1 with rfl | h1
  · rfl
  · rw [loadBytes_run l a .empty h1 h2]
    simp
theorem compare_run {P : Program} {w : World} {x y : Value} {l m : List Nat} (hx : bytesV w x l) (hy : bytesV w y m) (hl : ∀ b ∈ l, b < 256) (hm : ∀ b ∈ m, b < 256) :
    (Extern.BytealgCompare.compare #[x, y]).run P w = .ok (.int .i64 (cmpN l m)) w := by
  change Sem.run P (do pure (goInt (Extern.BytealgCompare.cmp (← Extern.Bytes.bytesOf x) (← Extern.Bytes.bytesOf y)))) w = _
  simp only [Sem.run_bind, bytesOf_run hx, bytesOf_run hy, Sem.run_pure, Result.andThen]
  rw [Lib.cmp_eq]
  simp only [cmpN_eq l m hl hm]
  rfl
set_option maxHeartbeats 1000000 in
theorem bcmp_calls {w : World} {x y : Value} {l m : List Nat} (hx : bytesV w x l) (hy : bytesV w y m) (hl : ∀ b ∈ l, b < 256) (hm : ∀ b ∈ m, b < 256) :
    Calls Tryd.prog 111 #[x, y] w fun e w' => e = .returned (.int .i64 (cmpN l m)) ∧ w' = w := by
  have hr := compare_run (P := Tryd.prog) hx hy hl hm
  obtain ⟨R, hR⟩ : ∃ R : Value, .int .i64 (cmpN l m) = R := ⟨_, rfl⟩
  rw [hR] at hr ⊢
  clear hx hy hl hm
  go_enter Tryd.func111, Tryd.ntmps111
  go_wp2
  rw [run_callFunc_extern Tryd.func125 (by kernel_rfl) (by kernel_rfl) (by kernel_rfl) (e := Extern.BytealgCompare.compare) (by kernel_rfl), hr]
  simp only [Result.andThen]
  rw [Oper.upon_value]
  go_wp2
  go_ret
  exact ⟨rfl, rfl⟩
end Go.Proofs.YtbikpdgeldhkoaaDoor.Ir
