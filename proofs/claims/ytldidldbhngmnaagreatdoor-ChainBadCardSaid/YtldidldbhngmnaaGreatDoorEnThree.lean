/-
  Part of the proof, joined from several texts.
-/
import Derived.Test.YtldidldbhngmnaaGreatDoorEnTwo
import Derived.Below
import Derived.Test.YtldidldbhngmnaaGreatDoorChecked
import Derived.KernelRfl
import Derived.Test.YtldidldbhngmnaaGreatDoorCards
import Derived.LaidMore
import Derived.Lay
import Derived.ProofKit
set_option linter.unusedVariables false
set_option linter.unusedSimpArgs false
set_option linter.unusedSectionVars false
namespace Go.Proofs.YtldidldbhngmnaaGreatDoor
open Go
theorem FR.skip {n : Nat} {ds : List Deferred} {ι : Nm} {A : T V} {a : Act} (F : FR n ds ι A a) {t : Nat} {p : Pos} (hp : p.nat = t + 1) (h : T.get p A = none) (v' : Value) : FR n ds ι A (a.put (some t) v') := by
 refine ⟨by simp [Act.put,F.size],F.defers,fun q x s hq hs => ?_⟩
 have hne : t ≠ s := fun e => by
  subst e
  have : q = p := Pos.nat_inj (by omega)
  subst this
  rw [h] at hq; cases hq
 simp only [Act.put,Array.getD_eq_getD_getElem?,Array.getElem?_setIfInBounds_ne hne]
 have := F.at_ q x s hq hs
 rw [Array.getD_eq_getD_getElem?] at this
 exact this
theorem FR.put1 {n : Nat} {ds : List Deferred} {ι : Nm} {A : T V} {a : Act} (F : FR n ds ι A a) {t : Nat} {p : Pos} (hp : p.nat = t + 1) (hn : t < n) {v : V} {v' : Value} (hv : VR ι v v') : FR n ds ι (T.set v p A) (a.put (some t) v') :=
 F.put (d := some p) (t := some t) (by simp [okDst,hp,hn]) hv
theorem FR.less {n : Nat} {ds : List Deferred} {ι : Nm} {A B : T V} {a : Act} (F : FR n ds ι A a) (h : ∀ p v,T.get p B = some v → T.get p A = some v) : FR n ds ι B a := ⟨F.size,F.defers,fun p v t h1 h2 => F.at_ p v t (h p v h1) h2⟩
theorem FR.empty {n : Nat} {ds : List Deferred} {ι : Nm} {a : Act} (h1 : a.tmps.size = n) (h2 : a.defers = ds) : FR n ds ι .nil a := ⟨h1,h2,fun p v t h _ => by rw [T.get_nil] at h; cases h⟩
end Go.Proofs.YtldidldbhngmnaaGreatDoor
namespace Go.Proofs.YtldidldbhngmnaaGreatDoor
open Go Go.RowKit
noncomputable def okV (r : Option (V × St)) (v : V) : Bool := match r with | some (w,_) => veq w v | none => false
theorem okV_run {r : Option (V × St)} {v : V} (h : okV r v = true) : ∃ σ2,r = some (v,σ2) := by
 unfold okV at h
 split at h
 ·rename_i w σ2
  exact ⟨σ2,by rw [veq_eq h]⟩
 ·cases h
noncomputable def bs (l : List Nat) : List V := lmap (fun n => V.int .u8 (.ofNat n)) l
theorem bs_bare (l : List Nat) : ∀ x ∈ bs l,Bare x := by
 intro x hx
 unfold bs at hx
 rw [lmap_eq,List.mem_map] at hx
 obtain ⟨n,_,rfl⟩ := hx
 exact bare_int _ _
noncomputable def look (l : List V) (t : List (List V × V)) : Option V := List.rec (motive := fun _ => Option V) none (fun x _ ih => match veqL veq0 x.1 l with | true => some x.2 | false => ih) t
section
variable {P : Program}
noncomputable def nmB (m : Nat) (v : V) : Bool := V.rec (motive_1 := fun _ => Bool) (motive_2 := fun _ => Bool) true (fun _ => true) (fun _ _ => true) (fun _ => true) true (fun p _ => Nat.blt p.nat m) true (fun _ _ _ _ _ => false) true (fun _ => false) true (fun _ _ _ _ _ => false) true (fun _ _ ih => ih) (fun _ _ => false) (fun _ _ => false) (fun _ => false) true (fun _ _ _ _ => true) v
theorem nmB_vr {m : Nat} {ι ι2 : Nm} (h2 : ∀ x : Pos,x.nat < m → ι2 x = ι x) {v : V} {y : Value} (h : VR ι v y) : nmB m v = true → VR ι2 v y := by
 induction h with
 | u v => exact fun _ => .u v
 | bool b => exact fun _ => .bool b
 | int k n hn => exact fun _ => .int k n hn
 | str l s hs => exact fun _ => .str l s hs
 | nilp => exact fun _ => .nilp
 | ptr p o pl hp hk =>
  intro hb
  have hb : Nat.blt p.nat m = true := hb
  rw [blt_eq] at hb
  exact .ptr p o pl ((h2 p (by simpa using hb)).trans hp) hk
 | nils => exact fun _ => .nils
 | slice p o len cap esz pl a c hp hk hc hl ha hs => exact fun hb => by cases hb
 | nilm => exact fun _ => .nilm
 | map p pl hp hk => exact fun hb => by cases hb
 | nilf => exact fun _ => .nilf
 | fn f x y x' y' hx hy h1 h2 ih1 ih2 => exact fun hb => by cases hb
 | nili => exact fun _ => .nili
 | iface t v v' hv ih => exact fun hb => .iface t v v' (ih hb)
 | agg l c hl hh ih => exact fun hb => by cases hb
 | tup l c hl hh ih => exact fun hb => by cases hb
 | itr p pl hp hk => exact fun hb => by cases hb
noncomputable def roO (m : Nat) (p : Pos) (ob : Ob) : Bool := match ob with | .cells l kin fz ro => (match kin with | [] => Nat.blt p.nat m && ro && lall (nmB m) l | _ :: _ => false) | _ => false
def optB (v : Option Ob) (f : Ob → Bool) : Bool := match v with | none => true | some o => f o
noncomputable def roT (m : Nat) (t : T Ob) : (Pos → Pos) → Bool := T.rec (motive := fun _ => (Pos → Pos) → Bool) (fun _ => true)
 (fun _ v _ ihl ihr k => optB v (roO m (k .H)) && ihl (fun p => k (.O p)) && ihr (fun p => k (.I p))) t
theorem roT_spec (m : Nat) : ∀ (t : T Ob) (k : Pos → Pos),roT m t k = true → ∀ p o,T.get p t = some o → roO m (k p) o = true := by
 intro t
 induction t with
 | nil => intro k h p o hp; rw [T.get_nil] at hp; cases hp
 | node l v r ihl ihr =>
  intro k h p o hp
  have h : (optB v (roO m (k .H)) && roT m l (fun p => k (.O p)) && roT m r (fun p => k (.I p))) = true := h
  simp only [Bool.and_eq_true] at h
  cases p with
  | H =>
   have hp : v = some o := hp
   rw [hp] at h
   exact h.1.1
  | O p => exact ihl _ h.1.2 p o hp
  | I p => exact ihr _ h.2 p o hp
noncomputable def veqU (x y : V) : Bool := match x with | .u => (match y with | .u => true | _ => false) | x => veq x y
theorem veqU_eq (x y : V) (h : veqU x y = true) : x = y := by
 unfold veqU at h
 split at h
 ·cases y <;> first | rfl | cases h
 ·exact veq_eq h
noncomputable def obeq (a b : Ob) : Bool := match a with
 | .cells l kin fz ro => (match b with | .cells l' kin' fz' ro' => (match kin with | [] => (match kin' with | [] => veqL veqU l l' && (fz == fz') && (ro == ro') | _ :: _ => false) | _ :: _ => false) | _ => false)
 | _ => false
theorem obeq_eq {a b : Ob} (h : obeq a b = true) : a = b := by
 cases a <;> try (cases h; done)
 cases b <;> try (cases h; done)
 rename_i l kin fz ro l' kin' fz' ro'
 cases kin <;> try (cases h; done)
 cases kin' <;> try (cases h; done)
 have h : (veqL veqU l l' && (fz == fz') && (ro == ro')) = true := h
 simp only [Bool.and_eq_true,beq_iff_eq] at h
 rw [veqL_eq veqU_eq h.1.1,h.1.2,h.2]
noncomputable def obeqO (v v' : Option Ob) : Bool := match v with | none => (match v' with | none => true | some _ => false) | some x => (match v' with | none => false | some y => obeq x y)
noncomputable def teq (a : T Ob) : T Ob → Bool := T.rec (motive := fun _ => T Ob → Bool) (fun b => match b with | .nil => true | .node _ _ _ => false)
 (fun _ v _ ihl ihr b => match b with | .nil => false | .node l v' r => obeqO v v' && ihl l && ihr r) a
theorem teq_eq : ∀ {a b : T Ob},teq a b = true → a = b := by
 intro a
 induction a with
 | nil => intro b h; cases b with | nil => rfl | node l v r => cases h
 | node l v r ihl ihr =>
  intro b h
  cases b with
  | nil => cases h
  | node l' v' r' =>
   have h : (obeqO v v' && teq l l' && teq r r') = true := h
   simp only [Bool.and_eq_true] at h
   rw [ihl h.1.2,ihr h.2]
   have hv := h.1.1
   congr 1
   cases v <;> cases v' <;> simp only [obeqO,Bool.false_eq_true] at hv
   ·rfl
   ·rw [obeq_eq hv]
noncomputable def onceSpec (s0 : St) (out : V) (vs : List V) (σ : St) : Option (V × St) := match vs with | [] => (match teq s0.h σ.h with | true => some (out,σ) | false => none) | _ => none
theorem once_sound {ng : GS} {call : Pos → List V → St → Option (V × St)} (hc : CallOK P ng call) {f : Pos} {s0 : St} (hng : ∀ g ∈ ng,g + 1 < s0.nx.nat) (hro : roT s0.nx.nat s0.h id = true) {out : V} (hb : Bare out) (hrun : ∃ σ2,call f [] s0 = some (out,σ2))
  {vs : List V} {σ : St} {v : V} {σ' : St} (h : onceSpec s0 out vs σ = some (v,σ')) {ι : Nm} {w : World} {args : Array Value} (hG : Gl ng ι) (R : Rep ι σ w) (hv : VRs ι vs args.toList) : Calls P (f.nat - 1) args w (Post ι σ w v σ') := by
 unfold onceSpec at h
 split at h
 ·split at h
  ·rename_i ht
   cases h
   obtain ⟨σ2,hrun⟩ := hrun
   have he := teq_eq ht
   have hall : ∀ p o,T.get p s0.h = some o → ∃ l fz,o = .cells l [] fz true ∧ p.nat < s0.nx.nat ∧ ∀ x ∈ l,nmB s0.nx.nat x = true := fun p o hp => by
    have h1 := roT_spec _ _ id hro p o hp
    unfold roO at h1
    split at h1
    ·rename_i l kin fz ro
     cases kin with
     | cons _ _ => cases h1
     | nil =>
      simp only [Bool.and_eq_true,blt_eq,decide_eq_true_eq] at h1
      rw [lall_eq] at h1
      refine ⟨l,fz,by rw [h1.1.2],h1.1.1,fun x hx => ?_⟩
      exact List.all_eq_true.1 h1.2 x hx
    ·cases h1
   refine call_forget hc (s2 := s0) (σ2 := σ2) hng ?_ hrun hb hG R ?_ (by
    have : args.toList = [] := List.eq_nil_of_length_eq_zero (by rw [← hv.1]; rfl)
    rw [this]; exact .nil)
   ·intro p o hp
    obtain ⟨l,fz,rfl,h1,h2⟩ := hall p o hp
    exact ⟨by simp [Ob.wr],rfl,h1⟩
   ·intro p o hp
    obtain ⟨l,fz,rfl,h1,h2⟩ := hall p o hp
    refine ⟨by rw [← he]; exact hp,?_⟩
    obtain ⟨pl,c,e,k1,k2,k3,k4,k5,k6⟩ := R.ob p _ (by rw [← he]; exact hp)
    refine ⟨pl,c,e,by show (if p.nat < s0.nx.nat then ι p else none) = _; rw [if_pos h1]; exact k1,k2,k3,k4,k5,fun i x y hx hy => ?_⟩
    exact nmB_vr (fun z hz => by show (if z.nat < s0.nx.nat then ι z else none) = _; rw [if_pos hz]) (k6 i x y hx hy) (h2 x (List.mem_of_getElem? hx))
  ·cases h
 ·cases h
noncomputable def numSpec (vs : List V) (σ : St) : Option (V × St) := match vs with
 | [.int .i64 n,.int .i64 b] => (match ilt (.ofNat 0) b with | true => (match ilt b (.ofNat 1000001) with | true => some (.int .i64 (Int.emod n b),σ) | false => none) | false => none)
 | _ => none
theorem num_sound {f : Pos} (hnum : ∀ (n b : Int),1 ≤ b → b ≤ 1000000 → -9223372036854775808 ≤ n → n ≤ 9223372036854775807 → ∀ w,Calls P (f.nat - 1) #[.int .i64 n,.int .i64 b] w fun e w' => e = .returned (.int .i64 (n % b)) ∧ w = w')
  {vs : List V} {σ : St} {v : V} {σ' : St} (h : numSpec vs σ = some (v,σ')) {ι : Nm} {w : World} {args : Array Value} (R : Rep ι σ w) (hv : VRs ι vs args.toList) : Calls P (f.nat - 1) args w (Post ι σ w v σ') := by
 unfold numSpec at h
 split at h
 ·rename_i n b
  split at h
  ·rename_i h1
   split at h
   ·rename_i h2
    cases h
    rw [ilt_eq] at h1 h2
    have h1 : (0 : Int) < b := by simpa using h1
    have h2 : b < (1000001 : Int) := by simpa using h2
    obtain ⟨l⟩ := args
    have hl : 2 = l.length := hv.1
    match l,hl,hv with
    | [x,y],_,hv =>
     have e1 := hv.2 0 _ x rfl rfl
     have e2 := hv.2 1 _ y rfl rfl
     cases e1 with
     | int _ _ hn =>
      cases e2 with
      | int _ _ hb =>
       refine (hnum n b (by omega) (by omega) hn.1 hn.2 w).mono ?_
       rintro e w' ⟨rfl,rfl⟩
       have hlo := Int.emod_nonneg n (show b ≠ 0 by omega)
       have hhi := Int.emod_lt_of_pos n (show 0 < b by omega)
       refine ⟨ι,_,rfl,.int _ _ ⟨?_,?_⟩,R,.refl _ _ _ _⟩
       ·show (-9223372036854775808 : Int) ≤ n % b; omega
       ·show n % b ≤ (9223372036854775807 : Int); omega
   ·cases h
  ·cases h
 ·cases h
def codeO (v : Option FnE) : Bool := match v with | none => true | some e => (match e with | .code _ _ _ => true | .spec _ => false)
noncomputable def noSpec (t : T FnE) : Bool := T.rec (motive := fun _ => Bool) true (fun _ v _ ihl ihr => codeO v && ihl && ihr) t
theorem noSpec_get : ∀ {t : T FnE},noSpec t = true → ∀ p s,T.get p t ≠ some (.spec s) := by
 intro t
 induction t with
 | nil => intro _ p s h; rw [T.get_nil] at h; cases h
 | node l v r ihl ihr =>
  intro h p s hp
  have h : (codeO v && noSpec l && noSpec r) = true := h
  simp only [Bool.and_eq_true] at h
  cases p with
  | H =>
   have hp : v = some (.spec s) := hp
   rw [hp] at h
   exact absurd h.1.1 (by simp [codeO])
  | O p => exact ihl h.1.2 p s hp
  | I p => exact ihr h.2 p s hp
theorem law_calls {E : Env P} {M : Mach} {okD : Nat → Nat → List RO → Array Oper → Bool} (K : MOk P E M okD) {k : Nat} {f : Pos} {vs : List V} {s0 σ' : St} {v : V} (hro : roT s0.nx.nat s0.h id = true) (hrun : runFn M k f vs s0 = some (v,σ'))
  {ι : Nm} {w : World} {args : Array Value} (hG : Gl E.ng ι) (R : Rep ι s0 w) (hv : VRs ι vs args.toList) : Calls P (f.nat - 1) args w fun e w' => ∃ v',e = .returned v' ∧ (∃ ι',VR ι' v v') ∧ Below w.heap.size w w' := by
 refine ((run_sound K k f vs s0 v σ' hrun).2 ι w args hG R hv).mono ?_
 rintro e w' ⟨ι',v',rfl,h1,h2,h3⟩
 refine ⟨v',rfl,⟨ι',h1⟩,⟨h3.os,h3.tape,h3.out,h3.size,fun r hr => h3.keep r hr ?_⟩⟩
 rintro ⟨p,o,pl,i1,i2,i3,i4⟩
 have h1 := roT_spec _ _ id hro p o i1
 unfold roO at h1
 split at h1
 ·rename_i l kin fz ro
  cases kin with
  | cons _ _ => cases h1
  | nil =>
   simp only [Bool.and_eq_true] at h1
   rw [h1.1.2] at i2
   simp [Ob.wr] at i2
 ·cases h1
end
end Go.Proofs.YtldidldbhngmnaaGreatDoor
namespace Go.Proofs.YtldidldbhngmnaaGreatDoor.Ir
set_option maxRecDepth 100000
open Go Go.Proofs.YtldidldbhngmnaaGreatDoor
noncomputable def zz (v : V) (n : Nat) : List V := Nat.rec (motive := fun _ => List V) [] (fun _ ih => v :: ih) n
noncomputable def kk (k : IntKind) (n : Nat) : List IntKind := Nat.rec (motive := fun _ => List IntKind) [] (fun _ ih => k :: ih) n
noncomputable def o (i : Nat) (d : Option Pos) (x : XOp) : RO := ⟨i,d,x,none,[]⟩
noncomputable def qo (i : Nat) (d : Option Pos) (x : QOp) : RO := ⟨i,d,.q x,none,[]⟩
noncomputable def mo (i : Nat) (d : Option Pos) (a : Arg) : RO := ⟨i,d,.q (.mv a),none,[]⟩
noncomputable def eo (i : Nat) (d : Option Pos) (x : EOp) : RO := ⟨i,d,.e x,none,[]⟩
noncomputable def co (i : Nat) (d : Option Pos) (p : Pos) (l : List Arg) : RO := ⟨i,d,.call p l,none,[]⟩
noncomputable def sr (l : List RO) (r : IR) : IR := .seq (.reg l) r
def zB : V := .int .u8 (.ofNat 0)
def vi (n : Nat) : Arg := .v (.int .i64 (.ofNat n))
def v8 (n : Nat) : Arg := .v (.int .u8 (.ofNat n))
def vw (n : Nat) : Arg := .v (.int .u32 (.ofNat n))
def vl (n : Nat) : Arg := .v (.int .u64 (.ofNat n))
def p0 : Pos := .H
def s0 : Arg := .s p0
def d0 : Option Pos := some p0
def p1 : Pos := .O .H
def s1 : Arg := .s p1
def d1 : Option Pos := some p1
def p2 : Pos := .I .H
def s2 : Arg := .s p2
def d2 : Option Pos := some p2
def p3 : Pos := .O (.O .H)
def s3 : Arg := .s p3
def d3 : Option Pos := some p3
def p4 : Pos := .I (.O .H)
def s4 : Arg := .s p4
def d4 : Option Pos := some p4
def p5 : Pos := .O (.I .H)
def s5 : Arg := .s p5
def d5 : Option Pos := some p5
def p6 : Pos := .I (.I .H)
def s6 : Arg := .s p6
def d6 : Option Pos := some p6
def p7 : Pos := .O (.O (.O .H))
def s7 : Arg := .s p7
def d7 : Option Pos := some p7
def p8 : Pos := .I (.O (.O .H))
def s8 : Arg := .s p8
def d8 : Option Pos := some p8
def p9 : Pos := .O (.I (.O .H))
def s9 : Arg := .s p9
def d9 : Option Pos := some p9
def p10 : Pos := .I (.I (.O .H))
def s10 : Arg := .s p10
def d10 : Option Pos := some p10
def p11 : Pos := .O (.O (.I .H))
def s11 : Arg := .s p11
def d11 : Option Pos := some p11
def p12 : Pos := .I (.O (.I .H))
def s12 : Arg := .s p12
def d12 : Option Pos := some p12
def p13 : Pos := .O (.I (.I .H))
def s13 : Arg := .s p13
def d13 : Option Pos := some p13
def p14 : Pos := .I (.I (.I .H))
def s14 : Arg := .s p14
def d14 : Option Pos := some p14
def p15 : Pos := .O (.O (.O (.O .H)))
def s15 : Arg := .s p15
def d15 : Option Pos := some p15
def p16 : Pos := .I (.O (.O (.O .H)))
def s16 : Arg := .s p16
def d16 : Option Pos := some p16
def p17 : Pos := .O (.I (.O (.O .H)))
def s17 : Arg := .s p17
def d17 : Option Pos := some p17
def p18 : Pos := .I (.I (.O (.O .H)))
def s18 : Arg := .s p18
def d18 : Option Pos := some p18
def p19 : Pos := .O (.O (.I (.O .H)))
def s19 : Arg := .s p19
def d19 : Option Pos := some p19
def p20 : Pos := .I (.O (.I (.O .H)))
def s20 : Arg := .s p20
def d20 : Option Pos := some p20
def p21 : Pos := .O (.I (.I (.O .H)))
def s21 : Arg := .s p21
def d21 : Option Pos := some p21
def p22 : Pos := .I (.I (.I (.O .H)))
def s22 : Arg := .s p22
def d22 : Option Pos := some p22
def p23 : Pos := .O (.O (.O (.I .H)))
def s23 : Arg := .s p23
def d23 : Option Pos := some p23
def p24 : Pos := .I (.O (.O (.I .H)))
def s24 : Arg := .s p24
def d24 : Option Pos := some p24
def p25 : Pos := .O (.I (.O (.I .H)))
def s25 : Arg := .s p25
def d25 : Option Pos := some p25
def p26 : Pos := .I (.I (.O (.I .H)))
def s26 : Arg := .s p26
def d26 : Option Pos := some p26
def p27 : Pos := .O (.O (.I (.I .H)))
def s27 : Arg := .s p27
def d27 : Option Pos := some p27
def p28 : Pos := .I (.O (.I (.I .H)))
def s28 : Arg := .s p28
def d28 : Option Pos := some p28
def p29 : Pos := .O (.I (.I (.I .H)))
def s29 : Arg := .s p29
def d29 : Option Pos := some p29
def p30 : Pos := .I (.I (.I (.I .H)))
def s30 : Arg := .s p30
def d30 : Option Pos := some p30
def p31 : Pos := .O (.O (.O (.O (.O .H))))
def s31 : Arg := .s p31
def d31 : Option Pos := some p31
def p32 : Pos := .I (.O (.O (.O (.O .H))))
def s32 : Arg := .s p32
def d32 : Option Pos := some p32
def p33 : Pos := .O (.I (.O (.O (.O .H))))
def s33 : Arg := .s p33
def d33 : Option Pos := some p33
def p34 : Pos := .I (.I (.O (.O (.O .H))))
def s34 : Arg := .s p34
def d34 : Option Pos := some p34
def p35 : Pos := .O (.O (.I (.O (.O .H))))
def s35 : Arg := .s p35
def d35 : Option Pos := some p35
def p36 : Pos := .I (.O (.I (.O (.O .H))))
def s36 : Arg := .s p36
def d36 : Option Pos := some p36
def p37 : Pos := .O (.I (.I (.O (.O .H))))
def s37 : Arg := .s p37
def d37 : Option Pos := some p37
def p38 : Pos := .I (.I (.I (.O (.O .H))))
def s38 : Arg := .s p38
def d38 : Option Pos := some p38
def p39 : Pos := .O (.O (.O (.I (.O .H))))
def s39 : Arg := .s p39
def d39 : Option Pos := some p39
def p40 : Pos := .I (.O (.O (.I (.O .H))))
def s40 : Arg := .s p40
def d40 : Option Pos := some p40
def p41 : Pos := .O (.I (.O (.I (.O .H))))
def s41 : Arg := .s p41
def d41 : Option Pos := some p41
def p42 : Pos := .I (.I (.O (.I (.O .H))))
def s42 : Arg := .s p42
def d42 : Option Pos := some p42
def p43 : Pos := .O (.O (.I (.I (.O .H))))
def s43 : Arg := .s p43
def d43 : Option Pos := some p43
def p44 : Pos := .I (.O (.I (.I (.O .H))))
def s44 : Arg := .s p44
def d44 : Option Pos := some p44
def p45 : Pos := .O (.I (.I (.I (.O .H))))
def s45 : Arg := .s p45
def d45 : Option Pos := some p45
def p46 : Pos := .I (.I (.I (.I (.O .H))))
def s46 : Arg := .s p46
def d46 : Option Pos := some p46
def p47 : Pos := .O (.O (.O (.O (.I .H))))
def s47 : Arg := .s p47
def d47 : Option Pos := some p47
def p48 : Pos := .I (.O (.O (.O (.I .H))))
def s48 : Arg := .s p48
def d48 : Option Pos := some p48
def p49 : Pos := .O (.I (.O (.O (.I .H))))
def s49 : Arg := .s p49
def d49 : Option Pos := some p49
def p50 : Pos := .I (.I (.O (.O (.I .H))))
def s50 : Arg := .s p50
def d50 : Option Pos := some p50
def p51 : Pos := .O (.O (.I (.O (.I .H))))
def s51 : Arg := .s p51
def d51 : Option Pos := some p51
def p52 : Pos := .I (.O (.I (.O (.I .H))))
def s52 : Arg := .s p52
def d52 : Option Pos := some p52
def p53 : Pos := .O (.I (.I (.O (.I .H))))
def s53 : Arg := .s p53
def d53 : Option Pos := some p53
def p54 : Pos := .I (.I (.I (.O (.I .H))))
def s54 : Arg := .s p54
def d54 : Option Pos := some p54
def p55 : Pos := .O (.O (.O (.I (.I .H))))
def s55 : Arg := .s p55
def d55 : Option Pos := some p55
def p56 : Pos := .I (.O (.O (.I (.I .H))))
def s56 : Arg := .s p56
def d56 : Option Pos := some p56
def p57 : Pos := .O (.I (.O (.I (.I .H))))
def s57 : Arg := .s p57
def d57 : Option Pos := some p57
def p58 : Pos := .I (.I (.O (.I (.I .H))))
def s58 : Arg := .s p58
def d58 : Option Pos := some p58
def p59 : Pos := .O (.O (.I (.I (.I .H))))
def s59 : Arg := .s p59
def d59 : Option Pos := some p59
def p60 : Pos := .I (.O (.I (.I (.I .H))))
def s60 : Arg := .s p60
def d60 : Option Pos := some p60
def p61 : Pos := .O (.I (.I (.I (.I .H))))
def s61 : Arg := .s p61
def d61 : Option Pos := some p61
def p62 : Pos := .I (.I (.I (.I (.I .H))))
def s62 : Arg := .s p62
def d62 : Option Pos := some p62
def p63 : Pos := .O (.O (.O (.O (.O (.O .H)))))
def s63 : Arg := .s p63
def d63 : Option Pos := some p63
def p64 : Pos := .I (.O (.O (.O (.O (.O .H)))))
def s64 : Arg := .s p64
def d64 : Option Pos := some p64
def p65 : Pos := .O (.I (.O (.O (.O (.O .H)))))
def s65 : Arg := .s p65
def d65 : Option Pos := some p65
def p66 : Pos := .I (.I (.O (.O (.O (.O .H)))))
def s66 : Arg := .s p66
def d66 : Option Pos := some p66
def p67 : Pos := .O (.O (.I (.O (.O (.O .H)))))
def s67 : Arg := .s p67
def d67 : Option Pos := some p67
def p68 : Pos := .I (.O (.I (.O (.O (.O .H)))))
def s68 : Arg := .s p68
def d68 : Option Pos := some p68
def p69 : Pos := .O (.I (.I (.O (.O (.O .H)))))
def s69 : Arg := .s p69
def d69 : Option Pos := some p69
def p70 : Pos := .I (.I (.I (.O (.O (.O .H)))))
def s70 : Arg := .s p70
def d70 : Option Pos := some p70
def p71 : Pos := .O (.O (.O (.I (.O (.O .H)))))
def s71 : Arg := .s p71
def d71 : Option Pos := some p71
def p72 : Pos := .I (.O (.O (.I (.O (.O .H)))))
def s72 : Arg := .s p72
def d72 : Option Pos := some p72
def p73 : Pos := .O (.I (.O (.I (.O (.O .H)))))
def s73 : Arg := .s p73
def d73 : Option Pos := some p73
def p74 : Pos := .I (.I (.O (.I (.O (.O .H)))))
def s74 : Arg := .s p74
def d74 : Option Pos := some p74
def p75 : Pos := .O (.O (.I (.I (.O (.O .H)))))
def s75 : Arg := .s p75
def d75 : Option Pos := some p75
def p76 : Pos := .I (.O (.I (.I (.O (.O .H)))))
def s76 : Arg := .s p76
def d76 : Option Pos := some p76
def p77 : Pos := .O (.I (.I (.I (.O (.O .H)))))
def s77 : Arg := .s p77
def d77 : Option Pos := some p77
def p78 : Pos := .I (.I (.I (.I (.O (.O .H)))))
def s78 : Arg := .s p78
def d78 : Option Pos := some p78
def p79 : Pos := .O (.O (.O (.O (.I (.O .H)))))
def s79 : Arg := .s p79
def d79 : Option Pos := some p79
def p80 : Pos := .I (.O (.O (.O (.I (.O .H)))))
def s80 : Arg := .s p80
def d80 : Option Pos := some p80
def p81 : Pos := .O (.I (.O (.O (.I (.O .H)))))
def s81 : Arg := .s p81
def d81 : Option Pos := some p81
def p82 : Pos := .I (.I (.O (.O (.I (.O .H)))))
def s82 : Arg := .s p82
def d82 : Option Pos := some p82
def p83 : Pos := .O (.O (.I (.O (.I (.O .H)))))
def s83 : Arg := .s p83
def d83 : Option Pos := some p83
def p84 : Pos := .I (.O (.I (.O (.I (.O .H)))))
def s84 : Arg := .s p84
def d84 : Option Pos := some p84
def p85 : Pos := .O (.I (.I (.O (.I (.O .H)))))
def s85 : Arg := .s p85
def d85 : Option Pos := some p85
def p86 : Pos := .I (.I (.I (.O (.I (.O .H)))))
def s86 : Arg := .s p86
def d86 : Option Pos := some p86
def p87 : Pos := .O (.O (.O (.I (.I (.O .H)))))
def s87 : Arg := .s p87
def d87 : Option Pos := some p87
def p88 : Pos := .I (.O (.O (.I (.I (.O .H)))))
def s88 : Arg := .s p88
def d88 : Option Pos := some p88
def p89 : Pos := .O (.I (.O (.I (.I (.O .H)))))
def s89 : Arg := .s p89
def d89 : Option Pos := some p89
def p90 : Pos := .I (.I (.O (.I (.I (.O .H)))))
def s90 : Arg := .s p90
def d90 : Option Pos := some p90
def p91 : Pos := .O (.O (.I (.I (.I (.O .H)))))
def s91 : Arg := .s p91
def d91 : Option Pos := some p91
def p92 : Pos := .I (.O (.I (.I (.I (.O .H)))))
def s92 : Arg := .s p92
def d92 : Option Pos := some p92
def p93 : Pos := .O (.I (.I (.I (.I (.O .H)))))
def s93 : Arg := .s p93
def d93 : Option Pos := some p93
def p94 : Pos := .I (.I (.I (.I (.I (.O .H)))))
def s94 : Arg := .s p94
def d94 : Option Pos := some p94
def p95 : Pos := .O (.O (.O (.O (.O (.I .H)))))
def s95 : Arg := .s p95
def d95 : Option Pos := some p95
def p96 : Pos := .I (.O (.O (.O (.O (.I .H)))))
def s96 : Arg := .s p96
def d96 : Option Pos := some p96
def p97 : Pos := .O (.I (.O (.O (.O (.I .H)))))
def s97 : Arg := .s p97
def d97 : Option Pos := some p97
def p98 : Pos := .I (.I (.O (.O (.O (.I .H)))))
def s98 : Arg := .s p98
def d98 : Option Pos := some p98
def p99 : Pos := .O (.O (.I (.O (.O (.I .H)))))
def s99 : Arg := .s p99
def d99 : Option Pos := some p99
def p100 : Pos := .I (.O (.I (.O (.O (.I .H)))))
def s100 : Arg := .s p100
def d100 : Option Pos := some p100
def p101 : Pos := .O (.I (.I (.O (.O (.I .H)))))
def s101 : Arg := .s p101
def d101 : Option Pos := some p101
def p102 : Pos := .I (.I (.I (.O (.O (.I .H)))))
def s102 : Arg := .s p102
def d102 : Option Pos := some p102
def p103 : Pos := .O (.O (.O (.I (.O (.I .H)))))
def s103 : Arg := .s p103
def d103 : Option Pos := some p103
def p104 : Pos := .I (.O (.O (.I (.O (.I .H)))))
def s104 : Arg := .s p104
def d104 : Option Pos := some p104
def p105 : Pos := .O (.I (.O (.I (.O (.I .H)))))
def s105 : Arg := .s p105
def d105 : Option Pos := some p105
def p106 : Pos := .I (.I (.O (.I (.O (.I .H)))))
def s106 : Arg := .s p106
def d106 : Option Pos := some p106
def p107 : Pos := .O (.O (.I (.I (.O (.I .H)))))
def s107 : Arg := .s p107
def d107 : Option Pos := some p107
def p108 : Pos := .I (.O (.I (.I (.O (.I .H)))))
def s108 : Arg := .s p108
def d108 : Option Pos := some p108
def p109 : Pos := .O (.I (.I (.I (.O (.I .H)))))
def s109 : Arg := .s p109
def d109 : Option Pos := some p109
def p110 : Pos := .I (.I (.I (.I (.O (.I .H)))))
def s110 : Arg := .s p110
def d110 : Option Pos := some p110
def p111 : Pos := .O (.O (.O (.O (.I (.I .H)))))
def s111 : Arg := .s p111
def d111 : Option Pos := some p111
def p112 : Pos := .I (.O (.O (.O (.I (.I .H)))))
def s112 : Arg := .s p112
def d112 : Option Pos := some p112
def p113 : Pos := .O (.I (.O (.O (.I (.I .H)))))
def s113 : Arg := .s p113
def d113 : Option Pos := some p113
def p114 : Pos := .I (.I (.O (.O (.I (.I .H)))))
def s114 : Arg := .s p114
def d114 : Option Pos := some p114
def p115 : Pos := .O (.O (.I (.O (.I (.I .H)))))
def s115 : Arg := .s p115
def d115 : Option Pos := some p115
def p116 : Pos := .I (.O (.I (.O (.I (.I .H)))))
def s116 : Arg := .s p116
def d116 : Option Pos := some p116
def p117 : Pos := .O (.I (.I (.O (.I (.I .H)))))
def s117 : Arg := .s p117
def d117 : Option Pos := some p117
def p118 : Pos := .I (.I (.I (.O (.I (.I .H)))))
def s118 : Arg := .s p118
def d118 : Option Pos := some p118
def p119 : Pos := .O (.O (.O (.I (.I (.I .H)))))
def s119 : Arg := .s p119
def d119 : Option Pos := some p119
def p120 : Pos := .I (.O (.O (.I (.I (.I .H)))))
def s120 : Arg := .s p120
def d120 : Option Pos := some p120
def p121 : Pos := .O (.I (.O (.I (.I (.I .H)))))
def s121 : Arg := .s p121
def d121 : Option Pos := some p121
def p122 : Pos := .I (.I (.O (.I (.I (.I .H)))))
def s122 : Arg := .s p122
def d122 : Option Pos := some p122
def p123 : Pos := .O (.O (.I (.I (.I (.I .H)))))
def s123 : Arg := .s p123
def d123 : Option Pos := some p123
def p124 : Pos := .I (.O (.I (.I (.I (.I .H)))))
def s124 : Arg := .s p124
def d124 : Option Pos := some p124
def p125 : Pos := .O (.I (.I (.I (.I (.I .H)))))
def s125 : Arg := .s p125
def d125 : Option Pos := some p125
def p126 : Pos := .I (.I (.I (.I (.I (.I .H)))))
def s126 : Arg := .s p126
def d126 : Option Pos := some p126
def p127 : Pos := .O (.O (.O (.O (.O (.O (.O .H))))))
def s127 : Arg := .s p127
def d127 : Option Pos := some p127
def p128 : Pos := .I (.O (.O (.O (.O (.O (.O .H))))))
def s128 : Arg := .s p128
def d128 : Option Pos := some p128
def p129 : Pos := .O (.I (.O (.O (.O (.O (.O .H))))))
def s129 : Arg := .s p129
def d129 : Option Pos := some p129
def p130 : Pos := .I (.I (.O (.O (.O (.O (.O .H))))))
def s130 : Arg := .s p130
def d130 : Option Pos := some p130
def p131 : Pos := .O (.O (.I (.O (.O (.O (.O .H))))))
def s131 : Arg := .s p131
def d131 : Option Pos := some p131
def p132 : Pos := .I (.O (.I (.O (.O (.O (.O .H))))))
def s132 : Arg := .s p132
def d132 : Option Pos := some p132
def p133 : Pos := .O (.I (.I (.O (.O (.O (.O .H))))))
def s133 : Arg := .s p133
def d133 : Option Pos := some p133
def p134 : Pos := .I (.I (.I (.O (.O (.O (.O .H))))))
def s134 : Arg := .s p134
def d134 : Option Pos := some p134
def p135 : Pos := .O (.O (.O (.I (.O (.O (.O .H))))))
def s135 : Arg := .s p135
def d135 : Option Pos := some p135
def p136 : Pos := .I (.O (.O (.I (.O (.O (.O .H))))))
def s136 : Arg := .s p136
def d136 : Option Pos := some p136
def p137 : Pos := .O (.I (.O (.I (.O (.O (.O .H))))))
def s137 : Arg := .s p137
def d137 : Option Pos := some p137
def p138 : Pos := .I (.I (.O (.I (.O (.O (.O .H))))))
def s138 : Arg := .s p138
def d138 : Option Pos := some p138
def p139 : Pos := .O (.O (.I (.I (.O (.O (.O .H))))))
def s139 : Arg := .s p139
def d139 : Option Pos := some p139
def p140 : Pos := .I (.O (.I (.I (.O (.O (.O .H))))))
def s140 : Arg := .s p140
def d140 : Option Pos := some p140
def p141 : Pos := .O (.I (.I (.I (.O (.O (.O .H))))))
def s141 : Arg := .s p141
def d141 : Option Pos := some p141
def p142 : Pos := .I (.I (.I (.I (.O (.O (.O .H))))))
def s142 : Arg := .s p142
def d142 : Option Pos := some p142
def p143 : Pos := .O (.O (.O (.O (.I (.O (.O .H))))))
def s143 : Arg := .s p143
def d143 : Option Pos := some p143
def p144 : Pos := .I (.O (.O (.O (.I (.O (.O .H))))))
def s144 : Arg := .s p144
def d144 : Option Pos := some p144
def p145 : Pos := .O (.I (.O (.O (.I (.O (.O .H))))))
def s145 : Arg := .s p145
def d145 : Option Pos := some p145
def p146 : Pos := .I (.I (.O (.O (.I (.O (.O .H))))))
def s146 : Arg := .s p146
def d146 : Option Pos := some p146
def p147 : Pos := .O (.O (.I (.O (.I (.O (.O .H))))))
def s147 : Arg := .s p147
def d147 : Option Pos := some p147
def p148 : Pos := .I (.O (.I (.O (.I (.O (.O .H))))))
def s148 : Arg := .s p148
def d148 : Option Pos := some p148
def p149 : Pos := .O (.I (.I (.O (.I (.O (.O .H))))))
def s149 : Arg := .s p149
def d149 : Option Pos := some p149
def p150 : Pos := .I (.I (.I (.O (.I (.O (.O .H))))))
def s150 : Arg := .s p150
def d150 : Option Pos := some p150
def p151 : Pos := .O (.O (.O (.I (.I (.O (.O .H))))))
def s151 : Arg := .s p151
def d151 : Option Pos := some p151
def p152 : Pos := .I (.O (.O (.I (.I (.O (.O .H))))))
def s152 : Arg := .s p152
def d152 : Option Pos := some p152
def p153 : Pos := .O (.I (.O (.I (.I (.O (.O .H))))))
def s153 : Arg := .s p153
def d153 : Option Pos := some p153
def p154 : Pos := .I (.I (.O (.I (.I (.O (.O .H))))))
def s154 : Arg := .s p154
def d154 : Option Pos := some p154
def p155 : Pos := .O (.O (.I (.I (.I (.O (.O .H))))))
def s155 : Arg := .s p155
def d155 : Option Pos := some p155
def p156 : Pos := .I (.O (.I (.I (.I (.O (.O .H))))))
def s156 : Arg := .s p156
def d156 : Option Pos := some p156
def p157 : Pos := .O (.I (.I (.I (.I (.O (.O .H))))))
def s157 : Arg := .s p157
def d157 : Option Pos := some p157
def p158 : Pos := .I (.I (.I (.I (.I (.O (.O .H))))))
def s158 : Arg := .s p158
def d158 : Option Pos := some p158
def p159 : Pos := .O (.O (.O (.O (.O (.I (.O .H))))))
def s159 : Arg := .s p159
def d159 : Option Pos := some p159
def p160 : Pos := .I (.O (.O (.O (.O (.I (.O .H))))))
def s160 : Arg := .s p160
def d160 : Option Pos := some p160
def p161 : Pos := .O (.I (.O (.O (.O (.I (.O .H))))))
def s161 : Arg := .s p161
def d161 : Option Pos := some p161
def p162 : Pos := .I (.I (.O (.O (.O (.I (.O .H))))))
def s162 : Arg := .s p162
def d162 : Option Pos := some p162
def p163 : Pos := .O (.O (.I (.O (.O (.I (.O .H))))))
def s163 : Arg := .s p163
def d163 : Option Pos := some p163
def p164 : Pos := .I (.O (.I (.O (.O (.I (.O .H))))))
def s164 : Arg := .s p164
def d164 : Option Pos := some p164
def p165 : Pos := .O (.I (.I (.O (.O (.I (.O .H))))))
def s165 : Arg := .s p165
def d165 : Option Pos := some p165
def p166 : Pos := .I (.I (.I (.O (.O (.I (.O .H))))))
def s166 : Arg := .s p166
def d166 : Option Pos := some p166
def p167 : Pos := .O (.O (.O (.I (.O (.I (.O .H))))))
def s167 : Arg := .s p167
def d167 : Option Pos := some p167
def p168 : Pos := .I (.O (.O (.I (.O (.I (.O .H))))))
def s168 : Arg := .s p168
def d168 : Option Pos := some p168
def p169 : Pos := .O (.I (.O (.I (.O (.I (.O .H))))))
def s169 : Arg := .s p169
def d169 : Option Pos := some p169
def p170 : Pos := .I (.I (.O (.I (.O (.I (.O .H))))))
def s170 : Arg := .s p170
def d170 : Option Pos := some p170
def p171 : Pos := .O (.O (.I (.I (.O (.I (.O .H))))))
def s171 : Arg := .s p171
def d171 : Option Pos := some p171
def p172 : Pos := .I (.O (.I (.I (.O (.I (.O .H))))))
def s172 : Arg := .s p172
def d172 : Option Pos := some p172
def p173 : Pos := .O (.I (.I (.I (.O (.I (.O .H))))))
def s173 : Arg := .s p173
def d173 : Option Pos := some p173
def p174 : Pos := .I (.I (.I (.I (.O (.I (.O .H))))))
def s174 : Arg := .s p174
def d174 : Option Pos := some p174
def p175 : Pos := .O (.O (.O (.O (.I (.I (.O .H))))))
def s175 : Arg := .s p175
def d175 : Option Pos := some p175
def p176 : Pos := .I (.O (.O (.O (.I (.I (.O .H))))))
def s176 : Arg := .s p176
def d176 : Option Pos := some p176
def p177 : Pos := .O (.I (.O (.O (.I (.I (.O .H))))))
def s177 : Arg := .s p177
def d177 : Option Pos := some p177
def p178 : Pos := .I (.I (.O (.O (.I (.I (.O .H))))))
def s178 : Arg := .s p178
def d178 : Option Pos := some p178
def p179 : Pos := .O (.O (.I (.O (.I (.I (.O .H))))))
def s179 : Arg := .s p179
def d179 : Option Pos := some p179
def p180 : Pos := .I (.O (.I (.O (.I (.I (.O .H))))))
def s180 : Arg := .s p180
def d180 : Option Pos := some p180
def p181 : Pos := .O (.I (.I (.O (.I (.I (.O .H))))))
def s181 : Arg := .s p181
def d181 : Option Pos := some p181
def p182 : Pos := .I (.I (.I (.O (.I (.I (.O .H))))))
def s182 : Arg := .s p182
def d182 : Option Pos := some p182
def p183 : Pos := .O (.O (.O (.I (.I (.I (.O .H))))))
def s183 : Arg := .s p183
def d183 : Option Pos := some p183
def p184 : Pos := .I (.O (.O (.I (.I (.I (.O .H))))))
def s184 : Arg := .s p184
def d184 : Option Pos := some p184
def p185 : Pos := .O (.I (.O (.I (.I (.I (.O .H))))))
def s185 : Arg := .s p185
def d185 : Option Pos := some p185
def p186 : Pos := .I (.I (.O (.I (.I (.I (.O .H))))))
def s186 : Arg := .s p186
def d186 : Option Pos := some p186
def p187 : Pos := .O (.O (.I (.I (.I (.I (.O .H))))))
def s187 : Arg := .s p187
def d187 : Option Pos := some p187
def p188 : Pos := .I (.O (.I (.I (.I (.I (.O .H))))))
def s188 : Arg := .s p188
def d188 : Option Pos := some p188
def p189 : Pos := .O (.I (.I (.I (.I (.I (.O .H))))))
def s189 : Arg := .s p189
def d189 : Option Pos := some p189
def p190 : Pos := .I (.I (.I (.I (.I (.I (.O .H))))))
def s190 : Arg := .s p190
def d190 : Option Pos := some p190
def p191 : Pos := .O (.O (.O (.O (.O (.O (.I .H))))))
def s191 : Arg := .s p191
def d191 : Option Pos := some p191
def p192 : Pos := .I (.O (.O (.O (.O (.O (.I .H))))))
def s192 : Arg := .s p192
def d192 : Option Pos := some p192
def p193 : Pos := .O (.I (.O (.O (.O (.O (.I .H))))))
def s193 : Arg := .s p193
def d193 : Option Pos := some p193
def p194 : Pos := .I (.I (.O (.O (.O (.O (.I .H))))))
def s194 : Arg := .s p194
def d194 : Option Pos := some p194
def p195 : Pos := .O (.O (.I (.O (.O (.O (.I .H))))))
def s195 : Arg := .s p195
def d195 : Option Pos := some p195
def p196 : Pos := .I (.O (.I (.O (.O (.O (.I .H))))))
def s196 : Arg := .s p196
def d196 : Option Pos := some p196
def p197 : Pos := .O (.I (.I (.O (.O (.O (.I .H))))))
def s197 : Arg := .s p197
def d197 : Option Pos := some p197
def p198 : Pos := .I (.I (.I (.O (.O (.O (.I .H))))))
def s198 : Arg := .s p198
def d198 : Option Pos := some p198
def p199 : Pos := .O (.O (.O (.I (.O (.O (.I .H))))))
def s199 : Arg := .s p199
def d199 : Option Pos := some p199
def p200 : Pos := .I (.O (.O (.I (.O (.O (.I .H))))))
def s200 : Arg := .s p200
def d200 : Option Pos := some p200
def p201 : Pos := .O (.I (.O (.I (.O (.O (.I .H))))))
def s201 : Arg := .s p201
def d201 : Option Pos := some p201
def p202 : Pos := .I (.I (.O (.I (.O (.O (.I .H))))))
def s202 : Arg := .s p202
def d202 : Option Pos := some p202
def p203 : Pos := .O (.O (.I (.I (.O (.O (.I .H))))))
def s203 : Arg := .s p203
def d203 : Option Pos := some p203
def p204 : Pos := .I (.O (.I (.I (.O (.O (.I .H))))))
def s204 : Arg := .s p204
def d204 : Option Pos := some p204
def p205 : Pos := .O (.I (.I (.I (.O (.O (.I .H))))))
def s205 : Arg := .s p205
def d205 : Option Pos := some p205
def p206 : Pos := .I (.I (.I (.I (.O (.O (.I .H))))))
def s206 : Arg := .s p206
def d206 : Option Pos := some p206
def p207 : Pos := .O (.O (.O (.O (.I (.O (.I .H))))))
def s207 : Arg := .s p207
def d207 : Option Pos := some p207
def p208 : Pos := .I (.O (.O (.O (.I (.O (.I .H))))))
def s208 : Arg := .s p208
def d208 : Option Pos := some p208
def p209 : Pos := .O (.I (.O (.O (.I (.O (.I .H))))))
def s209 : Arg := .s p209
def d209 : Option Pos := some p209
def p210 : Pos := .I (.I (.O (.O (.I (.O (.I .H))))))
def s210 : Arg := .s p210
def d210 : Option Pos := some p210
def p211 : Pos := .O (.O (.I (.O (.I (.O (.I .H))))))
def s211 : Arg := .s p211
def d211 : Option Pos := some p211
def p212 : Pos := .I (.O (.I (.O (.I (.O (.I .H))))))
def s212 : Arg := .s p212
def d212 : Option Pos := some p212
def p213 : Pos := .O (.I (.I (.O (.I (.O (.I .H))))))
def s213 : Arg := .s p213
def d213 : Option Pos := some p213
def p214 : Pos := .I (.I (.I (.O (.I (.O (.I .H))))))
def s214 : Arg := .s p214
def d214 : Option Pos := some p214
def p215 : Pos := .O (.O (.O (.I (.I (.O (.I .H))))))
def s215 : Arg := .s p215
def d215 : Option Pos := some p215
def p216 : Pos := .I (.O (.O (.I (.I (.O (.I .H))))))
def s216 : Arg := .s p216
def d216 : Option Pos := some p216
def p217 : Pos := .O (.I (.O (.I (.I (.O (.I .H))))))
def s217 : Arg := .s p217
def d217 : Option Pos := some p217
def p218 : Pos := .I (.I (.O (.I (.I (.O (.I .H))))))
def s218 : Arg := .s p218
def d218 : Option Pos := some p218
def p219 : Pos := .O (.O (.I (.I (.I (.O (.I .H))))))
def s219 : Arg := .s p219
def d219 : Option Pos := some p219
def p220 : Pos := .I (.O (.I (.I (.I (.O (.I .H))))))
def s220 : Arg := .s p220
def d220 : Option Pos := some p220
def p221 : Pos := .O (.I (.I (.I (.I (.O (.I .H))))))
def s221 : Arg := .s p221
def d221 : Option Pos := some p221
def p222 : Pos := .I (.I (.I (.I (.I (.O (.I .H))))))
def s222 : Arg := .s p222
def d222 : Option Pos := some p222
def p223 : Pos := .O (.O (.O (.O (.O (.I (.I .H))))))
def s223 : Arg := .s p223
def d223 : Option Pos := some p223
def p224 : Pos := .I (.O (.O (.O (.O (.I (.I .H))))))
def s224 : Arg := .s p224
def d224 : Option Pos := some p224
def p225 : Pos := .O (.I (.O (.O (.O (.I (.I .H))))))
def s225 : Arg := .s p225
def d225 : Option Pos := some p225
def p226 : Pos := .I (.I (.O (.O (.O (.I (.I .H))))))
def s226 : Arg := .s p226
def d226 : Option Pos := some p226
def p227 : Pos := .O (.O (.I (.O (.O (.I (.I .H))))))
def s227 : Arg := .s p227
def d227 : Option Pos := some p227
def p228 : Pos := .I (.O (.I (.O (.O (.I (.I .H))))))
def s228 : Arg := .s p228
def d228 : Option Pos := some p228
def p229 : Pos := .O (.I (.I (.O (.O (.I (.I .H))))))
def s229 : Arg := .s p229
def d229 : Option Pos := some p229
def p230 : Pos := .I (.I (.I (.O (.O (.I (.I .H))))))
def s230 : Arg := .s p230
def d230 : Option Pos := some p230
def p231 : Pos := .O (.O (.O (.I (.O (.I (.I .H))))))
def s231 : Arg := .s p231
def d231 : Option Pos := some p231
def p232 : Pos := .I (.O (.O (.I (.O (.I (.I .H))))))
def s232 : Arg := .s p232
def d232 : Option Pos := some p232
def p233 : Pos := .O (.I (.O (.I (.O (.I (.I .H))))))
def s233 : Arg := .s p233
def d233 : Option Pos := some p233
def p234 : Pos := .I (.I (.O (.I (.O (.I (.I .H))))))
def s234 : Arg := .s p234
def d234 : Option Pos := some p234
def p235 : Pos := .O (.O (.I (.I (.O (.I (.I .H))))))
def s235 : Arg := .s p235
def d235 : Option Pos := some p235
def p236 : Pos := .I (.O (.I (.I (.O (.I (.I .H))))))
def s236 : Arg := .s p236
def d236 : Option Pos := some p236
def p237 : Pos := .O (.I (.I (.I (.O (.I (.I .H))))))
def s237 : Arg := .s p237
def d237 : Option Pos := some p237
def p238 : Pos := .I (.I (.I (.I (.O (.I (.I .H))))))
def s238 : Arg := .s p238
def d238 : Option Pos := some p238
def p239 : Pos := .O (.O (.O (.O (.I (.I (.I .H))))))
def s239 : Arg := .s p239
def d239 : Option Pos := some p239
def p240 : Pos := .I (.O (.O (.O (.I (.I (.I .H))))))
def s240 : Arg := .s p240
def d240 : Option Pos := some p240
def p241 : Pos := .O (.I (.O (.O (.I (.I (.I .H))))))
def s241 : Arg := .s p241
def d241 : Option Pos := some p241
def p242 : Pos := .I (.I (.O (.O (.I (.I (.I .H))))))
def s242 : Arg := .s p242
def d242 : Option Pos := some p242
def p243 : Pos := .O (.O (.I (.O (.I (.I (.I .H))))))
def s243 : Arg := .s p243
def d243 : Option Pos := some p243
def p244 : Pos := .I (.O (.I (.O (.I (.I (.I .H))))))
def s244 : Arg := .s p244
def d244 : Option Pos := some p244
def p245 : Pos := .O (.I (.I (.O (.I (.I (.I .H))))))
def s245 : Arg := .s p245
def d245 : Option Pos := some p245
def p246 : Pos := .I (.I (.I (.O (.I (.I (.I .H))))))
def s246 : Arg := .s p246
def d246 : Option Pos := some p246
def p247 : Pos := .O (.O (.O (.I (.I (.I (.I .H))))))
def s247 : Arg := .s p247
def d247 : Option Pos := some p247
def p248 : Pos := .I (.O (.O (.I (.I (.I (.I .H))))))
def s248 : Arg := .s p248
def d248 : Option Pos := some p248
def p249 : Pos := .O (.I (.O (.I (.I (.I (.I .H))))))
def s249 : Arg := .s p249
def d249 : Option Pos := some p249
def p250 : Pos := .I (.I (.O (.I (.I (.I (.I .H))))))
def s250 : Arg := .s p250
def d250 : Option Pos := some p250
def p251 : Pos := .O (.O (.I (.I (.I (.I (.I .H))))))
def s251 : Arg := .s p251
def d251 : Option Pos := some p251
def p252 : Pos := .I (.O (.I (.I (.I (.I (.I .H))))))
def s252 : Arg := .s p252
def d252 : Option Pos := some p252
def p253 : Pos := .O (.I (.I (.I (.I (.I (.I .H))))))
def s253 : Arg := .s p253
def d253 : Option Pos := some p253
def p254 : Pos := .I (.I (.I (.I (.I (.I (.I .H))))))
def s254 : Arg := .s p254
def d254 : Option Pos := some p254
def p255 : Pos := .O (.O (.O (.O (.O (.O (.O (.O .H)))))))
def s255 : Arg := .s p255
def d255 : Option Pos := some p255
def p256 : Pos := .I (.O (.O (.O (.O (.O (.O (.O .H)))))))
def s256 : Arg := .s p256
def d256 : Option Pos := some p256
def p257 : Pos := .O (.I (.O (.O (.O (.O (.O (.O .H)))))))
def s257 : Arg := .s p257
def d257 : Option Pos := some p257
def p258 : Pos := .I (.I (.O (.O (.O (.O (.O (.O .H)))))))
def s258 : Arg := .s p258
def d258 : Option Pos := some p258
def p259 : Pos := .O (.O (.I (.O (.O (.O (.O (.O .H)))))))
def s259 : Arg := .s p259
def d259 : Option Pos := some p259
def p260 : Pos := .I (.O (.I (.O (.O (.O (.O (.O .H)))))))
def s260 : Arg := .s p260
def d260 : Option Pos := some p260
def p261 : Pos := .O (.I (.I (.O (.O (.O (.O (.O .H)))))))
def s261 : Arg := .s p261
def d261 : Option Pos := some p261
def p262 : Pos := .I (.I (.I (.O (.O (.O (.O (.O .H)))))))
def s262 : Arg := .s p262
def d262 : Option Pos := some p262
def p263 : Pos := .O (.O (.O (.I (.O (.O (.O (.O .H)))))))
def s263 : Arg := .s p263
def d263 : Option Pos := some p263
def p264 : Pos := .I (.O (.O (.I (.O (.O (.O (.O .H)))))))
def s264 : Arg := .s p264
def d264 : Option Pos := some p264
def p265 : Pos := .O (.I (.O (.I (.O (.O (.O (.O .H)))))))
def s265 : Arg := .s p265
def d265 : Option Pos := some p265
def p266 : Pos := .I (.I (.O (.I (.O (.O (.O (.O .H)))))))
def s266 : Arg := .s p266
def d266 : Option Pos := some p266
def p267 : Pos := .O (.O (.I (.I (.O (.O (.O (.O .H)))))))
def s267 : Arg := .s p267
def d267 : Option Pos := some p267
def p268 : Pos := .I (.O (.I (.I (.O (.O (.O (.O .H)))))))
def s268 : Arg := .s p268
def d268 : Option Pos := some p268
def p269 : Pos := .O (.I (.I (.I (.O (.O (.O (.O .H)))))))
def s269 : Arg := .s p269
def d269 : Option Pos := some p269
def p270 : Pos := .I (.I (.I (.I (.O (.O (.O (.O .H)))))))
def s270 : Arg := .s p270
def d270 : Option Pos := some p270
def p271 : Pos := .O (.O (.O (.O (.I (.O (.O (.O .H)))))))
def s271 : Arg := .s p271
def d271 : Option Pos := some p271
def p272 : Pos := .I (.O (.O (.O (.I (.O (.O (.O .H)))))))
def s272 : Arg := .s p272
def d272 : Option Pos := some p272
def p273 : Pos := .O (.I (.O (.O (.I (.O (.O (.O .H)))))))
def s273 : Arg := .s p273
def d273 : Option Pos := some p273
def p274 : Pos := .I (.I (.O (.O (.I (.O (.O (.O .H)))))))
def s274 : Arg := .s p274
def d274 : Option Pos := some p274
def p275 : Pos := .O (.O (.I (.O (.I (.O (.O (.O .H)))))))
def s275 : Arg := .s p275
def d275 : Option Pos := some p275
def p276 : Pos := .I (.O (.I (.O (.I (.O (.O (.O .H)))))))
def s276 : Arg := .s p276
def d276 : Option Pos := some p276
def p277 : Pos := .O (.I (.I (.O (.I (.O (.O (.O .H)))))))
def s277 : Arg := .s p277
def d277 : Option Pos := some p277
def p278 : Pos := .I (.I (.I (.O (.I (.O (.O (.O .H)))))))
def s278 : Arg := .s p278
def d278 : Option Pos := some p278
def p279 : Pos := .O (.O (.O (.I (.I (.O (.O (.O .H)))))))
def s279 : Arg := .s p279
def d279 : Option Pos := some p279
def p280 : Pos := .I (.O (.O (.I (.I (.O (.O (.O .H)))))))
def s280 : Arg := .s p280
def d280 : Option Pos := some p280
def p281 : Pos := .O (.I (.O (.I (.I (.O (.O (.O .H)))))))
def s281 : Arg := .s p281
def d281 : Option Pos := some p281
def p282 : Pos := .I (.I (.O (.I (.I (.O (.O (.O .H)))))))
def p283 : Pos := .O (.O (.I (.I (.I (.O (.O (.O .H)))))))
end Go.Proofs.YtldidldbhngmnaaGreatDoor.Ir
namespace Go.Proofs.YtldidldbhngmnaaGreatDoor.Ir
set_option maxRecDepth 100000
open Go Go.Proofs.YtldidldbhngmnaaGreatDoor
noncomputable def f3 : FnE := .code 165
 (sr [qo 0 d6 (.mv (.v (.bool false)))]
 (sr [co 0 d26 p5 [],mo 1 d7 s26]
 (.seq (sr [mo 0 d27 s7,qo 1 d28 (.not s27)]
 (.cnd s28 (sr [qo 0 d6 (.mv (.v (.bool false)))]
 .ret) .skip))
 (sr [mo 0 d29 s0,co 1 d30 p6 [s29],eo 2 d8 (.alo (zz (.int .i64 (.ofNat 0)) 9)),eo 3 none (.st s8 s30 9)]
 (sr [qo 0 d32 (.ldn s8 9),co 1 d33 p7 [s32],mo 2 d31 s33,qo 3 d34 (.ext s31 0),qo 4 d35 (.ext s31 1),mo 5 d9 s34,mo 6 d10 s35]
 (.seq (sr [mo 0 d36 s9,qo 1 d37 (.eqp .ptr false s36 (.v .nilp)),mo 2 d38 s37,⟨3,d39,(.q (.mv s10)),(some (p38,false)),[]⟩,⟨4,d40,(.q (.eqp (.iface true) true s39 (.v .nili))),(some (p38,false)),[]⟩,qo 5 d41 (.pick s38 (.v (.bool true)) s40)]
 (.cnd s41 (sr [qo 0 d6 (.mv (.v (.bool false)))]
 .ret) .skip))
 (sr [mo 0 d42 s1,co 1 d43 p8 [s42,(vi 6)],qo 2 d44 (.bin .add s43 (vi 2)),mo 3 d1 s44]
 (sr [mo 0 d45 s2,mo 1 d46 s1,co 2 d47 p8 [s45,s46],mo 3 d2 s47]
 (sr [co 0 d48 p9 [],eo 1 d11 (.alo (lapp [(.int .u32 (.ofNat 0))] (lapp (zz zB 32) [zB,zB,zB,zB,zB,zB,zB,zB,zB,zB,zB,zB,zB,zB,zB,zB,zB,zB,zB,zB,zB,zB,zB,zB,zB,zB,zB,zB,zB,zB,zB,zB,(.int .u32 (.ofNat 0)),(.int .u32 (.ofNat 0)),(.int .u32 (.ofNat 0)),.nils]))),eo 2 none (.st s11 s48 69)]
 (sr [qo 0 d49 (.ldn s11 69),qo 1 d50 (.ldn s8 9),co 2 d51 p10 [s49,(vi 1),s50,(v8 1),(vw 100),(vl 0)],eo 3 d12 (.alo (lapp [(.int .u32 (.ofNat 0))] (lapp (zz zB 32) [zB,zB,zB,zB,zB,zB,zB,zB,zB,zB,zB,zB,zB,zB,zB,zB,zB,zB,zB,zB,zB,zB,zB,zB,zB,zB,zB,zB,zB,zB,zB,zB,(.int .u32 (.ofNat 0)),(.int .u32 (.ofNat 0)),(.int .u32 (.ofNat 0)),.nils]))),eo 4 none (.st s12 s51 69)]
 (.seq (sr [mo 0 d53 s9,qo 1 d54 (.ldn s12 69),co 2 d55 p12 [s54],co 3 d56 p11 [s53,s55],mo 4 d52 s56,qo 5 d57 (.ext s52 0),qo 6 d58 (.ext s52 1),eo 7 d13 (.alo [.nils,.nils]),eo 8 none (.st s13 s57 2),mo 9 d14 s58]
 (sr [mo 0 d59 s14,qo 1 d60 (.eqp (.iface true) true s59 (.v .nili))]
 (.cnd s60 (sr [qo 0 d6 (.mv (.v (.bool false)))]
 .ret) .skip)))
 (sr [qo 0 d61 (.ldn s11 69),eo 1 d15 (.alo (lapp [(.int .u32 (.ofNat 0))] (lapp (zz zB 32) [zB,zB,zB,zB,zB,zB,zB,zB,zB,zB,zB,zB,zB,zB,zB,zB,zB,zB,zB,zB,zB,zB,zB,zB,zB,zB,zB,zB,zB,zB,zB,zB,(.int .u32 (.ofNat 0)),(.int .u32 (.ofNat 0)),(.int .u32 (.ofNat 0)),.nils]))),eo 2 none (.st s15 s61 69)]
 (sr [qo 0 d16 (.mv (.v .nils))]
 (sr [qo 0 d17 (.mv (.v .nili))]
 (.seq (sr [mo 0 d18 (vi 0)]
 (.blk 0 (.loop (.seq (sr [mo 0 d62 s18,mo 1 d63 s1,qo 2 d64 (.bin .lss s62 s63)]
 (.cnd s64 .skip (.exit 0)))
 (.seq (.blk 1 (sr [mo 0 d19 (vw 1)]
 (.seq (sr [mo 0 d67 s18,mo 1 d68 s1,qo 2 d69 (.bin .sub s68 (vi 1)),qo 3 d70 (.bin .eql s67 s69)]
 (.cnd s70 (.reg [mo 0 d19 (vw 1000)]) .skip))
 (sr [mo 0 d20 (vl 0)]
 (.seq (sr [mo 0 d71 s18,mo 1 d72 s2,qo 2 d73 (.bin .eql s71 s72)]
 (.cnd s73 (.reg [mo 0 d20 (vl 1)]) .skip))
 (sr [qo 0 d74 (.ldn s15 69),mo 1 d75 s18,qo 2 d76 (.bin .add s75 (vi 1)),qo 3 d77 (.ldn s8 9),mo 4 d78 s19,mo 5 d79 s20,co 6 d80 p10 [s74,s76,s77,(v8 2),s78,s79],eo 7 none (.st s15 s80 69)]
 (sr [mo 0 d81 s16,qo 1 d82 (.fadr s15 0),qo 2 d83 (.ldn s82 68),co 3 d84 p13 [s83],eo 4 d85 (.bsl (zz zB 32) [(0,32,s84)] 1 32),eo 5 d86 (.app s81 s85 32 32 false),mo 6 d16 s86]
 (sr [mo 0 d88 s9,qo 1 d89 (.ldn s15 69),co 2 d90 p12 [s89],co 3 d91 p11 [s88,s90],mo 4 d87 s91,qo 5 d92 (.ext s87 0),qo 6 d93 (.ext s87 1),mo 7 d17 s93]
 (sr [mo 0 d94 s18,mo 1 d95 s1,qo 2 d96 (.bin .sub s95 (vi 1)),qo 3 d97 (.bin .lss s94 s96),mo 4 d98 s97,⟨5,d99,(.q (.mv s17)),(some (p98,true)),[]⟩,⟨6,d100,(.q (.eqp (.iface true) true s99 (.v .nili))),(some (p98,true)),[]⟩,qo 7 d101 (.pick s98 s100 (.v (.bool false)))]
 (.cnd s101 (sr [qo 0 d6 (.mv (.v (.bool false)))]
 .ret) .skip))))))))))
 (.reg [mo 0 d65 s18,qo 1 d66 (.bin .add s65 (vi 1)),mo 2 d18 s66]))))))
 (sr [mo 0 d21 (vi 111)]
 (.seq (sr [mo 0 d102 s2,mo 1 d103 s1,qo 2 d104 (.bin .sub s103 (vi 1)),qo 3 d105 (.bin .eql s102 s104)]
 (.cnd s105 (.reg [mo 0 d21 (vi 118)]) .skip))
 (sr [mo 0 d107 s9,qo 1 d108 (.ldn s15 69),mo 2 d109 s1,qo 3 d110 (.bin .add s109 (vi 1)),qo 4 d111 (.ldn s8 9),co 5 d112 p10 [s108,s110,s111,(v8 3),(vw 1),(vl 0)],co 6 d113 p12 [s112],co 7 d114 p11 [s107,s113],mo 8 d106 s114,qo 9 d115 (.ext s106 0),qo 10 d116 (.ext s106 1),eo 11 d22 (.alo [.nils,.nils]),eo 12 none (.st s22 s115 2),mo 13 d23 s116]
 (sr [mo 0 d117 s9,co 1 d118 p14 [s117],mo 2 d24 s118]
 (.seq (sr [mo 0 d25 (vi 0)]
 (.blk 2 (.loop (.seq (sr [mo 0 d119 s25,mo 1 d120 s1,qo 2 d121 (.bin .lss s119 s120)]
 (.cnd s121 .skip (.exit 2)))
 (.seq (.blk 3 (sr [mo 0 d124 s24,mo 1 d125 s16,mo 2 d126 s25,qo 3 d127 (.iadr s125 s126 32),qo 4 d128 (.ldn s127 32),co 5 d129 p15 [s124,s128],mo 6 d130 s25,mo 7 d131 s2,qo 8 d132 (.bin .geq s130 s131),qo 9 d133 (.cmpb true s129 s132)]
 (.cnd s133 (sr [qo 0 d6 (.mv (.v (.bool false)))]
 .ret) .skip)))
 (.reg [mo 0 d122 s25,qo 1 d123 (.bin .add s122 (vi 1)),mo 2 d25 s123]))))))
 (.seq (.rgd 0 [mo 0 d134 s7,mo 1 d135 s134,⟨2,d136,(.q (.mv s17)),(some (p135,true)),[]⟩,⟨3,d137,(.q (.mv s21)),(some (p135,true)),[]⟩,⟨4,d138,(.call p16 [s136,s137]),(some (p135,true)),[]⟩,qo 5 d139 (.pick s135 s138 (.v (.bool false))),mo 6 d140 s139,⟨7,d141,(.q (.mv s23)),(some (p140,true)),[]⟩,⟨8,d142,(.call p16 [s141,(vi 111)]),(some (p140,true)),[]⟩,qo 9 d143 (.pick s140 s142 (.v (.bool false))),mo 10 d144 s143,⟨11,d145,(.q (.mv s24)),(some (p144,true)),[]⟩,⟨12,d146,(.q (.lenv s145)),(some (p144,true)),[]⟩,⟨13,d147,(.q (.mv s1)),(some (p144,true)),[]⟩,⟨14,d148,(.q (.mv s2)),(some (p144,true)),[]⟩,⟨15,d149,(.q (.bin .sub s147 s148)),(some (p144,true)),[]⟩,⟨16,d150,(.q (.bin .eql s146 s149)),(some (p144,true)),[]⟩,qo 17 d151 (.pick s144 s150 (.v (.bool false))),mo 18 d152 s151,⟨19,d153,(.q (.mv s9)),(some (p152,true)),[]⟩,⟨21,d155,(.q (.fadr s12 0)),(some (p152,true)),[]⟩,⟨22,d156,(.q (.ldn s155 68)),(some (p152,true)),[]⟩,⟨20,d154,(.call p18 [s153]),(some (p152,true)),[(p156,.ldn s155 68,(some (p152,true)))]⟩,⟨23,d157,(.call p13 [s156]),(some (p152,true)),[]⟩,⟨24,d158,(.call p17 [s154,s157]),(some (p152,true)),[]⟩,qo 25 d159 (.pick s152 s158 (.v (.bool false))),mo 26 d160 s159,⟨27,d161,(.q (.mv s9)),(some (p160,true)),[]⟩,⟨28,d162,(.call p19 [s161]),(some (p160,true)),[]⟩,⟨29,d163,(.q (.bin .eql s162 (vi 1))),(some (p160,true)),[]⟩,qo 30 d164 (.pick s160 s163 (.v (.bool false))),mo 31 d6 s164])
 .ret)))))))))))))))))))))
 [.t p6]
noncomputable def f5 : FnE := .code 25
 (sr [qo 0 d0 (.mv (.v (.bool false)))]
 (sr [co 0 d4 p6 [(vi 0)],co 1 d5 p7 [s4],mo 2 d3 s5,qo 3 d6 (.ext s3 0),qo 4 d7 (.ext s3 1),mo 5 d1 s6,mo 6 d2 s7]
 (sr [mo 0 d8 s1,qo 1 d9 (.eqp .ptr true s8 (.v .nilp)),mo 2 d10 s9,⟨3,d11,(.q (.mv s2)),(some (p10,true)),[]⟩,⟨4,d12,(.q (.eqp (.iface true) false s11 (.v .nili))),(some (p10,true)),[]⟩,qo 5 d13 (.pick s10 s12 (.v (.bool false))),mo 6 d14 s13,⟨7,d15,(.q (.mv s1)),(some (p14,true)),[]⟩,⟨8,d16,(.call p19 [s15]),(some (p14,true)),[]⟩,⟨9,d17,(.q (.bin .eql s16 (vi 0))),(some (p14,true)),[]⟩,qo 10 d18 (.pick s14 s17 (.v (.bool false))),mo 11 d19 s18,⟨12,d20,(.q (.mv s1)),(some (p19,true)),[]⟩,⟨13,d21,(.call p25 [s20]),(some (p19,true)),[]⟩,⟨14,d22,(.q (.lenv s21)),(some (p19,true)),[]⟩,⟨15,d23,(.q (.bin .eql s22 (vi 1))),(some (p19,true)),[]⟩,qo 16 d24 (.pick s19 s23 (.v (.bool false))),mo 17 d0 s24]
 .ret)))
 [.t p0]
noncomputable def f6 : FnE := .code 34
 (sr [eo 0 d2 (.alo (zz (.int .i64 (.ofNat 0)) 9))]
 (sr [qo 0 d4 (.bld (zz (.int .i64 (.ofNat 0)) 9) [(0,1,(vi 5)),(1,1,(vi 1)),(2,1,(vi 3000)),(3,1,(vi 2000)),(4,1,(vi 200)),(5,1,(vi 5)),(6,1,(vi 2000)),(7,1,(vi 5)),(8,1,(vi 2000))]),eo 1 d3 (.alo (zz (.int .i64 (.ofNat 0)) 9)),eo 2 none (.st s3 s4 9)]
 (.seq (sr [mo 0 d5 s0,co 1 d6 p8 [s5,(vi 6)]]
 (.blk 0 (sr [qo 0 d8 (.bin .eql s6 (vi 1)),mo 1 d7 s8]
 (.cnd s7 (sr [qo 0 d9 (.fadr s3 1),eo 1 none (.st s9 (vi 0) 1)]
 (.reg [qo 0 d10 (.fadr s3 2),eo 1 none (.st s10 (vi 700) 1)])) (sr [qo 0 d12 (.bin .eql s6 (vi 2)),mo 1 d11 s12]
 (.cnd s11 (sr [qo 0 d13 (.fadr s3 1),eo 1 none (.st s13 (vi 2) 1)]
 (sr [qo 0 d14 (.fadr s3 3),eo 1 none (.st s14 (vi 300) 1)]
 (.reg [qo 0 d15 (.fadr s3 4),eo 1 none (.st s15 (vi 4) 1)]))) (sr [qo 0 d17 (.bin .eql s6 (vi 3)),mo 1 d16 s17]
 (.cnd s16 (sr [qo 0 d18 (.fadr s3 5),eo 1 none (.st s18 (vi 2) 1)]
 (.reg [qo 0 d19 (.fadr s3 7),eo 1 none (.st s19 (vi 3) 1)])) (sr [qo 0 d21 (.bin .eql s6 (vi 4)),mo 1 d20 s21]
 (.cnd s20 (sr [qo 0 d22 (.fadr s3 6),eo 1 none (.st s22 (vi 400) 1)]
 (.reg [qo 0 d23 (.fadr s3 8),eo 1 none (.st s23 (vi 500) 1)])) (sr [qo 0 d25 (.bin .eql s6 (vi 5)),mo 1 d24 s25]
 (.cnd s24 (sr [qo 0 d26 (.fadr s3 1),eo 1 none (.st s26 (vi 0) 1)]
 (sr [qo 0 d27 (.fadr s3 2),eo 1 none (.st s27 (vi 1048576) 1)]
 (sr [qo 0 d28 (.fadr s3 5),eo 1 none (.st s28 (vi 50) 1)]
 (sr [qo 0 d29 (.fadr s3 7),eo 1 none (.st s29 (vi 50) 1)]
 (sr [qo 0 d30 (.fadr s3 6),eo 1 none (.st s30 (vi 1048576) 1)]
 (sr [qo 0 d31 (.fadr s3 8),eo 1 none (.st s31 (vi 1048576) 1)]
 (.reg [qo 0 d32 (.fadr s3 3),eo 1 none (.st s32 (vi 1048576) 1)]))))))) .skip))))))))))))
 (sr [qo 0 d33 (.ldn s3 9),eo 1 none (.st s2 s33 9)]
 .ret))))
 [.cn p2 9]
noncomputable def f7 : FnE := .code 32
 (sr [eo 0 d1 (.box s0 9),qo 1 d2 (.mv (.v .nilp)),qo 2 d3 (.mv (.v .nili))]
 (.seq (sr [qo 0 d7 (.ldn s1 9),co 1 d8 p28 [s7],mo 2 d4 s8]
 (sr [mo 0 d9 s4,qo 1 d10 (.eqp (.iface true) true s9 (.v .nili))]
 (.cnd s10 (sr [mo 0 d11 s4,qo 1 d2 (.mv (.v .nilp)),mo 2 d3 s11]
 .ret) .skip)))
 (sr [co 0 d12 p29 [],eo 1 d5 (.alo (lapp [(.int .u32 (.ofNat 0))] (lapp (zz zB 32) [zB,zB,zB,zB,zB,zB,zB,zB,zB,zB,zB,zB,zB,zB,zB,zB,zB,zB,zB,zB,zB,zB,zB,zB,zB,zB,zB,zB,zB,zB,zB,zB,(.int .u32 (.ofNat 0)),(.int .u32 (.ofNat 0)),(.int .u32 (.ofNat 0)),.nils]))),eo 2 none (.st s5 s12 69)]
 (sr [qo 0 d13 (.fadr s5 0),qo 1 d14 (.ldn s13 68),co 2 d15 p30 [s14],mo 3 d6 s15]
 (.seq (.rgd 3 [qo 0 d16 (.ldn s1 9),mo 1 d17 s6,mo 2 d18 s6,mo 5 d21 s6,qo 7 d23 (.ldn s5 69),qo 11 d26 (.bld [.nilm] []),mo 13 d28 s6,⟨3,d19,(.call p31 [s18]),none,[(p16,.ldn s1 9,none),(p23,.ldn s5 69,none)]⟩,⟨6,d22,(.call p32 [s21]),none,[(p16,.ldn s1 9,none),(p23,.ldn s5 69,none)]⟩,⟨14,d29,(.call p32 [s28]),none,[(p16,.ldn s1 9,none),(p23,.ldn s5 69,none)]⟩,⟨4,d20,(.l (.mkm (.cells (kk .u8 32))) 0),none,[(p16,.ldn s1 9,none),(p23,.ldn s5 69,none)]⟩,⟨8,none,(.l (.pin s20 s22 s23 (.cells (kk .u8 32))) 0),none,[(p16,.ldn s1 9,none)]⟩,mo 9 d24 s20,⟨10,d25,(.l (.mkm (.cells (kk .u8 32))) 1),none,[(p16,.ldn s1 9,none),(p23,.ldn s5 69,none)]⟩,⟨12,d27,(.l (.box s26 1) 2),none,[(p16,.ldn s1 9,none),(p23,.ldn s5 69,none)]⟩,qo 15 d30 (.bld (lapp [(.int .i64 (.ofNat 0)),(.int .i64 (.ofNat 0)),(.int .i64 (.ofNat 0)),(.int .i64 (.ofNat 0)),(.int .i64 (.ofNat 0)),(.int .i64 (.ofNat 0)),(.int .i64 (.ofNat 0)),(.int .i64 (.ofNat 0)),(.int .i64 (.ofNat 0)),.nilp,.nilp,.nilm,.nilm,.nilp] (zz zB 32)) [(0,9,s16),(9,1,s17),(10,1,s19),(11,1,s24),(12,1,s25),(13,1,s27),(14,32,s29)]),eo 16 d31 (.box s30 46),mo 17 d2 s31,qo 18 d3 (.mv (.v .nili))])
 .ret)))))
 [.t p2,.t p3]
noncomputable def f8 : FnE := .code 15
 (sr [mo 0 d4 (vi 0)]
 (sr [mo 0 d6 s0,mo 1 d7 s1,qo 2 d8 (.bin .rem s6 s7),mo 3 d5 s8]
 (.seq (sr [mo 0 d9 s5,qo 1 d10 (.bin .lss s9 (vi 0))]
 (.cnd s10 (.reg [mo 0 d11 s5,mo 1 d12 s1,qo 2 d13 (.bin .add s11 s12),mo 3 d5 s13]) .skip))
 (sr [mo 0 d14 s5,mo 1 d4 s14]
 .ret))))
 [.t p4]
noncomputable def f9 : FnE := .code 7
 (sr [eo 0 d0 (.alo (lapp [(.int .u32 (.ofNat 0))] (lapp (zz zB 32) [zB,zB,zB,zB,zB,zB,zB,zB,zB,zB,zB,zB,zB,zB,zB,zB,zB,zB,zB,zB,zB,zB,zB,zB,zB,zB,zB,zB,zB,zB,zB,zB,(.int .u32 (.ofNat 0)),(.int .u32 (.ofNat 0)),(.int .u32 (.ofNat 0)),.nils])))]
 (sr [qo 0 d1 (.bld (lapp [(.int .u32 (.ofNat 0))] (lapp (zz zB 32) [zB,zB,zB,zB,zB,zB,zB,zB,zB,zB,zB,zB,zB,zB,zB,zB,zB,zB,zB,zB,zB,zB,zB,zB,zB,zB,zB,zB,zB,zB,zB,zB,(.int .u32 (.ofNat 0)),(.int .u32 (.ofNat 0)),(.int .u32 (.ofNat 0))])) [(0,1,(vw 1)),(65,1,(vw 1000)),(66,1,(vw 1))]),co 1 d2 p35 [(.v .nils)],co 2 d3 p34 [(vi 0),(vl 0),s2,(.v .nils)],eo 3 d4 (.bsl [(.int .u32 (.ofNat 0)),.nils,.nils,(.int .u32 (.ofNat 0))] [(0,4,s3)] 1 4),qo 4 d5 (.bld (lapp [(.int .u32 (.ofNat 0))] (lapp (zz zB 32) [zB,zB,zB,zB,zB,zB,zB,zB,zB,zB,zB,zB,zB,zB,zB,zB,zB,zB,zB,zB,zB,zB,zB,zB,zB,zB,zB,zB,zB,zB,zB,zB,(.int .u32 (.ofNat 0)),(.int .u32 (.ofNat 0)),(.int .u32 (.ofNat 0)),.nils])) [(0,68,s1),(68,1,s4)]),co 5 d6 p33 [s5],eo 6 none (.st s0 s6 69)]
 .ret))
 [.cn p0 69]
noncomputable def f10 : FnE := .code 44
 (sr [eo 0 d6 (.box s0 69),eo 1 d8 (.box s2 9),eo 2 d12 (.alo (lapp [(.int .u32 (.ofNat 0))] (lapp (zz zB 32) [zB,zB,zB,zB,zB,zB,zB,zB,zB,zB,zB,zB,zB,zB,zB,zB,zB,zB,zB,zB,zB,zB,zB,zB,zB,zB,zB,zB,zB,zB,zB,zB,(.int .u32 (.ofNat 0)),(.int .u32 (.ofNat 0)),(.int .u32 (.ofNat 0)),.nils])))]
 (sr [mo 0 d15 s1,qo 1 d16 (.fadr s8 0),qo 2 d17 (.ld1 s16),qo 3 d18 (.bin .quo s15 s17),qo 4 d19 (.mnx false s18 (vi 40)),qo 5 d20 (.cvi .u64 s19),qo 6 d21 (.shf false (vl 5000000000) s20),mo 7 d22 s5,qo 8 d23 (.bin .add s21 s22),mo 9 d13 s23]
 (.seq (.rgd 1 [qo 0 d24 (.fadr s6 0),qo 1 d25 (.ldn s24 68),qo 3 d27 (.fadr s6 0),qo 4 d28 (.fadr s27 65),qo 5 d29 (.ld1 s28),qo 6 d30 (.bin .add s29 (vw 10)),mo 7 d31 s4,⟨2,d26,(.call p13 [s25]),none,[(p29,.ld1 s28,none)]⟩,qo 8 d32 (.bld (lapp [(.int .u32 (.ofNat 0))] (lapp (zz zB 32) [zB,zB,zB,zB,zB,zB,zB,zB,zB,zB,zB,zB,zB,zB,zB,zB,zB,zB,zB,zB,zB,zB,zB,zB,zB,zB,zB,zB,zB,zB,zB,zB,(.int .u32 (.ofNat 0)),(.int .u32 (.ofNat 0)),(.int .u32 (.ofNat 0))])) [(0,1,(vw 9)),(1,32,s26),(65,1,s30),(66,1,s31)]),qo 9 d33 (.bld (lapp [(.int .u32 (.ofNat 0))] (lapp (zz zB 32) [zB,zB,zB,zB,zB,zB,zB,zB,zB,zB,zB,zB,zB,zB,zB,zB,zB,zB,zB,zB,zB,zB,zB,zB,zB,zB,zB,zB,zB,zB,zB,zB,(.int .u32 (.ofNat 0)),(.int .u32 (.ofNat 0)),(.int .u32 (.ofNat 0)),.nils])) [(0,68,s32)]),⟨10,d14,(.l (.alo (lapp [(.int .u32 (.ofNat 0))] (lapp (zz zB 32) [zB,zB,zB,zB,zB,zB,zB,zB,zB,zB,zB,zB,zB,zB,zB,zB,zB,zB,zB,zB,zB,zB,zB,zB,zB,zB,zB,zB,zB,zB,zB,zB,(.int .u32 (.ofNat 0)),(.int .u32 (.ofNat 0)),(.int .u32 (.ofNat 0)),.nils]))) 0),none,[(p25,.ldn s24 68,none),(p29,.ld1 s28,none)]⟩,eo 11 none (.st s14 s33 69)])
 (sr [mo 0 d34 s1,mo 1 d35 s13,qo 2 d36 (.bld (zz zB 32) []),mo 3 d37 s3,eo 4 d38 (.bsl [zB] [(0,1,s37)] 1 1),co 5 d39 p34 [s34,s35,s36,s38],eo 6 d40 (.bsl [(.int .u32 (.ofNat 0)),.nils,.nils,(.int .u32 (.ofNat 0))] [(0,4,s39)] 1 4),qo 7 d41 (.fadr s14 68),eo 8 none (.st s41 s40 1)]
 (sr [qo 0 d42 (.ldn s14 69),co 1 d43 p33 [s42],eo 2 none (.st s12 s43 69)]
 .ret)))))
 [.cn p12 69]
noncomputable def f11 : FnE := .code 101
 (sr [eo 0 d4 (.alo [.nils,.nils]),qo 1 d5 (.mv (.v .nili))]
 (sr [mo 0 d17 s1,co 1 d18 p36 [s17],mo 2 d16 s18,qo 3 d19 (.ext s16 0),qo 4 d20 (.ext s16 1),eo 5 d6 (.alo (lapp [(.int .u32 (.ofNat 0))] (lapp (zz zB 32) [zB,zB,zB,zB,zB,zB,zB,zB,zB,zB,zB,zB,zB,zB,zB,zB,zB,zB,zB,zB,zB,zB,zB,zB,zB,zB,zB,zB,zB,zB,zB,zB,(.int .u32 (.ofNat 0)),(.int .u32 (.ofNat 0)),(.int .u32 (.ofNat 0)),.nils]))),eo 6 none (.st s6 s19 69),mo 7 d7 s20]
 (.seq (sr [mo 0 d21 s7,qo 1 d22 (.eqp (.iface true) false s21 (.v .nili))]
 (.cnd s22 (.reg [qo 0 d23 (.ldn s6 69),co 1 d24 p37 [s23],mo 2 d7 s24]) .skip))
 (.seq (sr [mo 0 d25 s7,qo 1 d26 (.eqp (.iface true) true s25 (.v .nili))]
 (.cnd s26 (sr [qo 0 d27 (.bld [.nils,.nils] []),mo 1 d28 s7,eo 2 none (.st s4 s27 2),mo 3 d5 s28]
 .ret) .skip))
 (sr [qo 0 d29 (.ldn s6 69),co 1 d30 p38 [s29],eo 2 d8 (.alo (zz zB 32)),eo 3 none (.st s8 s30 32)]
 (.seq (sr [mo 0 d31 s0,qo 1 d32 (.ldn s8 32),qo 2 d33 (.ldn s6 69),co 3 d34 p39 [s31,s32,s33],mo 4 d9 s34]
 (sr [mo 0 d35 s9,qo 1 d36 (.eqp (.iface true) true s35 (.v .nili))]
 (.cnd s36 (sr [qo 0 d37 (.bld [.nils,.nils] []),mo 1 d38 s9,eo 2 none (.st s4 s37 2),mo 3 d5 s38]
 .ret) .skip)))
 (.seq (.rgd 0 [mo 0 d39 s0,qo 1 d40 (.nck s39),qo 2 d41 (.fadr s40 11),qo 3 d42 (.ld1 s41),qo 4 d43 (.ldn s8 32),qo 5 d44 (.ldn s6 69),eo 6 none (.mup s42 s43 s44 (.cells (kk .u8 32)))])
 (sr [mo 0 d45 s0,qo 1 d46 (.nck s45),qo 2 d47 (.fadr s46 14),qo 3 d48 (.ldn s47 32),eo 4 d10 (.alo (zz zB 32)),eo 5 none (.st s10 s48 32)]
 (sr [qo 0 d49 (.ld1 (.g p0)),mo 1 d11 s49]
 (.seq (sr [mo 0 d50 s0,qo 1 d51 (.nck s50),qo 2 d52 (.fadr s51 10),qo 3 d53 (.ld1 s52),co 4 d54 p40 [s53],eo 5 d12 (.alo (zz zB 32)),eo 6 none (.st s12 s54 32)]
 (.blk 0 (.loop (.seq (.seq (.rgd 0 [qo 0 d55 (.ldn s12 32),mo 1 d56 s0,qo 2 d57 (.nck s56),qo 3 d58 (.fadr s57 14),qo 4 d59 (.ldn s58 32),qo 5 d60 (.eqa true (kk .u8 32) s55 s59)])
 (.cnd s60 .skip (.exit 0)))
 (.seq (.blk 1 (sr [mo 0 d67 s0,qo 1 d68 (.ldn s12 32),co 2 d69 p41 [s67,s68],mo 3 d66 s69,qo 4 d70 (.ext s66 0),qo 5 d71 (.ext s66 1),eo 6 d13 (.alo (zz zB 32)),eo 7 none (.st s13 s70 32),mo 8 d14 s71]
 (.seq (sr [mo 0 d72 s14,qo 1 d73 (.eqp (.iface true) false s72 (.v .nili))]
 (.cnd s73 (.exit 1) .skip))
 (.seq (.rgd 0 [mo 0 d74 s0,qo 1 d75 (.nck s74),qo 2 d76 (.fadr s75 10),qo 3 d77 (.ld1 s76),qo 4 d78 (.ldn s13 32),co 5 d79 p42 [s77,s78]])
 (sr [qo 0 d80 (.ldn s13 32),qo 1 d81 (.ldn s8 32),qo 2 d82 (.eqa false (kk .u8 32) s80 s81)]
 (.cnd s82 (.reg [mo 0 d83 s14,mo 1 d11 s83]) .skip))))))
 (.seq (sr [qo 0 d84 (.ldn s12 32)]
 (.reg [eo 0 d12 (.alo (zz zB 32)),eo 1 none (.st s12 s84 32)]))
 (.reg [mo 0 d61 s0,qo 1 d62 (.nck s61),qo 2 d63 (.fadr s62 10),qo 3 d64 (.ld1 s63),co 4 d65 p40 [s64],eo 5 none (.st s12 s65 32)])))))))
 (.seq (.rgd 1 [mo 0 d85 s0,qo 1 d86 (.ldn s10 32),mo 2 d87 s0,qo 3 d88 (.nck s87),qo 4 d89 (.fadr s88 14),qo 5 d90 (.ldn s89 32),co 6 d91 p43 [s85,s86,s90],⟨7,d15,(.l (.alo [.nils,.nils]) 0),none,[(p86,.ldn s10 32,none),(p90,.ldn s89 32,none)]⟩,eo 8 none (.st s15 s91 2)])
 (.seq (.seq (.rgd 0 [mo 0 d92 s0,qo 1 d93 (.nck s92),qo 2 d94 (.fadr s93 10),qo 3 d95 (.ld1 s94),qo 4 d96 (.ldn s8 32),co 5 d97 p44 [s95,s96]])
 (.cnd s97 (sr [qo 0 d98 (.ldn s15 2),mo 1 d99 s11,eo 2 none (.st s4 s98 2),mo 3 d5 s99]
 .ret) .skip))
 (sr [qo 0 d100 (.ldn s15 2),eo 1 none (.st s4 s100 2),qo 2 d5 (.mv (.v .nili))]
 .ret)))))))))))))
 [.cn p4 2,.t p5]
noncomputable def f12 : FnE := .code 29
 (sr [eo 0 d1 (.box s0 69),qo 1 d2 (.mv (.v .nils))]
 (.seq (.rgd 0 [qo 0 d5 (.fadr s1 0),qo 1 d6 (.ldn s5 68),qo 3 d8 (.fadr s1 68),qo 4 d9 (.ld1 s8),qo 5 d10 (.lenv s9),qo 6 d11 (.cvi .u64 s10),⟨2,d7,(.call p46 [s6]),none,[(p9,.ld1 s8,none)]⟩,co 7 d12 p45 [s7,s11],mo 8 d3 s12])
 (.seq (sr [mo 0 d4 (vi 0)]
 (.blk 0 (.loop (.seq (sr [mo 0 d13 s4,qo 1 d14 (.fadr s1 68),qo 2 d15 (.ld1 s14),qo 3 d16 (.lenv s15),qo 4 d17 (.bin .lss s13 s16)]
 (.cnd s17 .skip (.exit 0)))
 (.seq (.blk 1 (.reg [mo 0 d20 s3,qo 1 d21 (.fadr s1 68),qo 2 d22 (.ld1 s21),mo 3 d23 s4,qo 4 d24 (.iadr s22 s23 4),qo 5 d25 (.ldn s24 4),co 6 d26 p47 [s25],eo 7 d27 (.app s20 s26 1 1 false),mo 8 d3 s27]))
 (.reg [mo 0 d18 s4,qo 1 d19 (.bin .add s18 (vi 1)),mo 2 d4 s19]))))))
 (sr [mo 0 d28 s3,mo 1 d2 s28]
 .ret))))
 [.t p2]
noncomputable def f13 : FnE := .code 6
 (sr [eo 0 d1 (.box s0 68),eo 1 d2 (.alo (zz zB 32))]
 (sr [qo 0 d3 (.ldn s1 68),co 1 d4 p46 [s3],co 2 d5 p48 [s4],eo 3 none (.st s2 s5 32)]
 .ret))
 [.cn p2 32]
noncomputable def f14 : FnE := .code 8
 (sr [qo 0 d2 (.mv (.v .nils))]
 (sr [mo 0 d3 s0,qo 1 d4 (.nck s3),qo 2 d5 (.fadr s4 10),qo 3 d6 (.ld1 s5),co 4 d7 p49 [s6],mo 5 d2 s7]
 .ret))
 [.t p2]
noncomputable def f15 : FnE := .code 18
 (sr [eo 0 d3 (.box s1 32),qo 1 d4 (.mv (.v (.bool false)))]
 (.seq (sr [mo 0 d5 (vi 0)]
 (.blk 0 (.loop (.seq (sr [mo 0 d6 s5,mo 1 d7 s0,qo 2 d8 (.lenv s7),qo 3 d9 (.bin .lss s6 s8)]
 (.cnd s9 .skip (.exit 0)))
 (.seq (.blk 1 (.seq (.rgd 0 [mo 0 d12 s0,mo 1 d13 s5,qo 2 d14 (.iadr s12 s13 32),qo 3 d15 (.ldn s14 32),qo 4 d16 (.ldn s3 32),co 5 d17 p17 [s15,s16]])
 (.cnd s17 (sr [qo 0 d4 (.mv (.v (.bool true)))]
 .ret) .skip)))
 (.reg [mo 0 d10 s5,qo 1 d11 (.bin .add s10 (vi 1)),mo 2 d5 s11]))))))
 (sr [qo 0 d4 (.mv (.v (.bool false)))]
 .ret)))
 [.t p4]
noncomputable def f16 : FnE := .code 9
 (sr [qo 0 d4 (.mv (.v (.bool false)))]
 (sr [mo 0 d5 s0,mo 1 d6 s1,co 2 d7 p51 [s6],co 3 d8 p50 [s5,s7],mo 4 d4 s8]
 .ret))
 [.t p4]
noncomputable def f17 : FnE := .code 17
 (sr [eo 0 d2 (.box s0 32),eo 1 d3 (.box s1 32),qo 2 d4 (.mv (.v (.bool false)))]
 (.seq (sr [mo 0 d5 (vi 0)]
 (.blk 0 (.loop (.seq (sr [mo 0 d6 s5,qo 1 d7 (.bin .lss s6 (vi 32))]
 (.cnd s7 .skip (.exit 0)))
 (.seq (.blk 1 (.seq (.rgd 0 [mo 0 d10 s5,qo 1 d11 (.iada s2 s10 1 32),qo 2 d12 (.ld1 s11),mo 3 d13 s5,qo 4 d14 (.iada s3 s13 1 32),qo 5 d15 (.ld1 s14),qo 6 d16 (.bin .neq s12 s15)])
 (.cnd s16 (sr [qo 0 d4 (.mv (.v (.bool false)))]
 .ret) .skip)))
 (.reg [mo 0 d8 s5,qo 1 d9 (.bin .add s8 (vi 1)),mo 2 d5 s9]))))))
 (sr [qo 0 d4 (.mv (.v (.bool true)))]
 .ret)))
 [.t p4]
noncomputable def f18 : FnE := .code 7
 (sr [eo 0 d2 (.alo (zz zB 32))]
 (sr [mo 0 d3 s0,qo 1 d4 (.nck s3),qo 2 d5 (.fadr s4 14),qo 3 d6 (.ldn s5 32),eo 4 none (.st s2 s6 32)]
 .ret))
 [.cn p2 32]
noncomputable def f19 : FnE := .code 18
 (sr [mo 0 d2 (vi 0)]
 (.seq (.rgd 0 [mo 0 d6 s0,qo 1 d7 (.nck s6),qo 2 d8 (.fadr s7 9),qo 3 d9 (.ld1 s8),mo 4 d10 s0,qo 5 d11 (.nck s10),qo 6 d12 (.fadr s11 14),qo 7 d13 (.ldn s12 32),co 8 d14 p52 [s9,s13],mo 9 d5 s14,qo 10 d15 (.ext s5 0),qo 11 d16 (.ext s5 1),mo 12 d3 s15,mo 13 d4 s16])
 (sr [mo 0 d17 s3,mo 1 d2 s17]
 .ret)))
 [.t p2]
noncomputable def f25 : FnE := .code 32
 (sr [qo 0 d2 (.mv (.v .nils))]
 (.seq (.rgd 0 [mo 0 d7 s0,qo 1 d8 (.nck s7),qo 2 d9 (.fadr s8 9),qo 3 d10 (.ld1 s9),mo 4 d11 s0,qo 5 d12 (.nck s11),qo 6 d13 (.fadr s12 9),qo 7 d14 (.ld1 s13),mo 9 d16 s0,qo 10 d17 (.nck s16),qo 11 d18 (.fadr s17 14),qo 12 d19 (.ldn s18 32),⟨8,d15,(.call p32 [s14]),none,[(p10,.ld1 s9,none),(p19,.ldn s18 32,none)]⟩,co 13 d20 p60 [s10,s15,s19],mo 14 d6 s20,qo 15 d21 (.ext s6 0),qo 16 d22 (.ext s6 1),qo 17 d23 (.ext s6 2),mo 18 d3 s21,mo 19 d4 s22,mo 20 d5 s23])
 (sr [mo 0 d24 s0,qo 1 d25 (.nck s24),qo 2 d26 (.fadr s25 9),qo 3 d27 (.ld1 s26),co 4 d28 p32 [s27],eo 5 d29 (.bsl (zz zB 32) [(0,32,s28)] 1 32),mo 6 d30 s4,eo 7 d31 (.app s29 s30 32 32 false),mo 8 d2 s31]
 .ret)))
 [.t p2]
noncomputable def f28 : FnE := .code 52
 (sr [eo 0 d1 (.box s0 9),qo 1 d2 (.mv (.v .nili))]
 (.seq (sr [qo 0 d5 (.fadr s1 0),qo 1 d6 (.ld1 s5),qo 2 d7 (.bld [(.int .i64 (.ofNat 0)),(.int .i64 (.ofNat 0)),(.int .i64 (.ofNat 0))] [(0,1,s6),(1,1,(vi 1)),(2,1,(vi 1048576))]),qo 3 d8 (.fadr s1 1),qo 4 d9 (.ld1 s8),qo 5 d10 (.bld [(.int .i64 (.ofNat 0)),(.int .i64 (.ofNat 0)),(.int .i64 (.ofNat 0))] [(0,1,s9),(1,1,(vi 0)),(2,1,(vi 1000))]),qo 6 d11 (.fadr s1 2),qo 7 d12 (.ld1 s11),qo 8 d13 (.bld [(.int .i64 (.ofNat 0)),(.int .i64 (.ofNat 0)),(.int .i64 (.ofNat 0))] [(0,1,s12),(1,1,(vi 1)),(2,1,(vi 16777216))]),qo 9 d14 (.fadr s1 3),qo 10 d15 (.ld1 s14),qo 11 d16 (.bld [(.int .i64 (.ofNat 0)),(.int .i64 (.ofNat 0)),(.int .i64 (.ofNat 0))] [(0,1,s15),(1,1,(vi 1)),(2,1,(vi 16777216))]),qo 12 d17 (.fadr s1 4),qo 13 d18 (.ld1 s17),qo 14 d19 (.bld [(.int .i64 (.ofNat 0)),(.int .i64 (.ofNat 0)),(.int .i64 (.ofNat 0))] [(0,1,s18),(1,1,(vi 1)),(2,1,(vi 65536))]),qo 15 d20 (.fadr s1 5),qo 16 d21 (.ld1 s20),qo 17 d22 (.bld [(.int .i64 (.ofNat 0)),(.int .i64 (.ofNat 0)),(.int .i64 (.ofNat 0))] [(0,1,s21),(1,1,(vi 1)),(2,1,(vi 1000))]),qo 18 d23 (.fadr s1 7),qo 19 d24 (.ld1 s23),qo 20 d25 (.bld [(.int .i64 (.ofNat 0)),(.int .i64 (.ofNat 0)),(.int .i64 (.ofNat 0))] [(0,1,s24),(1,1,(vi 1)),(2,1,(vi 1000))]),qo 21 d26 (.fadr s1 6),qo 22 d27 (.ld1 s26),qo 23 d28 (.bld [(.int .i64 (.ofNat 0)),(.int .i64 (.ofNat 0)),(.int .i64 (.ofNat 0))] [(0,1,s27),(1,1,(vi 1)),(2,1,(vi 16777216))]),qo 24 d29 (.fadr s1 8),qo 25 d30 (.ld1 s29),qo 26 d31 (.bld [(.int .i64 (.ofNat 0)),(.int .i64 (.ofNat 0)),(.int .i64 (.ofNat 0))] [(0,1,s30),(1,1,(vi 1)),(2,1,(vi 16777216))]),eo 27 d32 (.bsl (zz (.int .i64 (.ofNat 0)) 27) [(0,3,s7),(3,3,s10),(6,3,s13),(9,3,s16),(12,3,s19),(15,3,s22),(18,3,s25),(21,3,s28),(24,3,s31)] 9 3),qo 28 d33 (.lenv s32),mo 29 d34 (vi 0)]
 (.blk 0 (.loop (sr [qo 0 d35 (.bin .lss s34 s33)]
 (.seq (.cnd s35 .skip (.exit 0))
 (.seq (.blk 1 (sr [qo 0 d36 (.iadr s32 s34 3),qo 1 d37 (.ldn s36 3),eo 2 d4 (.alo [(.int .i64 (.ofNat 0)),(.int .i64 (.ofNat 0)),(.int .i64 (.ofNat 0))]),eo 3 none (.st s4 s37 3)]
 (sr [qo 0 d38 (.iada s4 (vi 0) 1 3),qo 1 d39 (.ld1 s38),qo 2 d40 (.iada s4 (vi 1) 1 3),qo 3 d41 (.ld1 s40),qo 4 d42 (.bin .lss s39 s41),mo 5 d43 s42,⟨6,d44,(.q (.iada s4 (vi 0) 1 3)),(some (p43,false)),[]⟩,⟨7,d45,(.q (.ld1 s44)),(some (p43,false)),[]⟩,⟨8,d46,(.q (.iada s4 (vi 2) 1 3)),(some (p43,false)),[]⟩,⟨9,d47,(.q (.ld1 s46)),(some (p43,false)),[]⟩,⟨10,d48,(.q (.bin .gtr s45 s47)),(some (p43,false)),[]⟩,qo 11 d49 (.pick s43 (.v (.bool true)) s48)]
 (.cnd s49 (sr [qo 0 d50 (.ld1 (.g p1)),mo 1 d2 s50]
 .ret) .skip))))
 (.reg [qo 0 d51 (.bin .add s34 (vi 1)),mo 1 d34 s51])))))))
 (sr [qo 0 d2 (.mv (.v .nili))]
 .ret)))
 [.t p2]
noncomputable def f29 : FnE := .code 12
 (sr [eo 0 d0 (.alo (lapp [(.int .u32 (.ofNat 0))] (lapp (zz zB 32) [zB,zB,zB,zB,zB,zB,zB,zB,zB,zB,zB,zB,zB,zB,zB,zB,zB,zB,zB,zB,zB,zB,zB,zB,zB,zB,zB,zB,zB,zB,zB,zB,(.int .u32 (.ofNat 0)),(.int .u32 (.ofNat 0)),(.int .u32 (.ofNat 0)),.nils])))]
 (sr [qo 0 d2 (.bld (lapp [(.int .u32 (.ofNat 0))] (lapp (zz zB 32) [zB,zB,zB,zB,zB,zB,zB,zB,zB,zB,zB,zB,zB,zB,zB,zB,zB,zB,zB,zB,zB,zB,zB,zB,zB,zB,zB,zB,zB,zB,zB,zB,(.int .u32 (.ofNat 0)),(.int .u32 (.ofNat 0)),(.int .u32 (.ofNat 0))])) [(0,1,(vw 1)),(65,1,(vw 1000)),(66,1,(vw 1))]),co 1 d3 p64 [(.v .nils)],co 2 d4 p63 [(vi 0),(vl 0),s3,(.v .nils)],eo 3 d5 (.bsl [(.int .u32 (.ofNat 0)),.nils,.nils,(.int .u32 (.ofNat 0))] [(0,4,s4)] 1 4),qo 4 d6 (.bld (lapp [(.int .u32 (.ofNat 0))] (lapp (zz zB 32) [zB,zB,zB,zB,zB,zB,zB,zB,zB,zB,zB,zB,zB,zB,zB,zB,zB,zB,zB,zB,zB,zB,zB,zB,zB,zB,zB,zB,zB,zB,zB,zB,(.int .u32 (.ofNat 0)),(.int .u32 (.ofNat 0)),(.int .u32 (.ofNat 0)),.nils])) [(0,68,s2),(68,1,s5)]),eo 5 d1 (.alo (lapp [(.int .u32 (.ofNat 0))] (lapp (zz zB 32) [zB,zB,zB,zB,zB,zB,zB,zB,zB,zB,zB,zB,zB,zB,zB,zB,zB,zB,zB,zB,zB,zB,zB,zB,zB,zB,zB,zB,zB,zB,zB,zB,(.int .u32 (.ofNat 0)),(.int .u32 (.ofNat 0)),(.int .u32 (.ofNat 0)),.nils]))),eo 6 none (.st s1 s6 69)]
 (sr [qo 0 d7 (.ldn s1 69),co 1 d8 p65 [s7],qo 2 d9 (.fadr s1 0),qo 3 d10 (.fadr s9 33),eo 4 none (.st s10 s8 32)]
 (sr [qo 0 d11 (.ldn s1 69),eo 1 none (.st s0 s11 69)]
 .ret))))
 [.cn p0 69]
noncomputable def f30 : FnE := .code 18
 (sr [eo 0 d1 (.box s0 68),qo 1 d2 (.mv (.v .nilp))]
 (sr [qo 0 d4 (.ldn s1 68),co 1 d5 p66 [s4],eo 2 d3 (.alo (zz zB 32)),eo 3 none (.st s3 s5 32)]
 (.seq (.rgd 2 [qo 1 d7 (.ldn s3 32),qo 2 d8 (.ldn s1 68),qo 3 d9 (.fadr s1 66),qo 4 d10 (.ld1 s9),qo 5 d11 (.cvi .u64 s10),qo 6 d12 (.bld (lapp [(.int .u32 (.ofNat 0))] (lapp (zz zB 32) [zB,zB,zB,zB,zB,zB,zB,zB,zB,zB,zB,zB,zB,zB,zB,zB,zB,zB,zB,zB,zB,zB,zB,zB,zB,zB,zB,zB,zB,zB,zB,zB,(.int .u32 (.ofNat 0)),(.int .u32 (.ofNat 0)),(.int .u32 (.ofNat 0)),(.int .i64 (.ofNat 0)),(.int .u64 (.ofNat 0)),.nils])) [(0,68,s8),(69,1,s11)]),qo 10 d15 (.ldn s3 32),⟨0,d6,(.l (.mkm (.cells (kk .u8 32))) 0),none,[(p7,.ldn s3 32,none),(p8,.ldn s1 68,none),(p10,.ld1 s9,none),(p15,.ldn s3 32,none)]⟩,⟨7,d13,(.l (.box s12 71) 1),none,[(p7,.ldn s3 32,none),(p15,.ldn s3 32,none)]⟩,⟨8,none,(.e (.mup s6 s7 s13 (.cells (kk .u8 32)))),none,[(p15,.ldn s3 32,none)]⟩,mo 9 d14 s6,qo 11 d16 (.bld (lapp [.nilm] (zz zB 32)) [(0,1,s14),(1,32,s15)]),eo 12 d17 (.box s16 33),mo 13 d2 s17])
 .ret)))
 [.t p2]
noncomputable def f31 : FnE := .code 7
 (sr [qo 0 d2 (.mv (.v .nilp))]
 (sr [mo 0 d3 s0,eo 1 d4 (.mkm (.cells (kk .u8 32))),qo 2 d5 (.bld [.nilp,.nilm] [(0,1,s3),(1,1,s4)]),eo 3 d6 (.box s5 2),mo 4 d2 s6]
 .ret))
 [.t p2]
noncomputable def f32 : FnE := .code 7
 (sr [eo 0 d2 (.alo (zz zB 32))]
 (sr [mo 0 d3 s0,qo 1 d4 (.nck s3),qo 2 d5 (.fadr s4 1),qo 3 d6 (.ldn s5 32),eo 4 none (.st s2 s6 32)]
 .ret))
 [.cn p2 32]
noncomputable def f33 : FnE := .code 10
 (sr [eo 0 d1 (.box s0 69),eo 1 d2 (.alo (lapp [(.int .u32 (.ofNat 0))] (lapp (zz zB 32) [zB,zB,zB,zB,zB,zB,zB,zB,zB,zB,zB,zB,zB,zB,zB,zB,zB,zB,zB,zB,zB,zB,zB,zB,zB,zB,zB,zB,zB,zB,zB,zB,(.int .u32 (.ofNat 0)),(.int .u32 (.ofNat 0)),(.int .u32 (.ofNat 0)),.nils])))]
 (sr [qo 0 d3 (.fadr s1 68),qo 1 d4 (.ld1 s3),co 2 d5 p68 [s4],co 3 d6 p67 [s5],qo 4 d7 (.fadr s1 0),qo 5 d8 (.fadr s7 33),eo 6 none (.st s8 s6 32)]
 (sr [qo 0 d9 (.ldn s1 69),eo 1 none (.st s2 s9 69)]
 .ret)))
 [.cn p2 69]
noncomputable def f34 : FnE := .code 24
 (sr [eo 0 d6 (.box s2 32),eo 1 d8 (.alo [(.int .u32 (.ofNat 0)),.nils,.nils,(.int .u32 (.ofNat 0))])]
 (sr [mo 0 d10 s0,qo 1 d11 (.cvi .u32 s10),co 2 d12 p69 [(.v .nils),s11],mo 3 d13 s3,eo 4 d14 (.app s12 s13 1 1 false),mo 5 d9 s14]
 (.seq (.rgd 2 [mo 1 d16 s9,mo 4 d19 s1,qo 5 d20 (.ldn s6 32),qo 6 d21 (.bld (lapp [(.int .u64 (.ofNat 0))] (zz zB 32)) [(0,1,s19),(1,32,s20)]),⟨0,d15,(.call p70 []),none,[(p20,.ldn s6 32,none)]⟩,qo 2 d17 (.bld (lapp (zz zB 32) [(.int .u32 (.ofNat 0)),.nils,(.int .u32 (.ofNat 0))]) [(0,33,s15),(33,1,s16),(34,1,(vw 4294967295))]),⟨3,d18,(.l (.bsl (lapp (zz zB 32) [(.int .u32 (.ofNat 0)),.nils,(.int .u32 (.ofNat 0))]) [(0,35,s17)] 1 35) 0),none,[(p20,.ldn s6 32,none)]⟩,o 7 d22 (.l (.bsl (lapp [(.int .u64 (.ofNat 0))] (zz zB 32)) [(0,33,s21)] 1 33) 1),qo 8 d23 (.bld [(.int .u32 (.ofNat 0)),.nils,.nils,(.int .u32 (.ofNat 0))] [(0,1,(vw 1)),(1,1,s18),(2,1,s22)]),eo 9 none (.st s8 s23 4)])
 .ret)))
 [.cn p8 4]
noncomputable def f35 : FnE := .code 282
 (sr [eo 0 d2 (.alo (zz zB 32))]
 (sr [eo 0 d23 (.bsl (zz (.int .u32 (.ofNat 0)) 8) [(0,1,(vw 1779033703)),(1,1,(vw 3144134277)),(2,1,(vw 1013904242)),(3,1,(vw 2773480762)),(4,1,(vw 1359893119)),(5,1,(vw 2600822924)),(6,1,(vw 528734635)),(7,1,(vw 1541459225))] 8 1),mo 1 d3 s23]
 (sr [mo 0 d24 s0,co 1 d25 p71 [s24],eo 2 d26 (.bsl [zB] [(0,1,(v8 128))] 1 1),eo 3 d27 (.app s25 s26 1 1 false),mo 4 d4 s27]
 (.seq (.blk 0 (.loop (.seq (sr [mo 0 d28 s4,qo 1 d29 (.lenv s28),qo 2 d30 (.bin .rem s29 (vi 64)),qo 3 d31 (.bin .neq s30 (vi 56))]
 (.cnd s31 .skip (.exit 0)))
 (.blk 1 (.reg [mo 0 d32 s4,eo 1 d33 (.bsl [zB] [(0,1,(v8 0))] 1 1),eo 2 d34 (.app s32 s33 1 1 false),mo 3 d4 s34])))))
 (sr [mo 0 d35 s0,qo 1 d36 (.lenv s35),qo 2 d37 (.cvi .u64 s36),qo 3 d38 (.bin .mul (vl 8) s37),mo 4 d5 s38]
 (.seq (sr [mo 0 d6 (vi 7)]
 (.blk 2 (.loop (.seq (sr [mo 0 d39 s6,qo 1 d40 (.bin .geq s39 (vi 0))]
 (.cnd s40 .skip (.exit 2)))
 (.seq (.blk 3 (.reg [mo 0 d43 s4,mo 1 d44 s5,mo 2 d45 s6,qo 3 d46 (.bin .mul (vi 8) s45),qo 4 d47 (.cvi .u64 s46),qo 5 d48 (.shf false s44 s47),qo 6 d49 (.cvi .u8 s48),eo 7 d50 (.bsl [zB] [(0,1,s49)] 1 1),eo 8 d51 (.app s43 s50 1 1 false),mo 9 d4 s51]))
 (.reg [mo 0 d41 s6,qo 1 d42 (.bin .sub s41 (vi 1)),mo 2 d6 s42]))))))
 (sr [co 0 d52 p72 [],mo 1 d7 s52]
 (.seq (sr [mo 0 d8 (vi 0)]
 (.blk 4 (.loop (.seq (sr [mo 0 d53 s8,mo 1 d54 s4,qo 2 d55 (.lenv s54),qo 3 d56 (.bin .lss s53 s55)]
 (.cnd s56 .skip (.exit 4)))
 (.seq (.blk 5 (sr [eo 0 d59 (.mks (vi 64) (vi 64) [(.int .u32 (.ofNat 0))] 1 4),mo 1 d9 s59]
 (.seq (sr [mo 0 d10 (vi 0)]
 (.blk 6 (.loop (.seq (sr [mo 0 d60 s10,qo 1 d61 (.bin .lss s60 (vi 64))]
 (.cnd s61 .skip (.exit 6)))
 (.seq (.blk 7 (.seq (sr [mo 0 d64 s10,qo 1 d65 (.bin .lss s64 (vi 16))]
 (.cnd s65 (sr [mo 0 d66 s8,mo 1 d67 s10,qo 2 d68 (.bin .mul (vi 4) s67),qo 3 d69 (.bin .add s66 s68),mo 4 d11 s69]
 (.seq (.rgd 0 [mo 0 d70 s9,mo 1 d71 s10,mo 2 d72 s4,mo 3 d73 s11,qo 4 d74 (.iadr s72 s73 1),qo 5 d75 (.ld1 s74),qo 6 d76 (.cvi .u32 s75),qo 7 d77 (.shf true s76 (vl 24)),mo 8 d78 s4,mo 9 d79 s11,qo 10 d80 (.bin .add s79 (vi 1)),qo 11 d81 (.iadr s78 s80 1),qo 12 d82 (.ld1 s81),qo 13 d83 (.cvi .u32 s82),qo 14 d84 (.shf true s83 (vl 16)),qo 15 d85 (.bin .or s77 s84),mo 16 d86 s4,mo 17 d87 s11,qo 18 d88 (.bin .add s87 (vi 2)),qo 19 d89 (.iadr s86 s88 1),qo 20 d90 (.ld1 s89),qo 21 d91 (.cvi .u32 s90),qo 22 d92 (.shf true s91 (vl 8)),qo 23 d93 (.bin .or s85 s92),mo 24 d94 s4,mo 25 d95 s11,qo 26 d96 (.bin .add s95 (vi 3)),qo 27 d97 (.iadr s94 s96 1),qo 28 d98 (.ld1 s97),qo 29 d99 (.cvi .u32 s98),qo 30 d100 (.bin .or s93 s99),qo 31 d101 (.iadr s70 s71 1),eo 32 none (.st s101 s100 1)])
 (.exit 7))) .skip))
 (sr [mo 0 d102 s9,mo 1 d103 s10,qo 2 d104 (.bin .sub s103 (vi 15)),qo 3 d105 (.iadr s102 s104 1),qo 4 d106 (.ld1 s105),mo 5 d12 s106]
 (sr [mo 0 d107 s9,mo 1 d108 s10,qo 2 d109 (.bin .sub s108 (vi 2)),qo 3 d110 (.iadr s107 s109 1),qo 4 d111 (.ld1 s110),mo 5 d13 s111]
 (.rgd 0 [mo 0 d112 s9,mo 1 d113 s10,mo 2 d114 s9,mo 3 d115 s10,qo 4 d116 (.bin .sub s115 (vi 16)),qo 5 d117 (.iadr s114 s116 1),qo 6 d118 (.ld1 s117),mo 7 d119 s12,mo 9 d121 s12,mo 12 d124 s12,qo 13 d125 (.shf false s124 (vl 3)),mo 16 d128 s9,mo 17 d129 s10,qo 18 d130 (.bin .sub s129 (vi 7)),qo 19 d131 (.iadr s128 s130 1),qo 20 d132 (.ld1 s131),mo 22 d134 s13,mo 24 d136 s13,mo 27 d139 s13,qo 28 d140 (.shf false s139 (vl 10)),⟨8,d120,(.call p73 [s119,(vl 7)]),none,[(p118,.ld1 s117,none),(p132,.ld1 s131,none)]⟩,⟨10,d122,(.call p73 [s121,(vl 18)]),none,[(p118,.ld1 s117,none),(p132,.ld1 s131,none)]⟩,qo 11 d123 (.bin .xor s120 s122),qo 14 d126 (.bin .xor s123 s125),qo 15 d127 (.bin .add s118 s126),qo 21 d133 (.bin .add s127 s132),⟨23,d135,(.call p73 [s134,(vl 17)]),none,[(p118,.ld1 s117,none),(p132,.ld1 s131,none)]⟩,⟨25,d137,(.call p73 [s136,(vl 19)]),none,[(p118,.ld1 s117,none),(p132,.ld1 s131,none)]⟩,qo 26 d138 (.bin .xor s135 s137),qo 29 d141 (.bin .xor s138 s140),qo 30 d142 (.bin .add s133 s141),qo 31 d143 (.iadr s112 s113 1),eo 32 none (.st s143 s142 1)])))))
 (.reg [mo 0 d62 s10,qo 1 d63 (.bin .add s62 (vi 1)),mo 2 d10 s63]))))))
 (sr [eo 0 d144 (.bsl [] [] 0 1),mo 1 d145 s3,eo 2 d146 (.app s144 s145 1 4 false),mo 3 d14 s146]
 (.seq (sr [mo 0 d15 (vi 0)]
 (.blk 8 (.loop (.seq (sr [mo 0 d147 s15,qo 1 d148 (.bin .lss s147 (vi 64))]
 (.cnd s148 .skip (.exit 8)))
 (.seq (.blk 9 (sr [mo 0 d151 s14,qo 1 d152 (.iadr s151 (vi 4) 1),qo 2 d153 (.ld1 s152),mo 3 d16 s153]
 (sr [mo 0 d154 s14,qo 1 d155 (.iadr s154 (vi 0) 1),qo 2 d156 (.ld1 s155),mo 3 d17 s156]
 (.seq (.rgd 0 [mo 0 d157 s14,qo 1 d158 (.iadr s157 (vi 7) 1),qo 2 d159 (.ld1 s158),mo 3 d160 s16,mo 5 d162 s16,mo 8 d165 s16,mo 12 d169 s16,mo 13 d170 s14,qo 14 d171 (.iadr s170 (vi 5) 1),qo 15 d172 (.ld1 s171),qo 16 d173 (.bin .and s169 s172),mo 17 d174 s16,qo 18 d175 (.inv s174),mo 19 d176 s14,qo 20 d177 (.iadr s176 (vi 6) 1),qo 21 d178 (.ld1 s177),qo 22 d179 (.bin .and s175 s178),qo 23 d180 (.bin .xor s173 s179),mo 25 d182 s7,mo 26 d183 s15,qo 27 d184 (.iadr s182 s183 1),qo 28 d185 (.ld1 s184),mo 30 d187 s9,mo 31 d188 s15,qo 32 d189 (.iadr s187 s188 1),qo 33 d190 (.ld1 s189),⟨4,d161,(.call p73 [s160,(vl 6)]),none,[(p159,.ld1 s158,none),(p172,.ld1 s171,none),(p178,.ld1 s177,none),(p185,.ld1 s184,none),(p190,.ld1 s189,none)]⟩,⟨6,d163,(.call p73 [s162,(vl 11)]),none,[(p159,.ld1 s158,none),(p172,.ld1 s171,none),(p178,.ld1 s177,none),(p185,.ld1 s184,none),(p190,.ld1 s189,none)]⟩,qo 7 d164 (.bin .xor s161 s163),⟨9,d166,(.call p73 [s165,(vl 25)]),none,[(p159,.ld1 s158,none),(p172,.ld1 s171,none),(p178,.ld1 s177,none),(p185,.ld1 s184,none),(p190,.ld1 s189,none)]⟩,qo 10 d167 (.bin .xor s164 s166),qo 11 d168 (.bin .add s159 s167),qo 24 d181 (.bin .add s168 s180),qo 29 d186 (.bin .add s181 s185),qo 34 d191 (.bin .add s186 s190),mo 35 d18 s191])
 (.seq (.rgd 0 [mo 0 d192 s17,mo 2 d194 s17,mo 5 d197 s17,mo 8 d200 s17,mo 9 d201 s14,qo 10 d202 (.iadr s201 (vi 1) 1),qo 11 d203 (.ld1 s202),qo 12 d204 (.bin .and s200 s203),mo 13 d205 s17,mo 14 d206 s14,qo 15 d207 (.iadr s206 (vi 2) 1),qo 16 d208 (.ld1 s207),qo 17 d209 (.bin .and s205 s208),qo 18 d210 (.bin .xor s204 s209),mo 19 d211 s14,qo 20 d212 (.iadr s211 (vi 1) 1),qo 21 d213 (.ld1 s212),mo 22 d214 s14,qo 23 d215 (.iadr s214 (vi 2) 1),qo 24 d216 (.ld1 s215),qo 25 d217 (.bin .and s213 s216),qo 26 d218 (.bin .xor s210 s217),⟨1,d193,(.call p73 [s192,(vl 2)]),none,[(p203,.ld1 s202,none),(p208,.ld1 s207,none),(p213,.ld1 s212,none),(p216,.ld1 s215,none)]⟩,⟨3,d195,(.call p73 [s194,(vl 13)]),none,[(p203,.ld1 s202,none),(p208,.ld1 s207,none),(p213,.ld1 s212,none),(p216,.ld1 s215,none)]⟩,qo 4 d196 (.bin .xor s193 s195),⟨6,d198,(.call p73 [s197,(vl 22)]),none,[(p203,.ld1 s202,none),(p208,.ld1 s207,none),(p213,.ld1 s212,none),(p216,.ld1 s215,none)]⟩,qo 7 d199 (.bin .xor s196 s198),qo 27 d219 (.bin .add s199 s218),mo 28 d19 s219])
 (.rgd 0 [mo 0 d220 s18,mo 1 d221 s19,qo 2 d222 (.bin .add s220 s221),mo 3 d223 s14,qo 4 d224 (.iadr s223 (vi 0) 1),qo 5 d225 (.ld1 s224),mo 6 d226 s14,qo 7 d227 (.iadr s226 (vi 1) 1),qo 8 d228 (.ld1 s227),mo 9 d229 s14,qo 10 d230 (.iadr s229 (vi 2) 1),qo 11 d231 (.ld1 s230),mo 12 d232 s14,qo 13 d233 (.iadr s232 (vi 3) 1),qo 14 d234 (.ld1 s233),mo 15 d235 s18,qo 16 d236 (.bin .add s234 s235),mo 17 d237 s14,qo 18 d238 (.iadr s237 (vi 4) 1),qo 19 d239 (.ld1 s238),mo 20 d240 s14,qo 21 d241 (.iadr s240 (vi 5) 1),qo 22 d242 (.ld1 s241),mo 23 d243 s14,qo 24 d244 (.iadr s243 (vi 6) 1),qo 25 d245 (.ld1 s244),eo 26 d246 (.bsl (zz (.int .u32 (.ofNat 0)) 8) [(0,1,s222),(1,1,s225),(2,1,s228),(3,1,s231),(4,1,s236),(5,1,s239),(6,1,s242),(7,1,s245)] 8 1),mo 27 d14 s246]))))))
 (.reg [mo 0 d149 s15,qo 1 d150 (.bin .add s149 (vi 1)),mo 2 d15 s150]))))))
 (sr [mo 0 d20 (vi 0)]
 (.blk 10 (.loop (.seq (sr [mo 0 d247 s20,qo 1 d248 (.bin .lss s247 (vi 8))]
 (.cnd s248 .skip (.exit 10)))
 (.seq (.blk 11 (.rgd 0 [mo 0 d251 s3,mo 1 d252 s20,mo 2 d253 s3,mo 3 d254 s20,qo 4 d255 (.iadr s253 s254 1),qo 5 d256 (.ld1 s255),mo 6 d257 s14,mo 7 d258 s20,qo 8 d259 (.iadr s257 s258 1),qo 9 d260 (.ld1 s259),qo 10 d261 (.bin .add s256 s260),qo 11 d262 (.iadr s251 s252 1),eo 12 none (.st s262 s261 1)]))
 (.reg [mo 0 d249 s20,qo 1 d250 (.bin .add s249 (vi 1)),mo 2 d20 s250])))))))))))
 (.reg [mo 0 d57 s8,qo 1 d58 (.bin .add s57 (vi 64)),mo 2 d8 s58]))))))
 (sr [eo 0 d21 (.alo (zz zB 32))]
 (.seq (sr [mo 0 d22 (vi 0)]
 (.blk 12 (.loop (.seq (sr [mo 0 d263 s22,qo 1 d264 (.bin .lss s263 (vi 32))]
 (.cnd s264 .skip (.exit 12)))
 (.seq (.blk 13 (.reg [mo 0 d267 s22,mo 1 d268 s3,mo 2 d269 s22,qo 3 d270 (.bin .quo s269 (vi 4)),qo 4 d271 (.iadr s268 s270 1),qo 5 d272 (.ld1 s271),mo 6 d273 s22,qo 7 d274 (.bin .rem s273 (vi 4)),qo 8 d275 (.bin .mul (vi 8) s274),qo 9 d276 (.bin .sub (vi 24) s275),qo 10 d277 (.cvi .u64 s276),qo 11 d278 (.shf false s272 s277),qo 12 d279 (.cvi .u8 s278),qo 13 d280 (.iada s21 s267 1 32),eo 14 none (.st s280 s279 1)]))
 (.reg [mo 0 d265 s22,qo 1 d266 (.bin .add s265 (vi 1)),mo 2 d22 s266]))))))
 (sr [qo 0 d281 (.ldn s21 32),eo 1 none (.st s2 s281 32)]
 .ret)))))))))))
 [.cn p2 32]
noncomputable def f36 : FnE := .code 37
 (sr [eo 0 d2 (.alo (lapp [(.int .u32 (.ofNat 0))] (lapp (zz zB 32) [zB,zB,zB,zB,zB,zB,zB,zB,zB,zB,zB,zB,zB,zB,zB,zB,zB,zB,zB,zB,zB,zB,zB,zB,zB,zB,zB,zB,zB,zB,zB,zB,(.int .u32 (.ofNat 0)),(.int .u32 (.ofNat 0)),(.int .u32 (.ofNat 0)),.nils]))),qo 1 d3 (.mv (.v .nili))]
 (sr [mo 0 d6 s0,co 1 d7 p74 [s6],mo 2 d4 s7]
 (sr [mo 0 d8 s4,co 1 d9 p75 [s8],qo 2 d10 (.bld (lapp [(.int .u32 (.ofNat 0))] (lapp (zz zB 32) [zB,zB,zB,zB,zB,zB,zB,zB,zB,zB,zB,zB,zB,zB,zB,zB,zB,zB,zB,zB,zB,zB,zB,zB,zB,zB,zB,zB,zB,zB,zB,zB,(.int .u32 (.ofNat 0)),(.int .u32 (.ofNat 0)),(.int .u32 (.ofNat 0)),.nils])) [(0,68,s9)]),eo 3 d5 (.alo (lapp [(.int .u32 (.ofNat 0))] (lapp (zz zB 32) [zB,zB,zB,zB,zB,zB,zB,zB,zB,zB,zB,zB,zB,zB,zB,zB,zB,zB,zB,zB,zB,zB,zB,zB,zB,zB,zB,zB,zB,zB,zB,zB,(.int .u32 (.ofNat 0)),(.int .u32 (.ofNat 0)),(.int .u32 (.ofNat 0)),.nils]))),eo 4 none (.st s5 s10 69)]
 (.seq (sr [mo 0 d11 s4,co 1 d12 p76 [s11,(vl 200)],mo 2 d13 (vl 0)]
 (.blk 0 (.loop (sr [qo 0 d14 (.bin .lss s13 s12)]
 (.seq (.cnd s14 .skip (.exit 0))
 (.seq (.blk 1 (.rgd 0 [qo 0 d15 (.fadr s5 68),qo 1 d16 (.ld1 s15),mo 2 d17 s4,⟨3,d18,(.call p77 [s17]),none,[(p16,.ld1 s15,none)]⟩,⟨4,d19,(.e (.bsl [(.int .u32 (.ofNat 0)),.nils,.nils,(.int .u32 (.ofNat 0))] [(0,4,s18)] 1 4)),none,[(p16,.ld1 s15,none)]⟩,eo 5 d20 (.app s16 s19 4 64 false),qo 6 d21 (.fadr s5 68),eo 7 none (.st s21 s20 1)]))
 (.reg [qo 0 d22 (.bin .add s13 (vl 1)),mo 1 d13 s22])))))))
 (.seq (.blk 2 (sr [mo 0 d24 s4,co 1 d25 p78 [s24],qo 2 d26 (.eqp (.iface true) true s25 (.v .nili)),mo 3 d23 s26]
 (.cnd s23 (sr [qo 0 d27 (.bld (lapp [(.int .u32 (.ofNat 0))] (lapp (zz zB 32) [zB,zB,zB,zB,zB,zB,zB,zB,zB,zB,zB,zB,zB,zB,zB,zB,zB,zB,zB,zB,zB,zB,zB,zB,zB,zB,zB,zB,zB,zB,zB,zB,(.int .u32 (.ofNat 0)),(.int .u32 (.ofNat 0)),(.int .u32 (.ofNat 0)),.nils])) []),mo 1 d28 s4,co 2 d29 p78 [s28],eo 3 none (.st s2 s27 69),mo 4 d3 s29]
 .ret) (sr [mo 0 d31 s4,co 1 d32 p79 [s31],qo 2 d33 (.bin .gtr s32 (vi 0)),mo 3 d30 s33]
 (.cnd s30 (.seq (.rgd 0 [qo 0 d34 (.bld (lapp [(.int .u32 (.ofNat 0))] (lapp (zz zB 32) [zB,zB,zB,zB,zB,zB,zB,zB,zB,zB,zB,zB,zB,zB,zB,zB,zB,zB,zB,zB,zB,zB,zB,zB,zB,zB,zB,zB,zB,zB,zB,zB,(.int .u32 (.ofNat 0)),(.int .u32 (.ofNat 0)),(.int .u32 (.ofNat 0)),.nils])) []),qo 1 d35 (.ld1 (.g p2)),⟨2,none,(.e (.st s2 s34 69)),none,[(p35,.ld1 (.g p2),none)]⟩,mo 3 d3 s35])
 .ret) .skip)))))
 (sr [qo 0 d36 (.ldn s5 69),eo 1 none (.st s2 s36 69),qo 2 d3 (.mv (.v .nili))]
 .ret))))))
 [.cn p2 69,.t p3]
noncomputable def f37 : FnE := .code 45
 (sr [eo 0 d1 (.box s0 69),qo 1 d2 (.mv (.v .nili))]
 (.seq (sr [qo 0 d5 (.fadr s1 0),qo 1 d6 (.ldn s5 68),co 2 d7 p80 [s6],mo 3 d3 s7]
 (sr [mo 0 d8 s3,qo 1 d9 (.eqp (.iface true) true s8 (.v .nili))]
 (.cnd s9 (sr [mo 0 d10 s3,mo 1 d2 s10]
 .ret) .skip)))
 (.seq (.blk 0 (sr [qo 0 d12 (.fadr s1 68),qo 1 d13 (.ld1 s12),qo 2 d14 (.lenv s13),qo 3 d15 (.bin .eql s14 (vi 0)),mo 4 d16 s15,⟨5,d17,(.q (.fadr s1 68)),(some (p16,false)),[]⟩,⟨6,d18,(.q (.ld1 s17)),(some (p16,false)),[]⟩,⟨7,d19,(.q (.lenv s18)),(some (p16,false)),[]⟩,⟨8,d20,(.q (.bin .gtr s19 (vi 200))),(some (p16,false)),[]⟩,qo 9 d21 (.pick s16 (.v (.bool true)) s20),mo 10 d11 s21]
 (.cnd s11 (sr [qo 0 d22 (.ld1 (.g p3)),mo 1 d2 s22]
 .ret) (sr [qo 0 d24 (.ldn s1 69),co 1 d25 p81 [s24],qo 2 d26 (.bin .gtr s25 (vi 20000)),mo 3 d23 s26]
 (.cnd s23 (sr [qo 0 d27 (.ld1 (.g p4)),mo 1 d2 s27]
 .ret) .skip)))))
 (.seq (sr [qo 0 d28 (.ldn s1 69),co 1 d29 p82 [s28],mo 2 d4 s29]
 (sr [mo 0 d30 s4,qo 1 d31 (.eqp (.iface true) true s30 (.v .nili))]
 (.cnd s31 (sr [mo 0 d32 s4,mo 1 d2 s32]
 .ret) .skip)))
 (.seq (.blk 1 (sr [qo 0 d34 (.ldn s1 69),co 1 d35 p83 [s34],mo 2 d33 s35]
 (.cnd s33 (sr [qo 0 d36 (.ld1 (.g p5)),mo 1 d2 s36]
 .ret) (.seq (.rgd 0 [qo 0 d38 (.ldn s1 69),qo 2 d40 (.fadr s1 0),qo 3 d41 (.fadr s40 33),qo 4 d42 (.ldn s41 32),⟨1,d39,(.call p65 [s38]),none,[(p42,.ldn s41 32,none)]⟩,qo 5 d43 (.eqa true (kk .u8 32) s39 s42),mo 6 d37 s43])
 (.cnd s37 (sr [qo 0 d44 (.ld1 (.g p6)),mo 1 d2 s44]
 .ret) .skip)))))
 (sr [qo 0 d2 (.mv (.v .nili))]
 .ret))))))
 [.t p2]
noncomputable def f38 : FnE := .code 6
 (sr [eo 0 d1 (.box s0 69),eo 1 d2 (.alo (zz zB 32))]
 (sr [qo 0 d3 (.fadr s1 0),qo 1 d4 (.ldn s3 68),co 2 d5 p66 [s4],eo 3 none (.st s2 s5 32)]
 .ret))
 [.cn p2 32]
noncomputable def f39 : FnE := .code 61
 (sr [eo 0 d4 (.box s1 32),eo 1 d5 (.box s2 69),qo 2 d6 (.mv (.v .nili))]
 (.seq (.seq (.rgd 1 [mo 0 d12 s0,qo 1 d13 (.nck s12),qo 2 d14 (.fadr s13 9),qo 3 d15 (.ld1 s14),qo 4 d16 (.ldn s4 32),co 5 d17 p84 [s15,s16],mo 6 d11 s17,qo 7 d18 (.ext s11 0),qo 8 d19 (.ext s11 1),⟨9,d7,(.l (.alo (lapp [(.int .u32 (.ofNat 0))] (lapp (zz zB 32) [zB,zB,zB,zB,zB,zB,zB,zB,zB,zB,zB,zB,zB,zB,zB,zB,zB,zB,zB,zB,zB,zB,zB,zB,zB,zB,zB,zB,zB,zB,zB,zB,(.int .u32 (.ofNat 0)),(.int .u32 (.ofNat 0)),(.int .u32 (.ofNat 0))]))) 0),none,[(p15,.ld1 s14,none),(p16,.ldn s4 32,none)]⟩,eo 10 none (.st s7 s18 68),mo 11 d8 s19])
 (sr [mo 0 d20 s8]
 (.cnd s20 (sr [qo 0 d21 (.ld1 (.g p7)),mo 1 d6 s21]
 .ret) .skip)))
 (.seq (.rgd 0 [mo 0 d23 s0,qo 1 d24 (.nck s23),qo 2 d25 (.fadr s24 9),qo 3 d26 (.ld1 s25),qo 4 d27 (.fadr s5 0),qo 5 d28 (.fadr s27 1),qo 6 d29 (.ldn s28 32),co 7 d30 p61 [s26,s29],mo 8 d22 s30,qo 9 d31 (.ext s22 0),qo 10 d32 (.ext s22 1),mo 11 d9 s31,mo 12 d10 s32])
 (.seq (.blk 0 (sr [mo 0 d34 s10,qo 1 d35 (.not s34),mo 2 d33 s35]
 (.cnd s33 (sr [qo 0 d36 (.ld1 (.g p8)),mo 1 d6 s36]
 .ret) (.seq (.rgd 0 [mo 0 d38 s0,qo 1 d39 (.nck s38),qo 2 d40 (.fadr s39 10),qo 3 d41 (.ld1 s40),qo 4 d42 (.fadr s5 0),qo 5 d43 (.fadr s42 1),qo 6 d44 (.ldn s43 32),co 7 d45 p44 [s41,s44],mo 8 d37 s45])
 (.cnd s37 (sr [qo 0 d46 (.ld1 (.g p0)),mo 1 d6 s46]
 .ret) (sr [qo 0 d48 (.fadr s5 0),qo 1 d49 (.fadr s48 65),qo 2 d50 (.ld1 s49),mo 3 d51 s9,qo 4 d52 (.bin .leq s50 s51),mo 5 d47 s52]
 (.cnd s47 (sr [qo 0 d53 (.ld1 (.g p9)),mo 1 d6 s53]
 .ret) .skip)))))))
 (.seq (.rgd 0 [mo 0 d54 s0,qo 1 d55 (.nck s54),qo 2 d56 (.fadr s55 9),qo 3 d57 (.ld1 s56),qo 4 d58 (.fadr s5 0),qo 5 d59 (.ldn s58 68),co 6 d60 p85 [s57,s59],mo 7 d6 s60])
 .ret)))))
 [.t p6]
noncomputable def f40 : FnE := .code 24
 (sr [eo 0 d2 (.alo (zz zB 32))]
 (sr [mo 0 d7 s0,co 1 d8 p86 [s7],mo 2 d6 s8,qo 3 d9 (.ext s6 0),qo 4 d10 (.ext s6 1),mo 5 d3 s9,mo 6 d4 s10]
 (sr [mo 0 d11 s4,mo 1 d12 s0,qo 2 d13 (.bld [.nils,.nilp,.nilf] [(0,1,s11),(1,1,s12),(2,1,(.f 87))]),eo 3 d14 (.box s13 3),mo 4 d5 s14]
 (sr [mo 0 d15 s5,qo 1 d16 (.mki 161 s15),co 2 d17 p88 [s16]]
 (sr [mo 0 d18 s5,qo 1 d19 (.nck s18),qo 2 d20 (.fadr s19 0),qo 3 d21 (.ld1 s20),qo 4 d22 (.iadr s21 (vi 0) 32),qo 5 d23 (.ldn s22 32),eo 6 none (.st s2 s23 32)]
 .ret)))))
 [.cn p2 32]
noncomputable def f41 : FnE := .code 90
 (sr [eo 0 d3 (.box s1 32),eo 1 d4 (.alo (zz zB 32)),qo 2 d5 (.mv (.v .nili))]
 (sr [mo 0 d16 s0,qo 1 d17 (.nck s16),qo 2 d18 (.fadr s17 13),qo 3 d19 (.ld1 s18),co 4 d20 p55 [s19],mo 5 d6 s20]
 (.seq (.rgd 0 [mo 0 d22 s0,qo 1 d23 (.nck s22),qo 2 d24 (.fadr s23 9),qo 3 d25 (.ld1 s24),mo 4 d26 s0,qo 5 d27 (.nck s26),qo 6 d28 (.fadr s27 14),qo 7 d29 (.ldn s28 32),qo 8 d30 (.ldn s3 32),co 9 d31 p60 [s25,s29,s30],mo 10 d21 s31,qo 11 d32 (.ext s21 0),qo 12 d33 (.ext s21 1),qo 13 d34 (.ext s21 2),mo 14 d7 s32,mo 15 d8 s33,mo 16 d9 s34])
 (.seq (sr [mo 0 d35 s7,qo 1 d36 (.lenv s35),mo 2 d37 (vi 0)]
 (.blk 0 (.loop (sr [qo 0 d38 (.bin .lss s37 s36)]
 (.seq (.cnd s38 .skip (.exit 0))
 (.seq (.blk 1 (sr [qo 0 d39 (.iadr s35 s37 32),qo 1 d40 (.ldn s39 32),eo 2 d11 (.alo (zz zB 32)),eo 3 none (.st s11 s40 32)]
 (.seq (.rgd 0 [mo 0 d41 s0,qo 1 d42 (.nck s41),qo 2 d43 (.fadr s42 13),qo 3 d44 (.ld1 s43),mo 4 d45 s0,qo 5 d46 (.nck s45),qo 6 d47 (.fadr s46 11),qo 7 d48 (.ld1 s47),qo 8 d49 (.ldn s11 32),qo 9 d50 (.lkp s48 s49 (.cells (kk .u8 32)) (.agg (lapp [(.int .u32 (.ofNat 0))] (lapp (zz zB 32) [zB,zB,zB,zB,zB,zB,zB,zB,zB,zB,zB,zB,zB,zB,zB,zB,zB,zB,zB,zB,zB,zB,zB,zB,zB,zB,zB,zB,zB,zB,zB,zB,(.int .u32 (.ofNat 0)),(.int .u32 (.ofNat 0)),(.int .u32 (.ofNat 0)),.nils]))) false),mo 10 d51 s0,qo 11 d52 (.nck s51),qo 12 d53 (.fadr s52 12),qo 13 d54 (.ld1 s53),qo 14 d55 (.ldn s11 32),qo 15 d56 (.lkp s54 s55 (.cells (kk .u8 32)) .nils false),co 16 d57 p89 [s44,s50,s56],mo 17 d12 s57])
 (sr [mo 0 d58 s12,qo 1 d59 (.eqp (.iface true) true s58 (.v .nili))]
 (.cnd s59 (sr [mo 0 d60 s0,mo 1 d61 s6,qo 2 d62 (.nck s60),qo 3 d63 (.fadr s62 13),eo 4 none (.st s63 s61 1)]
 (sr [qo 0 d64 (.ldn s11 32),mo 1 d65 s12,eo 2 none (.st s4 s64 32),mo 3 d5 s65]
 .ret)) .skip)))))
 (.reg [qo 0 d66 (.bin .add s37 (vi 1)),mo 1 d37 s66])))))))
 (.seq (sr [mo 0 d67 s8,qo 1 d68 (.lenv s67),mo 2 d69 (vi 0)]
 (.blk 2 (.loop (sr [qo 0 d70 (.bin .lss s69 s68)]
 (.seq (.cnd s70 .skip (.exit 2))
 (.seq (.blk 3 (sr [qo 0 d71 (.iadr s67 s69 32),qo 1 d72 (.ldn s71 32),eo 2 d14 (.alo (zz zB 32)),eo 3 none (.st s14 s72 32)]
 (sr [mo 0 d73 s0,qo 1 d74 (.ldn s14 32),co 2 d75 p90 [s73,s74],mo 3 d15 s75]
 (sr [mo 0 d76 s15,qo 1 d77 (.eqp (.iface true) true s76 (.v .nili))]
 (.cnd s77 (sr [mo 0 d78 s0,mo 1 d79 s6,qo 2 d80 (.nck s78),qo 3 d81 (.fadr s80 13),eo 4 none (.st s81 s79 1)]
 (sr [qo 0 d82 (.ldn s14 32),mo 1 d83 s15,eo 2 none (.st s4 s82 32),mo 3 d5 s83]
 .ret)) .skip)))))
 (.reg [qo 0 d84 (.bin .add s69 (vi 1)),mo 1 d69 s84])))))))
 (sr [mo 0 d85 s0,qo 1 d86 (.ldn s3 32),qo 2 d87 (.nck s85),qo 3 d88 (.fadr s87 14),eo 4 none (.st s88 s86 32)]
 (sr [qo 0 d89 (.bld (zz zB 32) []),eo 1 none (.st s4 s89 32),qo 2 d5 (.mv (.v .nili))]
 .ret)))))))
 [.cn p4 32,.t p5]
noncomputable def f42 : FnE := .code 32
 (sr [eo 0 d3 (.box s1 32),qo 1 d4 (.mv (.v (.bool false)))]
 (.seq (.seq (.rgd 1 [mo 0 d8 s0,qo 1 d9 (.nck s8),qo 2 d10 (.fadr s9 0),qo 3 d11 (.ld1 s10),qo 4 d12 (.ldn s3 32),co 5 d13 p84 [s11,s12],mo 6 d7 s13,qo 7 d14 (.ext s7 0),qo 8 d15 (.ext s7 1),⟨9,d5,(.l (.alo (lapp [(.int .u32 (.ofNat 0))] (lapp (zz zB 32) [zB,zB,zB,zB,zB,zB,zB,zB,zB,zB,zB,zB,zB,zB,zB,zB,zB,zB,zB,zB,zB,zB,zB,zB,zB,zB,zB,zB,zB,zB,zB,zB,(.int .u32 (.ofNat 0)),(.int .u32 (.ofNat 0)),(.int .u32 (.ofNat 0))]))) 0),none,[(p11,.ld1 s10,none),(p12,.ldn s3 32,none)]⟩,eo 10 none (.st s5 s14 68),mo 11 d6 s15])
 (.seq (.rgd 0 [mo 0 d16 s6,qo 1 d17 (.not s16),mo 2 d18 s17,⟨3,d19,(.q (.ldn s3 32)),(some (p18,false)),[]⟩,⟨4,d20,(.q (.mv s0)),(some (p18,false)),[]⟩,⟨5,d21,(.q (.nck s20)),(some (p18,false)),[]⟩,⟨6,d22,(.q (.fadr s21 0)),(some (p18,false)),[]⟩,⟨7,d23,(.q (.ld1 s22)),(some (p18,false)),[]⟩,⟨8,d24,(.call p32 [s23]),(some (p18,false)),[(p19,.ldn s3 32,(some (p18,false)))]⟩,⟨9,d25,(.q (.eqa false (kk .u8 32) s19 s24)),(some (p18,false)),[]⟩,qo 10 d26 (.pick s18 (.v (.bool true)) s25)])
 (.cnd s26 (sr [qo 0 d4 (.mv (.v (.bool false)))]
 .ret) .skip)))
 (.seq (.rgd 0 [mo 0 d27 s0,qo 1 d28 (.nck s27),qo 2 d29 (.fadr s28 1),qo 3 d30 (.ld1 s29),qo 4 d31 (.ldn s3 32),eo 5 none (.mup s30 s31 (.v (.bool true)) (.cells (kk .u8 32)))])
 (sr [qo 0 d4 (.mv (.v (.bool true)))]
 .ret))))
 [.t p4]
noncomputable def f43 : FnE := .code 28
 (sr [eo 0 d4 (.box s1 32),eo 1 d5 (.box s2 32),eo 2 d6 (.alo [.nils,.nils])]
 (.seq (.rgd 0 [mo 0 d11 s0,qo 1 d12 (.nck s11),qo 2 d13 (.fadr s12 9),qo 3 d14 (.ld1 s13),qo 4 d15 (.ldn s4 32),qo 5 d16 (.ldn s5 32),co 6 d17 p60 [s14,s15,s16],mo 7 d10 s17,qo 8 d18 (.ext s10 0),qo 9 d19 (.ext s10 1),qo 10 d20 (.ext s10 2),mo 11 d7 s18,mo 12 d8 s19,mo 13 d9 s20])
 (sr [mo 0 d21 s0,mo 1 d22 s7,co 2 d23 p91 [s21,s22],mo 3 d24 s0,mo 4 d25 s8,co 5 d26 p91 [s24,s25],qo 6 d27 (.bld [.nils,.nils] [(0,1,s23),(1,1,s26)]),eo 7 none (.st s6 s27 2)]
 .ret)))
 [.cn p6 2]
noncomputable def f44 : FnE := .code 35
 (sr [eo 0 d3 (.box s1 32),qo 1 d4 (.mv (.v (.bool false)))]
 (.seq (.blk 0 (.loop (.seq (.seq (.rgd 0 [qo 0 d7 (.ldn s3 32),mo 1 d8 s0,qo 2 d9 (.nck s8),qo 3 d10 (.fadr s9 0),qo 4 d11 (.ld1 s10),⟨5,d12,(.call p32 [s11]),none,[(p7,.ldn s3 32,none)]⟩,qo 6 d13 (.eqa true (kk .u8 32) s7 s12)])
 (.cnd s13 .skip (.exit 0)))
 (.blk 1 (.seq (.rgd 1 [mo 0 d15 s0,qo 1 d16 (.nck s15),qo 2 d17 (.fadr s16 0),qo 3 d18 (.ld1 s17),qo 4 d19 (.ldn s3 32),co 5 d20 p84 [s18,s19],mo 6 d14 s20,qo 7 d21 (.ext s14 0),qo 8 d22 (.ext s14 1),⟨9,d5,(.l (.alo (lapp [(.int .u32 (.ofNat 0))] (lapp (zz zB 32) [zB,zB,zB,zB,zB,zB,zB,zB,zB,zB,zB,zB,zB,zB,zB,zB,zB,zB,zB,zB,zB,zB,zB,zB,zB,zB,zB,zB,zB,zB,zB,zB,(.int .u32 (.ofNat 0)),(.int .u32 (.ofNat 0)),(.int .u32 (.ofNat 0))]))) 0),none,[(p18,.ld1 s17,none),(p19,.ldn s3 32,none)]⟩,eo 10 none (.st s5 s21 68),mo 11 d6 s22])
 (.seq (.blk 2 (sr [mo 0 d24 s6,qo 1 d25 (.not s24),mo 2 d23 s25]
 (.cnd s23 (sr [qo 0 d4 (.mv (.v (.bool false)))]
 .ret) (.seq (.rgd 0 [mo 0 d27 s0,qo 1 d28 (.nck s27),qo 2 d29 (.fadr s28 1),qo 3 d30 (.ld1 s29),qo 4 d31 (.ldn s3 32),qo 5 d32 (.lkp s30 s31 (.cells (kk .u8 32)) (.bool false) false),mo 6 d26 s32])
 (.cnd s26 (sr [qo 0 d4 (.mv (.v (.bool true)))]
 .ret) .skip)))))
 (.reg [qo 0 d33 (.fadr s5 1),qo 1 d34 (.ldn s33 32),eo 2 none (.st s3 s34 32)])))))))
 (sr [qo 0 d4 (.mv (.v (.bool false)))]
 .ret)))
 [.t p4]
noncomputable def f45 : FnE := .code 33
 (sr [qo 0 d4 (.mv (.v .nils))]
 (.seq (sr [mo 0 d5 s1,co 1 d6 p92 [s5]]
 (.blk 0 (sr [qo 0 d8 (.bin .eql s6 (vi 1)),mo 1 d7 s8]
 (.cnd s7 (sr [mo 0 d9 s0,mo 1 d10 s1,qo 2 d11 (.cvi .u8 s10),eo 3 d12 (.bsl [zB] [(0,1,s11)] 1 1),eo 4 d13 (.app s9 s12 1 1 false),mo 5 d4 s13]
 .ret) (sr [qo 0 d15 (.bin .eql s6 (vi 3)),mo 1 d14 s15]
 (.cnd s14 (sr [mo 0 d16 s0,eo 1 d17 (.bsl [zB] [(0,1,(v8 253))] 1 1),eo 2 d18 (.app s16 s17 1 1 false),mo 3 d19 s1,co 4 d20 p93 [s18,s19,(vi 2)],mo 5 d4 s20]
 .ret) (sr [qo 0 d22 (.bin .eql s6 (vi 5)),mo 1 d21 s22]
 (.cnd s21 (sr [mo 0 d23 s0,eo 1 d24 (.bsl [zB] [(0,1,(v8 254))] 1 1),eo 2 d25 (.app s23 s24 1 1 false),mo 3 d26 s1,co 4 d27 p93 [s25,s26,(vi 4)],mo 5 d4 s27]
 .ret) .skip))))))))
 (sr [mo 0 d28 s0,eo 1 d29 (.bsl [zB] [(0,1,(v8 255))] 1 1),eo 2 d30 (.app s28 s29 1 1 false),mo 3 d31 s1,co 4 d32 p93 [s30,s31,(vi 8)],mo 5 d4 s32]
 .ret)))
 [.t p4]
noncomputable def f46 : FnE := .code 24
 (sr [eo 0 d1 (.box s0 68),qo 1 d2 (.mv (.v .nils))]
 (.seq (.rgd 0 [qo 0 d4 (.fadr s1 0),qo 1 d5 (.ld1 s4),qo 3 d7 (.fadr s1 1),qo 4 d8 (.slca s7 none none 1 32),⟨2,d6,(.call p69 [(.v .nils),s5]),none,[(p8,.slca s7 none none 1 32,none)]⟩,eo 5 d9 (.app s6 s8 1 1 false),mo 6 d3 s9])
 (sr [mo 0 d10 s3,qo 1 d11 (.fadr s1 33),qo 2 d12 (.slca s11 none none 1 32),eo 3 d13 (.app s10 s12 1 1 false),mo 4 d3 s13]
 (.seq (.rgd 0 [mo 0 d14 s3,qo 1 d15 (.fadr s1 65),qo 2 d16 (.ld1 s15),qo 4 d18 (.fadr s1 66),qo 5 d19 (.ld1 s18),qo 7 d21 (.fadr s1 67),qo 8 d22 (.ld1 s21),⟨3,d17,(.call p69 [s14,s16]),none,[(p19,.ld1 s18,none),(p22,.ld1 s21,none)]⟩,⟨6,d20,(.call p69 [s17,s19]),none,[(p22,.ld1 s21,none)]⟩,co 9 d23 p69 [s20,s22],mo 10 d2 s23])
 .ret))))
 [.t p2]
noncomputable def f47 : FnE := .code 81
 (sr [eo 0 d1 (.box s0 4),qo 1 d2 (.mv (.v .nils))]
 (.seq (.rgd 0 [qo 0 d7 (.fadr s1 0),qo 1 d8 (.ld1 s7),qo 3 d10 (.fadr s1 1),qo 4 d11 (.ld1 s10),qo 5 d12 (.lenv s11),qo 6 d13 (.cvi .u64 s12),⟨2,d9,(.call p69 [(.v .nils),s8]),none,[(p11,.ld1 s10,none)]⟩,co 7 d14 p45 [s9,s13],mo 8 d3 s14])
 (.seq (sr [mo 0 d4 (vi 0)]
 (.blk 0 (.loop (.seq (sr [mo 0 d15 s4,qo 1 d16 (.fadr s1 1),qo 2 d17 (.ld1 s16),qo 3 d18 (.lenv s17),qo 4 d19 (.bin .lss s15 s18)]
 (.cnd s19 .skip (.exit 0)))
 (.seq (.blk 1 (sr [qo 0 d22 (.fadr s1 1),qo 1 d23 (.ld1 s22),mo 2 d24 s4,qo 3 d25 (.iadr s23 s24 35),qo 4 d26 (.ldn s25 35),eo 5 d5 (.alo (lapp (zz zB 32) [(.int .u32 (.ofNat 0)),.nils,(.int .u32 (.ofNat 0))])),eo 6 none (.st s5 s26 35)]
 (sr [mo 0 d27 s3,qo 1 d28 (.fadr s5 0),qo 2 d29 (.fadr s28 0),qo 3 d30 (.slca s29 none none 1 32),eo 4 d31 (.app s27 s30 1 1 false),mo 5 d3 s31]
 (.seq (.rgd 0 [mo 0 d32 s3,qo 1 d33 (.fadr s5 0),qo 2 d34 (.fadr s33 32),qo 3 d35 (.ld1 s34),qo 5 d37 (.fadr s5 33),qo 6 d38 (.ld1 s37),qo 7 d39 (.lenv s38),qo 8 d40 (.cvi .u64 s39),⟨4,d36,(.call p69 [s32,s35]),none,[(p38,.ld1 s37,none)]⟩,co 9 d41 p45 [s36,s40],mo 10 d3 s41])
 (.rgd 0 [mo 0 d42 s3,qo 1 d43 (.fadr s5 33),qo 2 d44 (.ld1 s43),qo 4 d46 (.fadr s5 34),qo 5 d47 (.ld1 s46),⟨3,d45,(.e (.app s42 s44 1 1 false)),none,[(p47,.ld1 s46,none)]⟩,co 6 d48 p69 [s45,s47],mo 7 d3 s48])))))
 (.reg [mo 0 d20 s4,qo 1 d21 (.bin .add s20 (vi 1)),mo 2 d4 s21]))))))
 (sr [mo 0 d49 s3,qo 1 d50 (.fadr s1 2),qo 2 d51 (.ld1 s50),qo 3 d52 (.lenv s51),qo 4 d53 (.cvi .u64 s52),co 5 d54 p45 [s49,s53],mo 6 d3 s54]
 (.seq (sr [mo 0 d6 (vi 0)]
 (.blk 2 (.loop (.seq (sr [mo 0 d55 s6,qo 1 d56 (.fadr s1 2),qo 2 d57 (.ld1 s56),qo 3 d58 (.lenv s57),qo 4 d59 (.bin .lss s55 s58)]
 (.cnd s59 .skip (.exit 2)))
 (.seq (.blk 3 (.rgd 0 [mo 0 d62 s3,qo 1 d63 (.fadr s1 2),qo 2 d64 (.ld1 s63),mo 3 d65 s6,qo 4 d66 (.iadr s64 s65 33),qo 5 d67 (.fadr s66 0),qo 6 d68 (.ld1 s67),qo 8 d70 (.fadr s1 2),qo 9 d71 (.ld1 s70),mo 10 d72 s6,qo 11 d73 (.iadr s71 s72 33),qo 12 d74 (.fadr s73 1),qo 13 d75 (.slca s74 none none 1 32),⟨7,d69,(.call p94 [s62,s68]),none,[(p71,.ld1 s70,none),(p75,.slca s74 none none 1 32,none)]⟩,eo 14 d76 (.app s69 s75 1 1 false),mo 15 d3 s76]))
 (.reg [mo 0 d60 s6,qo 1 d61 (.bin .add s60 (vi 1)),mo 2 d6 s61]))))))
 (sr [mo 0 d77 s3,qo 1 d78 (.fadr s1 3),qo 2 d79 (.ld1 s78),co 3 d80 p69 [s77,s79],mo 4 d2 s80]
 .ret))))))
 [.t p2]
noncomputable def f48 : FnE := .code 8
 (sr [eo 0 d2 (.alo (zz zB 32))]
 (sr [mo 0 d4 s0,co 1 d5 p35 [s4],eo 2 d3 (.alo (zz zB 32)),eo 3 none (.st s3 s5 32)]
 (sr [qo 0 d6 (.slca s3 none none 1 32),co 1 d7 p35 [s6],eo 2 none (.st s2 s7 32)]
 .ret)))
 [.cn p2 32]
noncomputable def f49 : FnE := .code 11
 (sr [qo 0 d2 (.mv (.v .nils))]
 (sr [mo 0 d6 s0,co 1 d7 p86 [s6],mo 2 d5 s7,qo 3 d8 (.ext s5 0),qo 4 d9 (.ext s5 1),mo 5 d3 s8,mo 6 d4 s9]
 (sr [mo 0 d10 s3,mo 1 d2 s10]
 .ret)))
 [.t p2]
noncomputable def f50 : FnE := .code 9
 (sr [eo 0 d3 (.box s1 5),qo 1 d4 (.mv (.v (.bool false)))]
 (.seq (.rgd 0 [mo 0 d5 s0,qo 2 d7 (.ldn s3 5),⟨1,d6,(.call p96 [s5]),none,[(p7,.ldn s3 5,none)]⟩,co 3 d8 p95 [s6,s7],mo 4 d4 s8])
 .ret))
 [.t p4]
noncomputable def f51 : FnE := .code 5
 (sr [eo 0 d2 (.alo [(.int .i64 (.ofNat 0)),(.bool false),(.int .i64 (.ofNat 0)),(.bool false),(.int .i64 (.ofNat 0))])]
 (sr [mo 0 d3 s0,qo 1 d4 (.bld [(.int .i64 (.ofNat 0)),(.bool false),(.int .i64 (.ofNat 0)),(.bool false),(.int .i64 (.ofNat 0))] [(0,1,s3)]),eo 2 none (.st s2 s4 5)]
 .ret))
 [.cn p2 5]
noncomputable def f52 : FnE := .code 22
 (sr [eo 0 d3 (.box s1 32),mo 1 d4 (vi 0),qo 2 d5 (.mv (.v (.bool false)))]
 (.seq (.seq (.rgd 0 [mo 0 d9 s0,qo 1 d10 (.nck s9),qo 2 d11 (.fadr s10 0),qo 3 d12 (.ld1 s11),qo 4 d13 (.ldn s3 32),qo 5 d14 (.lkp s12 s13 (.cells (kk .u8 32)) .nilp true),mo 6 d8 s14,qo 7 d15 (.ext s8 0),qo 8 d16 (.ext s8 1),mo 9 d6 s15,mo 10 d7 s16])
 (sr [mo 0 d17 s7]
 (.cnd s17 (sr [mo 0 d18 s6,qo 1 d19 (.nck s18),qo 2 d20 (.fadr s19 68),qo 3 d21 (.ld1 s20),mo 4 d4 s21,qo 5 d5 (.mv (.v (.bool true)))]
 .ret) .skip)))
 (sr [mo 0 d4 (vi 0),qo 1 d5 (.mv (.v (.bool false)))]
 .ret)))
 [.t p4,.t p5]
noncomputable def f55 : FnE := .code 10
 (sr [qo 0 d2 (.mv (.v .nilp))]
 (sr [mo 0 d3 s0,qo 1 d4 (.nck s3),qo 2 d5 (.fadr s4 0),qo 3 d6 (.ld1 s5),co 4 d7 p98 [s6],qo 5 d8 (.bld [.nilm] [(0,1,s7)]),eo 6 d9 (.box s8 1),mo 7 d2 s9]
 .ret))
 [.t p2]
noncomputable def f57 : FnE := .code 60
 (sr [mo 0 d6 s0,co 1 d7 p102 [s6],eo 2 d4 (.alo (zz (.int .u32 (.ofNat 0)) 8)),eo 3 none (.st s4 s7 8)]
 (sr [mo 0 d8 s0,qo 1 d9 (.nck s8),qo 2 d10 (.fadr s9 9),qo 3 d11 (.ld1 s10),mo 4 d12 s1,qo 5 d13 (.lenv s12),qo 6 d14 (.bin .add s11 s13),qo 7 d15 (.nck s8),qo 8 d16 (.fadr s15 9),eo 9 none (.st s16 s14 1)]
 (sr [mo 0 d17 s0,mo 1 d18 s0,qo 2 d19 (.nck s18),qo 3 d20 (.fadr s19 8),qo 4 d21 (.ld1 s20),mo 5 d22 s1,eo 6 d23 (.app s21 s22 1 1 false),qo 7 d24 (.nck s17),qo 8 d25 (.fadr s24 8),eo 9 none (.st s25 s23 1)]
 (sr [mo 0 d5 (vi 0)]
 (.seq (.blk 0 (.loop (.seq (sr [mo 0 d26 s5,qo 1 d27 (.bin .add s26 (vi 64)),mo 2 d28 s0,qo 3 d29 (.nck s28),qo 4 d30 (.fadr s29 8),qo 5 d31 (.ld1 s30),qo 6 d32 (.lenv s31),qo 7 d33 (.bin .leq s27 s32)]
 (.cnd s33 .skip (.exit 0)))
 (.seq (.blk 1 (.rgd 0 [qo 0 d36 (.ldn s4 8),mo 1 d37 s0,qo 2 d38 (.nck s37),qo 3 d39 (.fadr s38 8),qo 4 d40 (.ld1 s39),mo 5 d41 s5,mo 6 d42 s5,qo 7 d43 (.bin .add s42 (vi 64)),qo 8 d44 (.slc s40 (some s41) (some s43) 1),co 9 d45 p103 [s36,s44],eo 10 none (.st s4 s45 8)]))
 (.reg [mo 0 d34 s5,qo 1 d35 (.bin .add s34 (vi 64)),mo 2 d5 s35])))))
 (.rgd 0 [mo 0 d46 s0,mo 1 d47 s0,qo 2 d48 (.ldn s4 8),mo 3 d49 s0,qo 4 d50 (.nck s49),qo 5 d51 (.fadr s50 8),qo 6 d52 (.ld1 s51),mo 7 d53 s5,qo 8 d54 (.slc s52 (some s53) none 1),⟨9,d55,(.call p104 [s54]),none,[(p48,.ldn s4 8,none)]⟩,qo 10 d56 (.nck s46),qo 11 d57 (.fadr s56 0),eo 12 none (.st s57 s48 8),qo 13 d58 (.nck s47),qo 14 d59 (.fadr s58 8),eo 15 none (.st s59 s55 1)]))))))
 []
noncomputable def f59 : FnE := .code 79
 (sr [eo 0 d2 (.alo (zz zB 32))]
 (sr [mo 0 d11 s0,qo 1 d12 (.nck s11),qo 2 d13 (.fadr s12 8),qo 3 d14 (.ld1 s13),co 4 d15 p104 [s14],eo 5 d16 (.bsl [zB] [(0,1,(v8 128))] 1 1),eo 6 d17 (.app s15 s16 1 1 false),mo 7 d3 s17]
 (.seq (.blk 0 (.loop (.seq (sr [mo 0 d18 s3,qo 1 d19 (.lenv s18),qo 2 d20 (.bin .rem s19 (vi 64)),qo 3 d21 (.bin .neq s20 (vi 56))]
 (.cnd s21 .skip (.exit 0)))
 (.blk 1 (.reg [mo 0 d22 s3,eo 1 d23 (.bsl [zB] [(0,1,(v8 0))] 1 1),eo 2 d24 (.app s22 s23 1 1 false),mo 3 d3 s24])))))
 (.seq (sr [mo 0 d4 (vi 7)]
 (.blk 2 (.loop (.seq (sr [mo 0 d25 s4,qo 1 d26 (.bin .geq s25 (vi 0))]
 (.cnd s26 .skip (.exit 2)))
 (.seq (.blk 3 (.reg [mo 0 d29 s3,mo 1 d30 s0,qo 2 d31 (.nck s30),qo 3 d32 (.fadr s31 9),qo 4 d33 (.ld1 s32),qo 5 d34 (.cvi .u64 s33),qo 6 d35 (.shf true s34 (vl 3)),mo 7 d36 s4,qo 8 d37 (.bin .mul (vi 8) s36),qo 9 d38 (.shf false s35 s37),qo 10 d39 (.cvi .u8 s38),eo 11 d40 (.bsl [zB] [(0,1,s39)] 1 1),eo 12 d41 (.app s29 s40 1 1 false),mo 13 d3 s41]))
 (.reg [mo 0 d27 s4,qo 1 d28 (.bin .sub s27 (vi 1)),mo 2 d4 s28]))))))
 (sr [mo 0 d42 s0,co 1 d43 p102 [s42],eo 2 d5 (.alo (zz (.int .u32 (.ofNat 0)) 8)),eo 3 none (.st s5 s43 8)]
 (.seq (sr [mo 0 d6 (vi 0)]
 (.blk 4 (.loop (.seq (sr [mo 0 d44 s6,mo 1 d45 s3,qo 2 d46 (.lenv s45),qo 3 d47 (.bin .lss s44 s46)]
 (.cnd s47 .skip (.exit 4)))
 (.seq (.blk 5 (.rgd 0 [qo 0 d50 (.ldn s5 8),mo 1 d51 s3,mo 2 d52 s6,mo 3 d53 s6,qo 4 d54 (.bin .add s53 (vi 64)),qo 5 d55 (.slc s51 (some s52) (some s54) 1),co 6 d56 p103 [s50,s55],eo 7 none (.st s5 s56 8)]))
 (.reg [mo 0 d48 s6,qo 1 d49 (.bin .add s48 (vi 64)),mo 2 d6 s49]))))))
 (sr [eo 0 d7 (.alo (zz zB 32))]
 (.seq (sr [qo 0 d57 (.ldn s5 8),mo 1 d58 (vi 0)]
 (.blk 6 (.loop (sr [qo 0 d59 (.bin .lss s58 (vi 8))]
 (.seq (.cnd s59 .skip (.exit 6))
 (.seq (.blk 7 (sr [mo 0 d60 s58,qo 1 d61 (.idxa s57 s58 1 8 false),mo 2 d8 s60,mo 3 d9 s61]
 (sr [mo 0 d62 (vi 0)]
 (.blk 8 (.loop (sr [qo 0 d63 (.bin .lss s62 (vi 4))]
 (.seq (.cnd s63 .skip (.exit 8))
 (.seq (.blk 9 (sr [mo 0 d64 s62,mo 1 d10 s64]
 (.reg [mo 0 d65 s8,qo 1 d66 (.bin .mul (vi 4) s65),mo 2 d67 s10,qo 3 d68 (.bin .add s66 s67),mo 4 d69 s9,mo 5 d70 s10,qo 6 d71 (.bin .mul (vi 8) s70),qo 7 d72 (.bin .sub (vi 24) s71),qo 8 d73 (.shf false s69 s72),qo 9 d74 (.cvi .u8 s73),qo 10 d75 (.iada s7 s68 1 32),eo 11 none (.st s75 s74 1)])))
 (.reg [qo 0 d76 (.bin .add s62 (vi 1)),mo 1 d62 s76])))))))))
 (.reg [qo 0 d77 (.bin .add s58 (vi 1)),mo 1 d58 s77])))))))
 (sr [qo 0 d78 (.ldn s7 32),eo 1 none (.st s2 s78 32)]
 .ret)))))))))
 [.cn p2 32]
noncomputable def f60 : FnE := .code 32
 (sr [eo 0 d4 (.box s1 32),eo 1 d5 (.box s2 32),qo 2 d6 (.mv (.v .nils)),qo 3 d7 (.mv (.v .nils)),qo 4 d8 (.mv (.v (.bool false)))]
 (sr [mo 0 d13 s0,qo 1 d14 (.ldn s4 32),qo 2 d15 (.ldn s5 32),co 3 d16 p107 [s13,s14,s15],mo 4 d12 s16,qo 5 d17 (.ext s12 0),qo 6 d18 (.ext s12 1),eo 7 d9 (.alo (zz zB 32)),eo 8 none (.st s9 s17 32),mo 9 d10 s18]
 (.seq (sr [mo 0 d19 s10,qo 1 d20 (.not s19)]
 (.cnd s20 (sr [qo 0 d6 (.mv (.v .nils)),qo 1 d7 (.mv (.v .nils)),qo 2 d8 (.mv (.v (.bool false)))]
 .ret) .skip))
 (sr [mo 0 d21 s0,qo 1 d22 (.ldn s5 32),qo 2 d23 (.ldn s9 32),co 3 d24 p108 [s21,s22,s23],mo 4 d11 s24]
 (sr [mo 0 d25 s11,co 1 d26 p109 [s25]]
 (sr [mo 0 d27 s0,qo 1 d28 (.ldn s4 32),qo 2 d29 (.ldn s9 32),co 3 d30 p108 [s27,s28,s29],mo 4 d31 s11,mo 5 d6 s30,mo 6 d7 s31,qo 7 d8 (.mv (.v (.bool true)))]
 .ret))))))
 [.t p6,.t p7,.t p8]
noncomputable def f61 : FnE := .code 17
 (sr [eo 0 d3 (.box s1 32),mo 1 d4 (vw 0),qo 2 d5 (.mv (.v (.bool false)))]
 (sr [mo 0 d9 s0,qo 1 d10 (.ldn s3 32),co 2 d11 p110 [s9,s10],mo 3 d8 s11,qo 4 d12 (.ext s8 0),qo 5 d13 (.ext s8 1),mo 6 d6 s12,mo 7 d7 s13]
 (sr [mo 0 d14 s6,co 1 d15 p111 [s14],mo 2 d16 s7,mo 3 d4 s15,mo 4 d5 s16]
 .ret)))
 [.t p4,.t p5]
noncomputable def f62 : FnE := .code 32
 (sr [eo 0 d3 (.box s1 32),qo 1 d4 (.mv (.v .nils)),qo 2 d5 (.mv (.v (.bool false)))]
 (sr [mo 0 d11 s0,qo 1 d12 (.ldn s3 32),co 2 d13 p110 [s11,s12],mo 3 d10 s13,qo 4 d14 (.ext s10 0),qo 5 d15 (.ext s10 1),mo 6 d6 s14,mo 7 d7 s15]
 (sr [qo 0 d8 (.mv (.v .nils))]
 (.seq (sr [mo 0 d16 s6,qo 1 d17 (.lenv s16),mo 2 d18 (vi 0)]
 (.blk 0 (.loop (sr [qo 0 d19 (.bin .lss s18 s17)]
 (.seq (.cnd s19 .skip (.exit 0))
 (.seq (.blk 1 (sr [mo 0 d20 s18,mo 1 d9 s20]
 (.reg [mo 0 d21 s8,mo 1 d22 s6,mo 2 d23 s9,qo 3 d24 (.bin .add s23 (vi 1)),qo 4 d25 (.slc s22 none (some s24) 1),co 5 d26 p111 [s25],eo 6 d27 (.bsl [(.int .u32 (.ofNat 0))] [(0,1,s26)] 1 1),eo 7 d28 (.app s21 s27 1 4 false),mo 8 d8 s28])))
 (.reg [qo 0 d29 (.bin .add s18 (vi 1)),mo 1 d18 s29])))))))
 (sr [mo 0 d30 s8,mo 1 d31 s7,mo 2 d4 s30,mo 3 d5 s31]
 .ret)))))
 [.t p4,.t p5]
noncomputable def f63 : FnE := .code 25
 (sr [eo 0 d6 (.box s2 32),eo 1 d8 (.alo [(.int .u32 (.ofNat 0)),.nils,.nils,(.int .u32 (.ofNat 0))])]
 (sr [mo 0 d10 s0,qo 1 d11 (.cvi .u32 s10),co 2 d12 p105 [(.v .nils),s11],mo 3 d13 s3,eo 4 d14 (.bsl [.nils,.nils] [(0,1,s12),(1,1,s13)] 2 1),co 5 d15 p112 [s14],mo 6 d9 s15]
 (.seq (.rgd 2 [mo 1 d17 s9,mo 4 d20 s1,qo 5 d21 (.ldn s6 32),qo 6 d22 (.bld (lapp [(.int .u64 (.ofNat 0))] (zz zB 32)) [(0,1,s20),(1,32,s21)]),⟨0,d16,(.call p113 []),none,[(p21,.ldn s6 32,none)]⟩,qo 2 d18 (.bld (lapp (zz zB 32) [(.int .u32 (.ofNat 0)),.nils,(.int .u32 (.ofNat 0))]) [(0,33,s16),(33,1,s17),(34,1,(vw 4294967295))]),⟨3,d19,(.l (.bsl (lapp (zz zB 32) [(.int .u32 (.ofNat 0)),.nils,(.int .u32 (.ofNat 0))]) [(0,35,s18)] 1 35) 0),none,[(p21,.ldn s6 32,none)]⟩,o 7 d23 (.l (.bsl (lapp [(.int .u64 (.ofNat 0))] (zz zB 32)) [(0,33,s22)] 1 33) 1),qo 8 d24 (.bld [(.int .u32 (.ofNat 0)),.nils,.nils,(.int .u32 (.ofNat 0))] [(0,1,(vw 1)),(1,1,s19),(2,1,s23)]),eo 9 none (.st s8 s24 4)])
 .ret)))
 [.cn p8 4]
noncomputable def f64 : FnE := .code 5
 (sr [eo 0 d2 (.alo (zz zB 32))]
 (sr [mo 0 d3 s0,co 1 d4 p114 [s3],eo 2 none (.st s2 s4 32)]
 .ret))
 [.cn p2 32]
noncomputable def f65 : FnE := .code 6
 (sr [eo 0 d1 (.box s0 69),eo 1 d2 (.alo (zz zB 32))]
 (sr [qo 0 d3 (.ldn s1 69),co 1 d4 p116 [s3],co 2 d5 p115 [s4],eo 3 none (.st s2 s5 32)]
 .ret))
 [.cn p2 32]
noncomputable def f66 : FnE := .code 6
 (sr [eo 0 d1 (.box s0 68),eo 1 d2 (.alo (zz zB 32))]
 (sr [qo 0 d3 (.ldn s1 68),co 1 d4 p118 [s3],co 2 d5 p117 [s4],eo 3 none (.st s2 s5 32)]
 .ret))
 [.cn p2 32]
noncomputable def f67 : FnE := .code 15
 (sr [eo 0 d2 (.alo (zz zB 32))]
 (.seq (sr [mo 0 d3 s0,qo 1 d4 (.lenv s3),qo 2 d5 (.bin .eql s4 (vi 0))]
 (.cnd s5 (sr [qo 0 d6 (.bld (zz zB 32) []),eo 1 none (.st s2 s6 32)]
 .ret) .skip))
 (.seq (.blk 0 (.loop (.seq (sr [mo 0 d7 s0,qo 1 d8 (.lenv s7),qo 2 d9 (.bin .gtr s8 (vi 1))]
 (.cnd s9 .skip (.exit 0)))
 (.blk 1 (.reg [mo 0 d10 s0,co 1 d11 p119 [s10],mo 2 d0 s11])))))
 (sr [mo 0 d12 s0,qo 1 d13 (.iadr s12 (vi 0) 32),qo 2 d14 (.ldn s13 32),eo 3 none (.st s2 s14 32)]
 .ret))))
 [.cn p2 32]
noncomputable def f68 : FnE := .code 20
 (sr [qo 0 d2 (.mv (.v .nils))]
 (sr [qo 0 d3 (.mv (.v .nils))]
 (.seq (sr [mo 0 d4 (vi 0)]
 (.blk 0 (.loop (.seq (sr [mo 0 d5 s4,mo 1 d6 s0,qo 2 d7 (.lenv s6),qo 3 d8 (.bin .lss s5 s7)]
 (.cnd s8 .skip (.exit 0)))
 (.seq (.blk 1 (.reg [mo 0 d11 s3,mo 1 d12 s0,mo 2 d13 s4,qo 3 d14 (.iadr s12 s13 4),qo 4 d15 (.ldn s14 4),co 5 d16 p120 [s15],eo 6 d17 (.bsl (zz zB 32) [(0,32,s16)] 1 32),eo 7 d18 (.app s11 s17 32 32 false),mo 8 d3 s18]))
 (.reg [mo 0 d9 s4,qo 1 d10 (.bin .add s9 (vi 1)),mo 2 d4 s10]))))))
 (sr [mo 0 d19 s3,mo 1 d2 s19]
 .ret))))
 [.t p2]
noncomputable def f69 : FnE := .code 9
 (sr [qo 0 d4 (.mv (.v .nils))]
 (sr [mo 0 d5 s0,mo 1 d6 s1,qo 2 d7 (.cvi .u64 s6),co 3 d8 p93 [s5,s7,(vi 4)],mo 4 d4 s8]
 .ret))
 [.t p4]
noncomputable def f70 : FnE := .code 2
 (sr [eo 0 d0 (.alo (lapp (zz zB 32) [(.int .u32 (.ofNat 0))]))]
 (sr [qo 0 d1 (.bld (lapp (zz zB 32) [(.int .u32 (.ofNat 0))]) [(32,1,(vw 4294967295))]),eo 1 none (.st s0 s1 33)]
 .ret))
 [.cn p0 33]
noncomputable def f71 : FnE := .code 22
 (sr [qo 0 d2 (.mv (.v .nils))]
 (sr [mo 0 d5 s0,qo 1 d6 (.lenv s5),eo 2 d7 (.mks (vi 0) s6 [zB] 1 1),mo 3 d3 s7]
 (.seq (sr [mo 0 d4 (vi 0)]
 (.blk 0 (.loop (.seq (sr [mo 0 d8 s4,mo 1 d9 s0,qo 2 d10 (.lenv s9),qo 3 d11 (.bin .lss s8 s10)]
 (.cnd s11 .skip (.exit 0)))
 (.seq (.blk 1 (.reg [mo 0 d14 s3,mo 1 d15 s0,mo 2 d16 s4,qo 3 d17 (.iadr s15 s16 1),qo 4 d18 (.ld1 s17),eo 5 d19 (.bsl [zB] [(0,1,s18)] 1 1),eo 6 d20 (.app s14 s19 1 1 false),mo 7 d3 s20]))
 (.reg [mo 0 d12 s4,qo 1 d13 (.bin .add s12 (vi 1)),mo 2 d4 s13]))))))
 (sr [mo 0 d21 s3,mo 1 d2 s21]
 .ret))))
 [.t p2]
noncomputable def f72 : FnE := .code 2
 (sr [qo 0 d0 (.mv (.v .nils))]
 (sr [eo 0 d1 (.bsl (zz (.int .u32 (.ofNat 0)) 64) [(0,1,(vw 1116352408)),(1,1,(vw 1899447441)),(2,1,(vw 3049323471)),(3,1,(vw 3921009573)),(4,1,(vw 961987163)),(5,1,(vw 1508970993)),(6,1,(vw 2453635748)),(7,1,(vw 2870763221)),(8,1,(vw 3624381080)),(9,1,(vw 310598401)),(10,1,(vw 607225278)),(11,1,(vw 1426881987)),(12,1,(vw 1925078388)),(13,1,(vw 2162078206)),(14,1,(vw 2614888103)),(15,1,(vw 3248222580)),(16,1,(vw 3835390401)),(17,1,(vw 4022224774)),(18,1,(vw 264347078)),(19,1,(vw 604807628)),(20,1,(vw 770255983)),(21,1,(vw 1249150122)),(22,1,(vw 1555081692)),(23,1,(vw 1996064986)),(24,1,(vw 2554220882)),(25,1,(vw 2821834349)),(26,1,(vw 2952996808)),(27,1,(vw 3210313671)),(28,1,(vw 3336571891)),(29,1,(vw 3584528711)),(30,1,(vw 113926993)),(31,1,(vw 338241895)),(32,1,(vw 666307205)),(33,1,(vw 773529912)),(34,1,(vw 1294757372)),(35,1,(vw 1396182291)),(36,1,(vw 1695183700)),(37,1,(vw 1986661051)),(38,1,(vw 2177026350)),(39,1,(vw 2456956037)),(40,1,(vw 2730485921)),(41,1,(vw 2820302411)),(42,1,(vw 3259730800)),(43,1,(vw 3345764771)),(44,1,(vw 3516065817)),(45,1,(vw 3600352804)),(46,1,(vw 4094571909)),(47,1,(vw 275423344)),(48,1,(vw 430227734)),(49,1,(vw 506948616)),(50,1,(vw 659060556)),(51,1,(vw 883997877)),(52,1,(vw 958139571)),(53,1,(vw 1322822218)),(54,1,(vw 1537002063)),(55,1,(vw 1747873779)),(56,1,(vw 1955562222)),(57,1,(vw 2024104815)),(58,1,(vw 2227730452)),(59,1,(vw 2361852424)),(60,1,(vw 2428436474)),(61,1,(vw 2756734187)),(62,1,(vw 3204031479)),(63,1,(vw 3329325298))] 64 1),mo 1 d0 s1]
 .ret))
 [.t p0]
noncomputable def f73 : FnE := .code 13
 (sr [mo 0 d4 (vw 0)]
 (sr [mo 0 d5 s0,mo 1 d6 s1,qo 2 d7 (.shf false s5 s6),mo 3 d8 s0,mo 4 d9 s1,qo 5 d10 (.bin .sub (vl 32) s9),qo 6 d11 (.shf true s8 s10),qo 7 d12 (.bin .or s7 s11),mo 8 d4 s12]
 .ret))
 [.t p4]
noncomputable def f74 : FnE := .code 7
 (sr [qo 0 d2 (.mv (.v .nilp))]
 (sr [mo 0 d3 s0,co 1 d4 p104 [s3],qo 2 d5 (.bld [.nils,(.int .i64 (.ofNat 0)),.nili] [(0,1,s4)]),eo 3 d6 (.box s5 3),mo 4 d2 s6]
 .ret))
 [.t p2]
noncomputable def f75 : FnE := .code 27
 (sr [eo 0 d2 (.alo (lapp [(.int .u32 (.ofNat 0))] (lapp (zz zB 32) [zB,zB,zB,zB,zB,zB,zB,zB,zB,zB,zB,zB,zB,zB,zB,zB,zB,zB,zB,zB,zB,zB,zB,zB,zB,zB,zB,zB,zB,zB,zB,zB,(.int .u32 (.ofNat 0)),(.int .u32 (.ofNat 0)),(.int .u32 (.ofNat 0))])))]
 (sr [mo 0 d4 s0,co 1 d5 p121 [s4],qo 2 d6 (.bld (lapp [(.int .u32 (.ofNat 0))] (lapp (zz zB 32) [zB,zB,zB,zB,zB,zB,zB,zB,zB,zB,zB,zB,zB,zB,zB,zB,zB,zB,zB,zB,zB,zB,zB,zB,zB,zB,zB,zB,zB,zB,zB,zB,(.int .u32 (.ofNat 0)),(.int .u32 (.ofNat 0)),(.int .u32 (.ofNat 0))])) [(0,1,s5)]),eo 3 d3 (.alo (lapp [(.int .u32 (.ofNat 0))] (lapp (zz zB 32) [zB,zB,zB,zB,zB,zB,zB,zB,zB,zB,zB,zB,zB,zB,zB,zB,zB,zB,zB,zB,zB,zB,zB,zB,zB,zB,zB,zB,zB,zB,zB,zB,(.int .u32 (.ofNat 0)),(.int .u32 (.ofNat 0)),(.int .u32 (.ofNat 0))]))),eo 4 none (.st s3 s6 68)]
 (sr [mo 0 d7 s0,co 1 d8 p122 [s7],qo 2 d9 (.fadr s3 1),eo 3 none (.st s9 s8 32)]
 (sr [mo 0 d10 s0,co 1 d11 p122 [s10],qo 2 d12 (.fadr s3 33),eo 3 none (.st s12 s11 32)]
 (sr [mo 0 d13 s0,co 1 d14 p121 [s13],qo 2 d15 (.fadr s3 65),eo 3 none (.st s15 s14 1)]
 (sr [mo 0 d16 s0,co 1 d17 p121 [s16],qo 2 d18 (.fadr s3 66),eo 3 none (.st s18 s17 1)]
 (sr [mo 0 d19 s0,co 1 d20 p121 [s19],qo 2 d21 (.fadr s3 67),eo 3 none (.st s21 s20 1)]
 (.seq (sr [mo 0 d22 s0,co 1 d23 p78 [s22],qo 2 d24 (.eqp (.iface true) true s23 (.v .nili))]
 (.cnd s24 (sr [qo 0 d25 (.bld (lapp [(.int .u32 (.ofNat 0))] (lapp (zz zB 32) [zB,zB,zB,zB,zB,zB,zB,zB,zB,zB,zB,zB,zB,zB,zB,zB,zB,zB,zB,zB,zB,zB,zB,zB,zB,zB,zB,zB,zB,zB,zB,zB,(.int .u32 (.ofNat 0)),(.int .u32 (.ofNat 0)),(.int .u32 (.ofNat 0))])) []),eo 1 none (.st s2 s25 68)]
 .ret) .skip))
 (sr [qo 0 d26 (.ldn s3 68),eo 1 none (.st s2 s26 68)]
 .ret)))))))))
 [.cn p2 68]
noncomputable def f76 : FnE := .code 46
 (sr [mo 0 d4 (vl 0)]
 (sr [mo 0 d7 s0,co 1 d8 p123 [s7,(vi 1)],mo 2 d5 s8]
 (sr [mo 0 d6 (vi 0)]
 (.seq (sr [mo 0 d9 s5]
 (.blk 0 (sr [qo 0 d11 (.bin .eql s9 (vl 253)),mo 1 d10 s11]
 (.cnd s10 (.reg [mo 0 d6 (vi 2)]) (sr [qo 0 d13 (.bin .eql s9 (vl 254)),mo 1 d12 s13]
 (.cnd s12 (.reg [mo 0 d6 (vi 4)]) (sr [qo 0 d15 (.bin .eql s9 (vl 255)),mo 1 d14 s15]
 (.cnd s14 (.reg [mo 0 d6 (vi 8)]) .skip))))))))
 (.seq (sr [mo 0 d16 s6,qo 1 d17 (.bin .gtr s16 (vi 0))]
 (.cnd s17 (.reg [mo 0 d18 s0,mo 1 d19 s6,co 2 d20 p123 [s18,s19],mo 3 d5 s20]) .skip))
 (.seq (.blk 1 (sr [mo 0 d23 s0,qo 1 d24 (.nck s23),qo 2 d25 (.fadr s24 2),qo 3 d26 (.ld1 s25),qo 4 d27 (.eqp (.iface true) true s26 (.v .nili)),mo 5 d22 s27]
 (.cnd s22 .skip (sr [mo 0 d29 s5,co 1 d30 p124 [s29],mo 2 d31 s6,qo 3 d32 (.bin .add (vi 1) s31),qo 4 d33 (.bin .neq s30 s32),mo 5 d28 s33]
 (.cnd s28 (.reg [mo 0 d34 s0,qo 1 d35 (.ld1 (.g p2)),qo 2 d36 (.nck s34),qo 3 d37 (.fadr s36 2),eo 4 none (.st s37 s35 1)]) (sr [mo 0 d39 s5,mo 1 d40 s1,qo 2 d41 (.bin .gtr s39 s40),mo 3 d38 s41]
 (.cnd s38 (.reg [mo 0 d42 s0,qo 1 d43 (.ld1 (.g p3)),qo 2 d44 (.nck s42),qo 3 d45 (.fadr s44 2),eo 4 none (.st s45 s43 1)]) (sr [mo 0 d21 s5,mo 1 d4 s21]
 .ret))))))))
 (sr [mo 0 d4 (vl 0)]
 .ret)))))))
 [.t p4]
noncomputable def f77 : FnE := .code 62
 (sr [eo 0 d2 (.alo [(.int .u32 (.ofNat 0)),.nils,.nils,(.int .u32 (.ofNat 0))])]
 (sr [mo 0 d6 s0,co 1 d7 p121 [s6],qo 2 d8 (.bld [(.int .u32 (.ofNat 0)),.nils,.nils,(.int .u32 (.ofNat 0))] [(0,1,s7)]),eo 3 d3 (.alo [(.int .u32 (.ofNat 0)),.nils,.nils,(.int .u32 (.ofNat 0))]),eo 4 none (.st s3 s8 4)]
 (.seq (sr [mo 0 d9 s0,co 1 d10 p76 [s9,(vl 50)],mo 2 d11 (vl 0)]
 (.blk 0 (.loop (sr [qo 0 d12 (.bin .lss s11 s10)]
 (.seq (.cnd s12 .skip (.exit 0))
 (.seq (.blk 1 (sr [eo 0 d4 (.alo (lapp (zz zB 32) [(.int .u32 (.ofNat 0)),.nils,(.int .u32 (.ofNat 0))]))]
 (sr [mo 0 d13 s0,co 1 d14 p122 [s13],qo 2 d15 (.fadr s4 0),qo 3 d16 (.fadr s15 0),eo 4 none (.st s16 s14 32)]
 (sr [mo 0 d17 s0,co 1 d18 p121 [s17],qo 2 d19 (.fadr s4 0),qo 3 d20 (.fadr s19 32),eo 4 none (.st s20 s18 1)]
 (sr [mo 0 d21 s0,mo 1 d22 s0,co 2 d23 p76 [s22,(vl 80)],qo 3 d24 (.cvi .i64 s23),co 4 d25 p125 [s21,s24],qo 5 d26 (.fadr s4 33),eo 6 none (.st s26 s25 1)]
 (sr [mo 0 d27 s0,co 1 d28 p121 [s27],qo 2 d29 (.fadr s4 34),eo 3 none (.st s29 s28 1)]
 (.reg [qo 0 d30 (.fadr s3 1),qo 1 d31 (.ld1 s30),qo 2 d32 (.ldn s4 35),eo 3 d33 (.bsl (lapp (zz zB 32) [(.int .u32 (.ofNat 0)),.nils,(.int .u32 (.ofNat 0))]) [(0,35,s32)] 1 35),eo 4 d34 (.app s31 s33 35 72 false),qo 5 d35 (.fadr s3 1),eo 6 none (.st s35 s34 1)])))))))
 (.reg [qo 0 d36 (.bin .add s11 (vl 1)),mo 1 d11 s36])))))))
 (.seq (sr [mo 0 d37 s0,co 1 d38 p76 [s37,(vl 50)],mo 2 d39 (vl 0)]
 (.blk 2 (.loop (sr [qo 0 d40 (.bin .lss s39 s38)]
 (.seq (.cnd s40 .skip (.exit 2))
 (.seq (.blk 3 (sr [mo 0 d41 s0,co 1 d42 p126 [s41],qo 2 d43 (.bld (lapp [(.int .u64 (.ofNat 0))] (zz zB 32)) [(0,1,s42)]),eo 3 d5 (.alo (lapp [(.int .u64 (.ofNat 0))] (zz zB 32))),eo 4 none (.st s5 s43 33)]
 (sr [mo 0 d44 s0,co 1 d45 p122 [s44],qo 2 d46 (.fadr s5 1),eo 3 none (.st s46 s45 32)]
 (.reg [qo 0 d47 (.fadr s3 2),qo 1 d48 (.ld1 s47),qo 2 d49 (.ldn s5 33),eo 3 d50 (.bsl (lapp [(.int .u64 (.ofNat 0))] (zz zB 32)) [(0,33,s49)] 1 33),eo 4 d51 (.app s48 s50 33 40 false),qo 5 d52 (.fadr s3 2),eo 6 none (.st s52 s51 1)]))))
 (.reg [qo 0 d53 (.bin .add s39 (vl 1)),mo 1 d39 s53])))))))
 (sr [mo 0 d54 s0,co 1 d55 p121 [s54],qo 2 d56 (.fadr s3 3),eo 3 none (.st s56 s55 1)]
 (.seq (sr [mo 0 d57 s0,co 1 d58 p78 [s57],qo 2 d59 (.eqp (.iface true) true s58 (.v .nili))]
 (.cnd s59 (sr [qo 0 d60 (.bld [(.int .u32 (.ofNat 0)),.nils,.nils,(.int .u32 (.ofNat 0))] []),eo 1 none (.st s2 s60 4)]
 .ret) .skip))
 (sr [qo 0 d61 (.ldn s3 4),eo 1 none (.st s2 s61 4)]
 .ret)))))))
 [.cn p2 4]
noncomputable def f78 : FnE := .code 7
 (sr [qo 0 d2 (.mv (.v .nili))]
 (sr [mo 0 d3 s0,qo 1 d4 (.nck s3),qo 2 d5 (.fadr s4 2),qo 3 d6 (.ld1 s5),mo 4 d2 s6]
 .ret))
 [.t p2]
noncomputable def f79 : FnE := .code 13
 (sr [mo 0 d2 (vi 0)]
 (.seq (.rgd 0 [mo 0 d3 s0,qo 1 d4 (.nck s3),qo 2 d5 (.fadr s4 0),qo 3 d6 (.ld1 s5),qo 4 d7 (.lenv s6),mo 5 d8 s0,qo 6 d9 (.nck s8),qo 7 d10 (.fadr s9 1),qo 8 d11 (.ld1 s10),qo 9 d12 (.bin .sub s7 s11),mo 10 d2 s12])
 .ret))
 [.t p2]
noncomputable def f80 : FnE := .code 12
 (sr [eo 0 d1 (.box s0 68),qo 1 d2 (.mv (.v .nili))]
 (.seq (sr [qo 0 d3 (.fadr s1 66),qo 1 d4 (.ld1 s3),qo 2 d5 (.bin .eql s4 (vw 0)),mo 3 d6 s5,⟨4,d7,(.q (.fadr s1 66)),(some (p6,false)),[]⟩,⟨5,d8,(.q (.ld1 s7)),(some (p6,false)),[]⟩,⟨6,d9,(.q (.bin .gtr s8 (vw 16777216))),(some (p6,false)),[]⟩,qo 7 d10 (.pick s6 (.v (.bool true)) s9)]
 (.cnd s10 (sr [qo 0 d11 (.ld1 (.g p1)),mo 1 d2 s11]
 .ret) .skip))
 (sr [qo 0 d2 (.mv (.v .nili))]
 .ret)))
 [.t p2]
noncomputable def f81 : FnE := .code 6
 (sr [eo 0 d1 (.box s0 69),mo 1 d2 (vi 0)]
 (sr [qo 0 d3 (.ldn s1 69),co 1 d4 p127 [s3],qo 2 d5 (.lenv s4),mo 3 d2 s5]
 .ret))
 [.t p2]
noncomputable def f82 : FnE := .code 45
 (sr [eo 0 d1 (.box s0 69),qo 1 d2 (.mv (.v .nili))]
 (.seq (sr [qo 0 d8 (.fadr s1 68),qo 1 d9 (.ld1 s8),qo 2 d10 (.lenv s9),mo 3 d11 (vi 0)]
 (.blk 0 (.loop (sr [qo 0 d12 (.bin .lss s11 s10)]
 (.seq (.cnd s12 .skip (.exit 0))
 (.seq (.blk 1 (sr [mo 0 d13 s11,qo 1 d14 (.iadr s9 s11 4),qo 2 d15 (.ldn s14 4),eo 3 d4 (.alo [(.int .u32 (.ofNat 0)),.nils,.nils,(.int .u32 (.ofNat 0))]),mo 4 d3 s13,eo 5 none (.st s4 s15 4)]
 (sr [qo 0 d16 (.ldn s4 4),co 1 d17 p128 [s16],mo 2 d5 s17]
 (sr [mo 0 d18 s5,qo 1 d19 (.eqp (.iface true) true s18 (.v .nili))]
 (.cnd s19 (sr [mo 0 d20 s3,mo 1 d21 s5,qo 2 d22 (.bld [(.int .i64 (.ofNat 0)),.nili] [(0,1,s20),(1,1,s21)]),eo 3 d23 (.box s22 2),qo 4 d24 (.mki 201 s23),mo 5 d2 s24]
 .ret) .skip)))))
 (.reg [qo 0 d25 (.bin .add s11 (vi 1)),mo 1 d11 s25])))))))
 (.seq (sr [qo 0 d26 (.fadr s1 68),qo 1 d27 (.ld1 s26),qo 2 d28 (.lenv s27),mo 3 d29 (vi 0)]
 (.blk 2 (.loop (sr [qo 0 d30 (.bin .lss s29 s28)]
 (.seq (.cnd s30 .skip (.exit 2))
 (.seq (.blk 3 (sr [mo 0 d31 s29,qo 1 d32 (.iadr s27 s29 4),qo 2 d33 (.ldn s32 4),eo 3 d7 (.alo [(.int .u32 (.ofNat 0)),.nils,.nils,(.int .u32 (.ofNat 0))]),mo 4 d6 s31,eo 5 none (.st s7 s33 4)]
 (sr [qo 0 d34 (.ldn s7 4),co 1 d35 p129 [s34],mo 2 d36 s6,qo 3 d37 (.bin .eql s36 (vi 0)),qo 4 d38 (.cmpb true s35 s37)]
 (.cnd s38 (sr [mo 0 d39 s6,qo 1 d40 (.ld1 (.g p10)),qo 2 d41 (.bld [(.int .i64 (.ofNat 0)),.nili] [(0,1,s39),(1,1,s40)]),eo 3 d42 (.box s41 2),qo 4 d43 (.mki 201 s42),mo 5 d2 s43]
 .ret) .skip))))
 (.reg [qo 0 d44 (.bin .add s29 (vi 1)),mo 1 d29 s44])))))))
 (sr [qo 0 d2 (.mv (.v .nili))]
 .ret))))
 [.t p2]
noncomputable def f83 : FnE := .code 44
 (sr [eo 0 d1 (.box s0 69),qo 1 d2 (.mv (.v (.bool false)))]
 (sr [eo 0 d9 (.mkm (.cells (kk .u8 32))),eo 1 d10 (.mkm (.cells [.u8,.u8,.u8,.u8,.u8,.u8,.u8,.u8,.u8,.u8,.u8,.u8,.u8,.u8,.u8,.u8,.u8,.u8,.u8,.u8,.u8,.u8,.u8,.u8,.u8,.u8,.u8,.u8,.u8,.u8,.u8,.u8,.u32])),mo 2 d3 s9,mo 3 d4 s10]
 (.seq (sr [qo 0 d11 (.ldn s1 69),co 1 d12 p116 [s11],qo 2 d13 (.lenv s12),mo 3 d14 (vi 0)]
 (.blk 0 (.loop (sr [qo 0 d15 (.bin .lss s14 s13)]
 (.seq (.cnd s15 .skip (.exit 0))
 (.seq (.blk 1 (sr [mo 0 d16 s14,qo 1 d17 (.iadr s12 s14 32),qo 2 d18 (.ldn s17 32),eo 3 d6 (.alo (zz zB 32)),mo 4 d5 s16,eo 5 none (.st s6 s18 32)]
 (.seq (sr [mo 0 d19 s3,qo 1 d20 (.ldn s6 32),qo 2 d21 (.lkp s19 s20 (.cells (kk .u8 32)) (.bool false) false)]
 (.cnd s21 (sr [qo 0 d2 (.mv (.v (.bool true)))]
 .ret) .skip))
 (sr [mo 0 d22 s3,qo 1 d23 (.ldn s6 32),eo 2 none (.mup s22 s23 (.v (.bool true)) (.cells (kk .u8 32)))]
 (sr [qo 0 d24 (.fadr s1 68),qo 1 d25 (.ld1 s24),mo 2 d26 s5,qo 3 d27 (.iadr s25 s26 4),qo 4 d28 (.fadr s27 1),qo 5 d29 (.ld1 s28),qo 6 d30 (.lenv s29),mo 7 d31 (vi 0)]
 (.blk 2 (.loop (sr [qo 0 d32 (.bin .lss s31 s30)]
 (.seq (.cnd s32 .skip (.exit 2))
 (.seq (.blk 3 (sr [qo 0 d33 (.iadr s29 s31 35),qo 1 d34 (.ldn s33 35),eo 2 d8 (.alo (lapp (zz zB 32) [(.int .u32 (.ofNat 0)),.nils,(.int .u32 (.ofNat 0))])),eo 3 none (.st s8 s34 35)]
 (.seq (sr [mo 0 d35 s4,qo 1 d36 (.fadr s8 0),qo 2 d37 (.ldn s36 33),qo 3 d38 (.lkp s35 s37 (.cells [.u8,.u8,.u8,.u8,.u8,.u8,.u8,.u8,.u8,.u8,.u8,.u8,.u8,.u8,.u8,.u8,.u8,.u8,.u8,.u8,.u8,.u8,.u8,.u8,.u8,.u8,.u8,.u8,.u8,.u8,.u8,.u8,.u32]) (.bool false) false)]
 (.cnd s38 (sr [qo 0 d2 (.mv (.v (.bool true)))]
 .ret) .skip))
 (.reg [mo 0 d39 s4,qo 1 d40 (.fadr s8 0),qo 2 d41 (.ldn s40 33),eo 3 none (.mup s39 s41 (.v (.bool true)) (.cells [.u8,.u8,.u8,.u8,.u8,.u8,.u8,.u8,.u8,.u8,.u8,.u8,.u8,.u8,.u8,.u8,.u8,.u8,.u8,.u8,.u8,.u8,.u8,.u8,.u8,.u8,.u8,.u8,.u8,.u8,.u8,.u8,.u32]))]))))
 (.reg [qo 0 d42 (.bin .add s31 (vi 1)),mo 1 d31 s42])))))))))))
 (.reg [qo 0 d43 (.bin .add s14 (vi 1)),mo 1 d14 s43])))))))
 (sr [qo 0 d2 (.mv (.v (.bool false)))]
 .ret))))
 [.t p2]
noncomputable def f84 : FnE := .code 23
 (sr [eo 0 d3 (.box s1 32),eo 1 d4 (.alo (lapp [(.int .u32 (.ofNat 0))] (lapp (zz zB 32) [zB,zB,zB,zB,zB,zB,zB,zB,zB,zB,zB,zB,zB,zB,zB,zB,zB,zB,zB,zB,zB,zB,zB,zB,zB,zB,zB,zB,zB,zB,zB,zB,(.int .u32 (.ofNat 0)),(.int .u32 (.ofNat 0)),(.int .u32 (.ofNat 0))]))),qo 2 d5 (.mv (.v (.bool false)))]
 (.seq (.seq (.rgd 0 [mo 0 d9 s0,qo 1 d10 (.nck s9),qo 2 d11 (.fadr s10 0),qo 3 d12 (.ld1 s11),qo 4 d13 (.ldn s3 32),qo 5 d14 (.lkp s12 s13 (.cells (kk .u8 32)) .nilp true),mo 6 d8 s14,qo 7 d15 (.ext s8 0),qo 8 d16 (.ext s8 1),mo 9 d6 s15,mo 10 d7 s16])
 (sr [mo 0 d17 s7]
 (.cnd s17 (sr [mo 0 d18 s6,qo 1 d19 (.nck s18),qo 2 d20 (.fadr s19 0),qo 3 d21 (.ldn s20 68),eo 4 none (.st s4 s21 68),qo 5 d5 (.mv (.v (.bool true)))]
 .ret) .skip)))
 (sr [qo 0 d22 (.bld (lapp [(.int .u32 (.ofNat 0))] (lapp (zz zB 32) [zB,zB,zB,zB,zB,zB,zB,zB,zB,zB,zB,zB,zB,zB,zB,zB,zB,zB,zB,zB,zB,zB,zB,zB,zB,zB,zB,zB,zB,zB,zB,zB,(.int .u32 (.ofNat 0)),(.int .u32 (.ofNat 0)),(.int .u32 (.ofNat 0))])) []),eo 1 none (.st s4 s22 68),qo 2 d5 (.mv (.v (.bool false)))]
 .ret)))
 [.cn p4 68,.t p5]
noncomputable def f85 : FnE := .code 76
 (sr [eo 0 d3 (.box s1 68),qo 1 d4 (.mv (.v .nili))]
 (sr [qo 0 d10 (.ldn s3 68),co 1 d11 p66 [s10],eo 2 d5 (.alo (zz zB 32)),eo 3 none (.st s5 s11 32)]
 (.seq (.seq (.rgd 0 [mo 0 d13 s0,qo 1 d14 (.nck s13),qo 2 d15 (.fadr s14 0),qo 3 d16 (.ld1 s15),qo 4 d17 (.ldn s5 32),qo 5 d18 (.lkp s16 s17 (.cells (kk .u8 32)) .nilp true),mo 6 d12 s18,qo 7 d19 (.ext s12 0),qo 8 d20 (.ext s12 1),mo 9 d6 s19,mo 10 d7 s20])
 (sr [mo 0 d21 s7]
 (.cnd s21 (sr [qo 0 d22 (.ld1 (.g p7)),mo 1 d4 s22]
 .ret) .skip)))
 (.seq (.rgd 0 [mo 0 d24 s0,qo 1 d25 (.nck s24),qo 2 d26 (.fadr s25 0),qo 3 d27 (.ld1 s26),qo 4 d28 (.fadr s3 1),qo 5 d29 (.ldn s28 32),qo 6 d30 (.lkp s27 s29 (.cells (kk .u8 32)) .nilp true),mo 7 d23 s30,qo 8 d31 (.ext s23 0),qo 9 d32 (.ext s23 1),mo 10 d8 s31,mo 11 d9 s32])
 (.seq (.blk 0 (sr [mo 0 d34 s9,qo 1 d35 (.not s34),mo 2 d33 s35]
 (.cnd s33 (sr [qo 0 d36 (.ld1 (.g p8)),mo 1 d4 s36]
 .ret) (sr [mo 0 d38 s0,qo 1 d39 (.nck s38),qo 2 d40 (.fadr s39 0),qo 3 d41 (.ld1 s40),qo 4 d42 (.lenm s41),qo 5 d43 (.bin .geq s42 (vi 4096)),mo 6 d37 s43]
 (.cnd s37 (sr [qo 0 d44 (.ld1 (.g p11)),mo 1 d4 s44]
 .ret) .skip)))))
 (.seq (.rgd 0 [mo 0 d45 s0,qo 1 d46 (.nck s45),qo 2 d47 (.fadr s46 0),qo 3 d48 (.ld1 s47),qo 4 d49 (.ldn s5 32),qo 5 d50 (.ldn s3 68),mo 6 d51 s8,qo 7 d52 (.nck s51),qo 8 d53 (.fadr s52 68),qo 9 d54 (.ld1 s53),qo 10 d55 (.bin .add s54 (vi 1)),mo 11 d56 s8,qo 12 d57 (.nck s56),qo 13 d58 (.fadr s57 69),qo 14 d59 (.ld1 s58),qo 15 d60 (.fadr s3 66),qo 16 d61 (.ld1 s60),qo 17 d62 (.cvi .u64 s61),qo 18 d63 (.bin .add s59 s62),qo 19 d64 (.bld (lapp [(.int .u32 (.ofNat 0))] (lapp (zz zB 32) [zB,zB,zB,zB,zB,zB,zB,zB,zB,zB,zB,zB,zB,zB,zB,zB,zB,zB,zB,zB,zB,zB,zB,zB,zB,zB,zB,zB,zB,zB,zB,zB,(.int .u32 (.ofNat 0)),(.int .u32 (.ofNat 0)),(.int .u32 (.ofNat 0)),(.int .i64 (.ofNat 0)),(.int .u64 (.ofNat 0)),.nils])) [(0,68,s50),(68,1,s55),(69,1,s63)]),⟨20,d65,(.e (.box s64 71)),none,[(p48,.ld1 s47,none),(p49,.ldn s5 32,none)]⟩,eo 21 none (.mup s48 s49 s65 (.cells (kk .u8 32)))])
 (.seq (.rgd 0 [mo 0 d66 s8,mo 1 d67 s8,qo 2 d68 (.nck s67),qo 3 d69 (.fadr s68 70),qo 4 d70 (.ld1 s69),qo 5 d71 (.ldn s5 32),⟨6,d72,(.e (.bsl (zz zB 32) [(0,32,s71)] 1 32)),none,[(p70,.ld1 s69,none)]⟩,eo 7 d73 (.app s70 s72 32 32 false),qo 8 d74 (.nck s66),qo 9 d75 (.fadr s74 70),eo 10 none (.st s75 s73 1)])
 (sr [qo 0 d4 (.mv (.v .nili))]
 .ret))))))))
 [.t p4]
noncomputable def f86 : FnE := .code 60
 (sr [eo 0 d1 (.box s0 1),qo 1 d2 (.mv (.v .nils)),qo 2 d3 (.mv (.v .nils))]
 (sr [eo 0 d11 (.mkm (.cells (kk .u8 32))),eo 1 d4 (.alo [.nilm]),eo 2 none (.st s4 s11 1)]
 (.seq (sr [qo 0 d12 (.ld1 s1),qo 1 d13 (.nck s12),qo 2 d14 (.fadr s13 1),qo 3 d15 (.ld1 s14),co 4 d16 p130 [s15]]
 (.blk 0 .bad))
 (sr [qo 0 d8 (.mv (.v .nils))]
 (.seq (.seq (.rgd 0 [qo 0 d32 (.ld1 s1),qo 1 d33 (.nck s32),qo 2 d34 (.fadr s33 0),qo 3 d35 (.ld1 s34),qo 4 d36 (.ld1 s1),qo 5 d37 (.nck s36),qo 6 d38 (.fadr s37 0),qo 7 d39 (.ld1 s38),mo 11 d43 (vi 0),⟨8,d40,(.call p32 [s39]),none,[(p32,.ld1 s1,none),(p35,.ld1 s34,none)]⟩,co 9 d41 p131 [s35,s40],qo 10 d42 (.lenv s41)])
 (.blk 4 (.loop (sr [qo 0 d44 (.bin .lss s43 s42)]
 (.seq (.cnd s44 .skip (.exit 4))
 (.seq (.blk 5 (sr [qo 0 d45 (.iadr s41 s43 32),qo 1 d46 (.ldn s45 32),eo 2 d10 (.alo (zz zB 32)),eo 3 none (.st s10 s46 32)]
 (sr [qo 0 d47 (.ld1 s4),qo 1 d48 (.ldn s10 32),qo 2 d49 (.lkp s47 s48 (.cells (kk .u8 32)) (.bool false) false),qo 3 d50 (.not s49)]
 (.cnd s50 (.reg [mo 0 d51 s8,qo 1 d52 (.ldn s10 32),eo 2 d53 (.bsl (zz zB 32) [(0,32,s52)] 1 32),eo 3 d54 (.app s51 s53 32 32 false),mo 4 d8 s54]) .skip))))
 (.reg [qo 0 d55 (.bin .add s43 (vi 1)),mo 1 d43 s55])))))))
 (sr [qo 0 d56 (.ld1 s4),co 1 d57 p130 [s56],co 2 d58 p132 [s57,(.f 133)],mo 3 d59 s8,mo 4 d2 s58,mo 5 d3 s59]
 .ret))))))
 [.t p2,.t p3]
noncomputable def f87 : FnE := .code 46
 (sr [eo 0 d4 (.box s1 32),eo 1 d5 (.box s2 32),qo 2 d6 (.mv (.v (.bool false)))]
 (.seq (.rgd 0 [mo 0 d12 s0,qo 1 d13 (.nck s12),qo 2 d14 (.fadr s13 0),qo 3 d15 (.ld1 s14),qo 4 d16 (.ldn s4 32),co 5 d17 p134 [s15,s16],mo 6 d11 s17,qo 7 d18 (.ext s11 0),qo 8 d19 (.ext s11 1),mo 9 d7 s18,mo 10 d8 s19])
 (.seq (.rgd 0 [mo 0 d21 s0,qo 1 d22 (.nck s21),qo 2 d23 (.fadr s22 0),qo 3 d24 (.ld1 s23),qo 4 d25 (.ldn s5 32),co 5 d26 p134 [s24,s25],mo 6 d20 s26,qo 7 d27 (.ext s20 0),qo 8 d28 (.ext s20 1),mo 9 d9 s27,mo 10 d10 s28])
 (.seq (.blk 0 (sr [mo 0 d30 s8,qo 1 d31 (.not s30),mo 2 d32 s31,⟨3,d33,(.q (.mv s10)),(some (p32,false)),[]⟩,⟨4,d34,(.q (.not s33)),(some (p32,false)),[]⟩,qo 5 d35 (.pick s32 (.v (.bool true)) s34),mo 6 d29 s35]
 (.cnd s29 (sr [qo 0 d6 (.mv (.v (.bool false)))]
 .ret) (sr [mo 0 d37 s7,mo 1 d38 s9,qo 2 d39 (.bin .neq s37 s38),mo 3 d36 s39]
 (.cnd s36 (sr [mo 0 d40 s7,mo 1 d41 s9,qo 2 d42 (.bin .gtr s40 s41),mo 3 d6 s42]
 .ret) .skip)))))
 (sr [qo 0 d43 (.ldn s4 32),qo 1 d44 (.ldn s5 32),co 2 d45 p135 [s43,s44],mo 3 d6 s45]
 .ret)))))
 [.t p6]
noncomputable def f88 : FnE := .code 17
 (sr [mo 0 d4 s0,o 1 d5 (.inv s4 "Len" []),mo 2 d2 s5]
 (sr [mo 0 d6 s2,qo 1 d7 (.bin .quo s6 (vi 2)),qo 2 d8 (.bin .sub s7 (vi 1)),mo 3 d3 s8]
 (.blk 0 (.loop (.seq (sr [mo 0 d9 s3,qo 1 d10 (.bin .geq s9 (vi 0))]
 (.cnd s10 .skip (.exit 0)))
 (.seq (.blk 1 (.reg [mo 0 d13 s0,mo 1 d14 s3,mo 2 d15 s2,co 3 d16 p136 [s13,s14,s15]]))
 (.reg [mo 0 d11 s3,qo 1 d12 (.bin .sub s11 (vi 1)),mo 2 d3 s12])))))))
 []
noncomputable def f89 : FnE := .code 12
 (sr [eo 0 d4 (.box s1 69),qo 1 d6 (.mv (.v .nili))]
 (sr [mo 0 d7 s0,mo 1 d8 s2,qo 2 d9 (.fadr s4 68),qo 3 d10 (.ld1 s9),co 4 d11 p137 [s7,s8,s10],mo 5 d6 s11]
 .ret))
 [.t p6]
noncomputable def f90 : FnE := .code 64
 (sr [eo 0 d3 (.box s1 32),qo 1 d4 (.mv (.v .nili))]
 (.seq (.rgd 0 [mo 0 d13 s0,qo 1 d14 (.nck s13),qo 2 d15 (.fadr s14 11),qo 3 d16 (.ld1 s15),qo 4 d17 (.ldn s3 32),qo 5 d18 (.lkp s16 s17 (.cells (kk .u8 32)) (.agg (lapp [(.int .u32 (.ofNat 0))] (lapp (zz zB 32) [zB,zB,zB,zB,zB,zB,zB,zB,zB,zB,zB,zB,zB,zB,zB,zB,zB,zB,zB,zB,zB,zB,zB,zB,zB,zB,zB,zB,zB,zB,zB,zB,(.int .u32 (.ofNat 0)),(.int .u32 (.ofNat 0)),(.int .u32 (.ofNat 0)),.nils]))) false),⟨6,d5,(.e (.alo (lapp [(.int .u32 (.ofNat 0))] (lapp (zz zB 32) [zB,zB,zB,zB,zB,zB,zB,zB,zB,zB,zB,zB,zB,zB,zB,zB,zB,zB,zB,zB,zB,zB,zB,zB,zB,zB,zB,zB,zB,zB,zB,zB,(.int .u32 (.ofNat 0)),(.int .u32 (.ofNat 0)),(.int .u32 (.ofNat 0)),.nils])))),none,[(p16,.ld1 s15,none),(p17,.ldn s3 32,none),(p18,.lkp s16 s17 (.cells (kk .u8 32)) (.agg (lapp [(.int .u32 (.ofNat 0))] (lapp (zz zB 32) [zB,zB,zB,zB,zB,zB,zB,zB,zB,zB,zB,zB,zB,zB,zB,zB,zB,zB,zB,zB,zB,zB,zB,zB,zB,zB,zB,zB,zB,zB,zB,zB,(.int .u32 (.ofNat 0)),(.int .u32 (.ofNat 0)),(.int .u32 (.ofNat 0)),.nils]))) false,none)]⟩,eo 7 none (.st s5 s18 69)])
 (.seq (.rgd 0 [mo 0 d20 s0,qo 1 d21 (.nck s20),qo 2 d22 (.fadr s21 9),qo 3 d23 (.ld1 s22),qo 4 d24 (.ldn s3 32),co 5 d25 p52 [s23,s24],mo 6 d19 s25,qo 7 d26 (.ext s19 0),qo 8 d27 (.ext s19 1),mo 9 d6 s26,mo 10 d7 s27])
 (.seq (.rgd 0 [mo 0 d29 s0,qo 1 d30 (.nck s29),qo 2 d31 (.fadr s30 9),qo 3 d32 (.ld1 s31),qo 4 d33 (.fadr s5 0),qo 5 d34 (.fadr s33 1),qo 6 d35 (.ldn s34 32),co 7 d36 p62 [s32,s35],mo 8 d28 s36,qo 9 d37 (.ext s28 0),qo 10 d38 (.ext s28 1),mo 11 d8 s37,mo 12 d9 s38])
 (.seq (.rgd 0 [mo 0 d40 s0,qo 1 d41 (.nck s40),qo 2 d42 (.fadr s41 13),qo 3 d43 (.ld1 s42),qo 4 d44 (.ldn s5 69),mo 5 d45 s6,mo 6 d46 s8,mo 7 d47 s0,qo 8 d48 (.nck s47),qo 9 d49 (.fadr s48 0),qo 10 d50 (.ldn s49 9),co 11 d51 p138 [s43,s44,s45,s46,s50],mo 12 d39 s51,qo 13 d52 (.ext s39 0),qo 14 d53 (.ext s39 1),qo 15 d54 (.ext s39 2),mo 16 d10 s52,mo 17 d11 s53,mo 18 d12 s54])
 (.seq (sr [mo 0 d55 s12,qo 1 d56 (.eqp (.iface true) false s55 (.v .nili))]
 (.cnd s56 (.rgd 0 [mo 0 d57 s0,qo 1 d58 (.nck s57),qo 2 d59 (.fadr s58 12),qo 3 d60 (.ld1 s59),qo 4 d61 (.ldn s3 32),mo 5 d62 s10,eo 6 none (.mup s60 s61 s62 (.cells (kk .u8 32)))]) .skip))
 (sr [mo 0 d63 s12,mo 1 d4 s63]
 .ret)))))))
 [.t p4]
noncomputable def f91 : FnE := .code 26
 (sr [qo 0 d4 (.mv (.v .nils))]
 (sr [qo 0 d5 (.mv (.v .nils))]
 (.seq (sr [mo 0 d8 s1,qo 1 d9 (.lenv s8),mo 2 d10 (vi 0)]
 (.blk 0 (.loop (sr [qo 0 d11 (.bin .lss s10 s9)]
 (.seq (.cnd s11 .skip (.exit 0))
 (.seq (.blk 1 (sr [qo 0 d12 (.iadr s8 s10 32),qo 1 d13 (.ldn s12 32),eo 2 d7 (.alo (zz zB 32)),eo 3 none (.st s7 s13 32)]
 (.rgd 0 [mo 0 d14 s5,mo 1 d15 s0,qo 2 d16 (.nck s15),qo 3 d17 (.fadr s16 11),qo 4 d18 (.ld1 s17),qo 5 d19 (.ldn s7 32),qo 6 d20 (.lkp s18 s19 (.cells (kk .u8 32)) (.agg (lapp [(.int .u32 (.ofNat 0))] (lapp (zz zB 32) [zB,zB,zB,zB,zB,zB,zB,zB,zB,zB,zB,zB,zB,zB,zB,zB,zB,zB,zB,zB,zB,zB,zB,zB,zB,zB,zB,zB,zB,zB,zB,zB,(.int .u32 (.ofNat 0)),(.int .u32 (.ofNat 0)),(.int .u32 (.ofNat 0)),.nils]))) false),co 7 d21 p139 [s20],eo 8 d22 (.bsl (lapp [(.int .u32 (.ofNat 0))] (lapp (zz zB 32) [zB,zB,zB,zB,zB,zB,zB,zB,zB,zB,zB,zB,zB,zB,zB,zB,zB,zB,zB,zB,zB,zB,zB,zB,zB,zB,zB,zB,zB,zB,zB,zB,(.int .u32 (.ofNat 0)),(.int .u32 (.ofNat 0)),(.int .u32 (.ofNat 0)),.nils])) [(0,69,s21)] 1 69),eo 9 d23 (.app s14 s22 69 104 false),mo 10 d5 s23])))
 (.reg [qo 0 d24 (.bin .add s10 (vi 1)),mo 1 d10 s24])))))))
 (sr [mo 0 d25 s5,mo 1 d4 s25]
 .ret))))
 [.t p4]
noncomputable def f92 : FnE := .code 12
 (sr [mo 0 d2 (vi 0)]
 (.seq (.blk 0 (sr [mo 0 d4 s0,qo 1 d5 (.bin .lss s4 (vl 253)),mo 2 d3 s5]
 (.cnd s3 (sr [mo 0 d2 (vi 1)]
 .ret) (sr [mo 0 d7 s0,qo 1 d8 (.bin .lss s7 (vl 65536)),mo 2 d6 s8]
 (.cnd s6 (sr [mo 0 d2 (vi 3)]
 .ret) (sr [mo 0 d10 s0,qo 1 d11 (.bin .lss s10 (vl 4294967296)),mo 2 d9 s11]
 (.cnd s9 (sr [mo 0 d2 (vi 5)]
 .ret) .skip)))))))
 (sr [mo 0 d2 (vi 9)]
 .ret)))
 [.t p2]
noncomputable def f93 : FnE := .code 23
 (sr [qo 0 d6 (.mv (.v .nils))]
 (.seq (sr [mo 0 d7 (vi 0)]
 (.blk 0 (.loop (.seq (sr [mo 0 d8 s7,mo 1 d9 s2,qo 2 d10 (.bin .lss s8 s9)]
 (.cnd s10 .skip (.exit 0)))
 (.seq (.blk 1 (.reg [mo 0 d13 s0,mo 1 d14 s1,mo 2 d15 s7,qo 3 d16 (.bin .mul (vi 8) s15),qo 4 d17 (.cvi .u64 s16),qo 5 d18 (.shf false s14 s17),qo 6 d19 (.cvi .u8 s18),eo 7 d20 (.bsl [zB] [(0,1,s19)] 1 1),eo 8 d21 (.app s13 s20 1 1 false),mo 9 d0 s21]))
 (.reg [mo 0 d11 s7,qo 1 d12 (.bin .add s11 (vi 1)),mo 2 d7 s12]))))))
 (sr [mo 0 d22 s0,mo 1 d6 s22]
 .ret)))
 [.t p6]
noncomputable def f94 : FnE := .code 8
 (sr [qo 0 d4 (.mv (.v .nils))]
 (sr [mo 0 d5 s0,mo 1 d6 s1,co 2 d7 p93 [s5,s6,(vi 8)],mo 3 d4 s7]
 .ret))
 [.t p4]
noncomputable def f95 : FnE := .code 38
 (sr [eo 0 d2 (.box s0 5),eo 1 d3 (.box s1 5),qo 2 d4 (.mv (.v (.bool false)))]
 (sr [qo 0 d5 (.fadr s2 0),qo 1 d6 (.ld1 s5),qo 2 d7 (.fadr s3 0),qo 3 d8 (.ld1 s7),qo 4 d9 (.bin .eql s6 s8),mo 5 d10 s9,⟨6,d11,(.q (.fadr s2 1)),(some (p10,true)),[]⟩,⟨7,d12,(.q (.ld1 s11)),(some (p10,true)),[]⟩,⟨8,d13,(.q (.fadr s3 1)),(some (p10,true)),[]⟩,⟨9,d14,(.q (.ld1 s13)),(some (p10,true)),[]⟩,⟨10,d15,(.q (.cmpb false s12 s14)),(some (p10,true)),[]⟩,qo 11 d16 (.pick s10 s15 (.v (.bool false))),mo 12 d17 s16,⟨13,d18,(.q (.fadr s2 2)),(some (p17,true)),[]⟩,⟨14,d19,(.q (.ld1 s18)),(some (p17,true)),[]⟩,⟨15,d20,(.q (.fadr s3 2)),(some (p17,true)),[]⟩,⟨16,d21,(.q (.ld1 s20)),(some (p17,true)),[]⟩,⟨17,d22,(.q (.bin .eql s19 s21)),(some (p17,true)),[]⟩,qo 18 d23 (.pick s17 s22 (.v (.bool false))),mo 19 d24 s23,⟨20,d25,(.q (.fadr s2 3)),(some (p24,true)),[]⟩,⟨21,d26,(.q (.ld1 s25)),(some (p24,true)),[]⟩,⟨22,d27,(.q (.fadr s3 3)),(some (p24,true)),[]⟩,⟨23,d28,(.q (.ld1 s27)),(some (p24,true)),[]⟩,⟨24,d29,(.q (.cmpb false s26 s28)),(some (p24,true)),[]⟩,qo 25 d30 (.pick s24 s29 (.v (.bool false))),mo 26 d31 s30,⟨27,d32,(.q (.fadr s2 4)),(some (p31,true)),[]⟩,⟨28,d33,(.q (.ld1 s32)),(some (p31,true)),[]⟩,⟨29,d34,(.q (.fadr s3 4)),(some (p31,true)),[]⟩,⟨30,d35,(.q (.ld1 s34)),(some (p31,true)),[]⟩,⟨31,d36,(.q (.bin .eql s33 s35)),(some (p31,true)),[]⟩,qo 32 d37 (.pick s31 s36 (.v (.bool false))),mo 33 d4 s37]
 .ret))
 [.t p4]
noncomputable def f96 : FnE := .code 75
 (sr [eo 0 d2 (.alo [(.int .i64 (.ofNat 0)),(.bool false),(.int .i64 (.ofNat 0)),(.bool false),(.int .i64 (.ofNat 0))])]
 (.seq (sr [mo 0 d7 s0,qo 1 d8 (.eqp (.iface true) false s7 (.v .nili))]
 (.cnd s8 (sr [co 0 d9 p140 [],eo 1 none (.st s2 s9 5)]
 .ret) .skip))
 (sr [mo 0 d11 s0,qo 1 d12 (.tas s11 201 .nilp true),mo 2 d10 s12,qo 3 d13 (.ext s10 0),qo 4 d14 (.ext s10 1),mo 5 d3 s13,mo 6 d4 s14]
 (.seq (sr [mo 0 d15 s4,qo 1 d16 (.not s15)]
 (.cnd s16 (sr [mo 0 d17 s0,co 1 d18 p141 [s17],co 2 d19 p51 [s18],eo 3 none (.st s2 s19 5)]
 .ret) .skip))
 (.seq (sr [mo 0 d20 s3,qo 1 d21 (.eqp .ptr false s20 (.v .nilp)),mo 2 d22 s21,⟨3,d23,(.q (.mv s3)),(some (p22,false)),[]⟩,⟨4,d24,(.q (.nck s23)),(some (p22,false)),[]⟩,⟨5,d25,(.q (.fadr s24 1)),(some (p22,false)),[]⟩,⟨6,d26,(.q (.ld1 s25)),(some (p22,false)),[]⟩,⟨7,d27,(.q (.eqp (.iface true) false s26 (.v .nili))),(some (p22,false)),[]⟩,qo 8 d28 (.pick s22 (.v (.bool true)) s27)]
 (.cnd s28 (sr [co 0 d29 p51 [(.v (.int .i64 (.negSucc 0)))],eo 1 none (.st s2 s29 5)]
 .ret) .skip))
 (sr [mo 0 d31 s3,qo 1 d32 (.nck s31),qo 2 d33 (.fadr s32 1),qo 3 d34 (.ld1 s33),qo 4 d35 (.tas s34 201 .nilp true),mo 5 d30 s35,qo 6 d36 (.ext s30 0),qo 7 d37 (.ext s30 1),mo 8 d5 s36,mo 9 d6 s37]
 (.seq (sr [mo 0 d38 s6,qo 1 d39 (.not s38)]
 (.cnd s39 (.seq (.rgd 0 [mo 0 d40 s3,qo 1 d41 (.nck s40),qo 2 d42 (.fadr s41 1),qo 3 d43 (.ld1 s42),mo 5 d45 s3,qo 6 d46 (.nck s45),qo 7 d47 (.fadr s46 0),qo 8 d48 (.ld1 s47),⟨4,d44,(.call p141 [s43]),none,[(p48,.ld1 s47,none)]⟩,co 9 d49 p142 [s44,s48],eo 10 none (.st s2 s49 5)])
 .ret) .skip))
 (.seq (sr [mo 0 d50 s5,qo 1 d51 (.eqp .ptr false s50 (.v .nilp)),mo 2 d52 s51,⟨3,d53,(.q (.mv s5)),(some (p52,false)),[]⟩,⟨4,d54,(.q (.nck s53)),(some (p52,false)),[]⟩,⟨5,d55,(.q (.fadr s54 1)),(some (p52,false)),[]⟩,⟨6,d56,(.q (.ld1 s55)),(some (p52,false)),[]⟩,⟨7,d57,(.q (.eqp (.iface true) false s56 (.v .nili))),(some (p52,false)),[]⟩,qo 8 d58 (.pick s52 (.v (.bool true)) s57)]
 (.cnd s58 (sr [co 0 d59 p51 [(.v (.int .i64 (.negSucc 0)))],eo 1 none (.st s2 s59 5)]
 .ret) .skip))
 (.seq (.rgd 0 [mo 0 d60 s5,qo 1 d61 (.nck s60),qo 2 d62 (.fadr s61 1),qo 3 d63 (.ld1 s62),mo 5 d65 s5,qo 6 d66 (.nck s65),qo 7 d67 (.fadr s66 0),qo 8 d68 (.ld1 s67),mo 10 d70 s3,qo 11 d71 (.nck s70),qo 12 d72 (.fadr s71 0),qo 13 d73 (.ld1 s72),⟨4,d64,(.call p141 [s63]),none,[(p68,.ld1 s67,none),(p73,.ld1 s72,none)]⟩,⟨9,d69,(.call p142 [s64,s68]),none,[(p73,.ld1 s72,none)]⟩,co 14 d74 p143 [s69,s73],eo 15 none (.st s2 s74 5)])
 .ret)))))))))
 [.cn p2 5]
noncomputable def f98 : FnE := .code 9
 (sr [qo 0 d2 (.mv (.v .nilm))]
 (.seq (sr [mo 0 d3 s0,qo 1 d4 (.eqp .map false s3 (.v .nilm))]
 (.cnd s4 (sr [qo 0 d2 (.mv (.v .nilm))]
 .ret) .skip))
 (sr [mo 0 d5 s0,qo 1 d6 (.mki 75 s5),co 2 d7 p146 [s6],qo 3 d8 (.tas s7 75 .nilm false),mo 4 d2 s8]
 .ret)))
 [.t p2]
noncomputable def f102 : FnE := .code 13
 (sr [eo 0 d2 (.alo (zz (.int .u32 (.ofNat 0)) 8))]
 (.seq (sr [mo 0 d3 s0,qo 1 d4 (.nck s3),qo 2 d5 (.fadr s4 9),qo 3 d6 (.ld1 s5),qo 4 d7 (.bin .lss s6 (vi 64))]
 (.cnd s7 (sr [co 0 d8 p150 [],eo 1 none (.st s2 s8 8)]
 .ret) .skip))
 (sr [mo 0 d9 s0,qo 1 d10 (.nck s9),qo 2 d11 (.fadr s10 0),qo 3 d12 (.ldn s11 8),eo 4 none (.st s2 s12 8)]
 .ret)))
 [.cn p2 8]
noncomputable def f103 : FnE := .code 111
 (sr [eo 0 d2 (.box s0 8),eo 1 d4 (.alo (zz (.int .u32 (.ofNat 0)) 8))]
 (sr [mo 0 d14 s1,co 1 d15 p151 [s14],co 2 d16 p152 [],eo 3 d5 (.alo (zz (.int .u32 (.ofNat 0)) 64)),eo 4 d6 (.alo (zz (.int .u32 (.ofNat 0)) 64)),eo 5 none (.st s5 s15 64),eo 6 none (.st s6 s16 64)]
 (sr [qo 0 d17 (.ldn s2 8),eo 1 d7 (.alo (zz (.int .u32 (.ofNat 0)) 8)),eo 2 none (.st s7 s17 8)]
 (.seq (sr [mo 0 d18 (vi 0)]
 (.blk 0 (.loop (sr [qo 0 d19 (.bin .lss s18 (vi 64))]
 (.seq (.cnd s19 .skip (.exit 0))
 (.seq (.blk 1 (sr [mo 0 d20 s18,mo 1 d8 s20]
 (.seq (.rgd 0 [qo 0 d21 (.iada s7 (vi 0) 1 8),qo 1 d22 (.ld1 s21),qo 2 d23 (.iada s7 (vi 4) 1 8),qo 3 d24 (.ld1 s23),mo 4 d9 s22,mo 5 d10 s24])
 (.seq (.rgd 0 [qo 0 d25 (.iada s7 (vi 7) 1 8),qo 1 d26 (.ld1 s25),mo 2 d27 s10,mo 4 d29 s10,mo 7 d32 s10,mo 11 d36 s10,qo 12 d37 (.iada s7 (vi 5) 1 8),qo 13 d38 (.ld1 s37),qo 14 d39 (.bin .and s36 s38),mo 15 d40 s10,qo 16 d41 (.inv s40),qo 17 d42 (.iada s7 (vi 6) 1 8),qo 18 d43 (.ld1 s42),qo 19 d44 (.bin .and s41 s43),qo 20 d45 (.bin .xor s39 s44),mo 22 d47 s8,qo 23 d48 (.iada s6 s47 1 64),qo 24 d49 (.ld1 s48),mo 26 d51 s8,qo 27 d52 (.iada s5 s51 1 64),qo 28 d53 (.ld1 s52),⟨3,d28,(.call p153 [s27,(vi 6)]),none,[(p26,.ld1 s25,none),(p38,.ld1 s37,none),(p43,.ld1 s42,none),(p49,.ld1 s48,none),(p53,.ld1 s52,none)]⟩,⟨5,d30,(.call p153 [s29,(vi 11)]),none,[(p26,.ld1 s25,none),(p38,.ld1 s37,none),(p43,.ld1 s42,none),(p49,.ld1 s48,none),(p53,.ld1 s52,none)]⟩,qo 6 d31 (.bin .xor s28 s30),⟨8,d33,(.call p153 [s32,(vi 25)]),none,[(p26,.ld1 s25,none),(p38,.ld1 s37,none),(p43,.ld1 s42,none),(p49,.ld1 s48,none),(p53,.ld1 s52,none)]⟩,qo 9 d34 (.bin .xor s31 s33),qo 10 d35 (.bin .add s26 s34),qo 21 d46 (.bin .add s35 s45),qo 25 d50 (.bin .add s46 s49),qo 29 d54 (.bin .add s50 s53),mo 30 d11 s54])
 (.seq (.rgd 0 [mo 0 d55 s9,mo 2 d57 s9,mo 5 d60 s9,mo 8 d63 s9,qo 9 d64 (.iada s7 (vi 1) 1 8),qo 10 d65 (.ld1 s64),qo 11 d66 (.bin .and s63 s65),mo 12 d67 s9,qo 13 d68 (.iada s7 (vi 2) 1 8),qo 14 d69 (.ld1 s68),qo 15 d70 (.bin .and s67 s69),qo 16 d71 (.bin .xor s66 s70),qo 17 d72 (.iada s7 (vi 1) 1 8),qo 18 d73 (.ld1 s72),qo 19 d74 (.iada s7 (vi 2) 1 8),qo 20 d75 (.ld1 s74),qo 21 d76 (.bin .and s73 s75),qo 22 d77 (.bin .xor s71 s76),⟨1,d56,(.call p153 [s55,(vi 2)]),none,[(p65,.ld1 s64,none),(p69,.ld1 s68,none),(p73,.ld1 s72,none),(p75,.ld1 s74,none)]⟩,⟨3,d58,(.call p153 [s57,(vi 13)]),none,[(p65,.ld1 s64,none),(p69,.ld1 s68,none),(p73,.ld1 s72,none),(p75,.ld1 s74,none)]⟩,qo 4 d59 (.bin .xor s56 s58),⟨6,d61,(.call p153 [s60,(vi 22)]),none,[(p65,.ld1 s64,none),(p69,.ld1 s68,none),(p73,.ld1 s72,none),(p75,.ld1 s74,none)]⟩,qo 7 d62 (.bin .xor s59 s61),qo 23 d78 (.bin .add s62 s77),mo 24 d12 s78])
 (.reg [mo 0 d79 s11,mo 1 d80 s12,qo 2 d81 (.bin .add s79 s80),mo 3 d82 s9,qo 4 d83 (.iada s7 (vi 1) 1 8),qo 5 d84 (.ld1 s83),qo 6 d85 (.iada s7 (vi 2) 1 8),qo 7 d86 (.ld1 s85),qo 8 d87 (.iada s7 (vi 3) 1 8),qo 9 d88 (.ld1 s87),mo 10 d89 s11,qo 11 d90 (.bin .add s88 s89),mo 12 d91 s10,qo 13 d92 (.iada s7 (vi 5) 1 8),qo 14 d93 (.ld1 s92),qo 15 d94 (.iada s7 (vi 6) 1 8),qo 16 d95 (.ld1 s94),qo 17 d96 (.bld (zz (.int .u32 (.ofNat 0)) 8) [(0,1,s81),(1,1,s82),(2,1,s84),(3,1,s86),(4,1,s90),(5,1,s91),(6,1,s93),(7,1,s95)]),eo 18 none (.st s7 s96 8)]))))))
 (.reg [qo 0 d97 (.bin .add s18 (vi 1)),mo 1 d18 s97])))))))
 (.seq (sr [mo 0 d98 (vi 0)]
 (.blk 2 (.loop (sr [qo 0 d99 (.bin .lss s98 (vi 8))]
 (.seq (.cnd s99 .skip (.exit 2))
 (.seq (.blk 3 (sr [mo 0 d100 s98,mo 1 d13 s100]
 (.rgd 0 [mo 0 d101 s13,qo 1 d102 (.iada s2 s101 1 8),qo 2 d103 (.ld1 s102),mo 3 d104 s13,qo 4 d105 (.iada s7 s104 1 8),qo 5 d106 (.ld1 s105),qo 6 d107 (.bin .add s103 s106),qo 7 d108 (.iada s2 s101 1 8),eo 8 none (.st s108 s107 1)])))
 (.reg [qo 0 d109 (.bin .add s98 (vi 1)),mo 1 d98 s109])))))))
 (sr [qo 0 d110 (.ldn s2 8),eo 1 none (.st s4 s110 8)]
 .ret))))))
 [.cn p4 8]
noncomputable def f104 : FnE := .code 8
 (sr [qo 0 d2 (.mv (.v .nils))]
 (.seq (sr [mo 0 d3 s0,qo 1 d4 (.eqp .slice false s3 (.v .nils))]
 (.cnd s4 (sr [qo 0 d2 (.mv (.v .nils))]
 .ret) .skip))
 (sr [eo 0 d5 (.bsl [] [] 0 1),mo 1 d6 s0,eo 2 d7 (.app s5 s6 1 1 false),mo 3 d2 s7]
 .ret)))
 [.t p2]
noncomputable def f105 : FnE := .code 10
 (sr [qo 0 d4 (.mv (.v .nils))]
 (sr [mo 0 d5 s0,co 1 d6 p104 [s5],mo 2 d7 s1,qo 3 d8 (.cvi .u64 s7),co 4 d9 p154 [s6,s8,(vi 4)],mo 5 d4 s9]
 .ret))
 [.t p4]
noncomputable def f106 : FnE := .code 9
 (sr [qo 0 d4 (.mv (.v .nils))]
 (sr [mo 0 d5 s0,co 1 d6 p104 [s5],mo 2 d7 s1,co 3 d8 p154 [s6,s7,(vi 8)],mo 4 d4 s8]
 .ret))
 [.t p4]
noncomputable def f107 : FnE := .code 72
 (sr [eo 0 d4 (.box s1 32),eo 1 d5 (.box s2 32),eo 2 d6 (.alo (zz zB 32)),qo 3 d7 (.mv (.v (.bool false)))]
 (.seq (.rgd 0 [mo 0 d13 s0,qo 1 d14 (.nck s13),qo 2 d15 (.fadr s14 0),qo 3 d16 (.ld1 s15),qo 4 d17 (.ldn s4 32),qo 5 d18 (.lkp s16 s17 (.cells (kk .u8 32)) .nilp true),mo 6 d12 s18,qo 7 d19 (.ext s12 0),qo 8 d20 (.ext s12 1),mo 9 d8 s19,mo 10 d9 s20])
 (.seq (.rgd 0 [mo 0 d22 s0,qo 1 d23 (.nck s22),qo 2 d24 (.fadr s23 0),qo 3 d25 (.ld1 s24),qo 4 d26 (.ldn s5 32),qo 5 d27 (.lkp s25 s26 (.cells (kk .u8 32)) .nilp true),mo 6 d21 s27,qo 7 d28 (.ext s21 0),qo 8 d29 (.ext s21 1),mo 9 d10 s28,mo 10 d11 s29])
 (.seq (sr [mo 0 d30 s9,qo 1 d31 (.not s30),mo 2 d32 s31,⟨3,d33,(.q (.mv s11)),(some (p32,false)),[]⟩,⟨4,d34,(.q (.not s33)),(some (p32,false)),[]⟩,qo 5 d35 (.pick s32 (.v (.bool true)) s34)]
 (.cnd s35 (sr [qo 0 d36 (.bld (zz zB 32) []),eo 1 none (.st s6 s36 32),qo 2 d7 (.mv (.v (.bool false)))]
 .ret) .skip))
 (.seq (.blk 0 (.loop (.seq (sr [qo 0 d37 (.ldn s4 32),qo 1 d38 (.ldn s5 32),qo 2 d39 (.eqa true (kk .u8 32) s37 s38)]
 (.cnd s39 .skip (.exit 0)))
 (.blk 1 (.seq (.rgd 0 [mo 0 d40 s8,qo 1 d41 (.nck s40),qo 2 d42 (.fadr s41 68),qo 3 d43 (.ld1 s42),mo 4 d44 s10,qo 5 d45 (.nck s44),qo 6 d46 (.fadr s45 68),qo 7 d47 (.ld1 s46),qo 8 d48 (.bin .geq s43 s47)])
 (.cnd s48 (sr [mo 0 d49 s8,qo 1 d50 (.nck s49),qo 2 d51 (.fadr s50 0),qo 3 d52 (.fadr s51 1),qo 4 d53 (.ldn s52 32),eo 5 none (.st s4 s53 32)]
 (.rgd 0 [mo 0 d54 s0,qo 1 d55 (.nck s54),qo 2 d56 (.fadr s55 0),qo 3 d57 (.ld1 s56),qo 4 d58 (.ldn s4 32),qo 5 d59 (.lkp s57 s58 (.cells (kk .u8 32)) .nilp false),mo 6 d8 s59])) (sr [mo 0 d60 s10,qo 1 d61 (.nck s60),qo 2 d62 (.fadr s61 0),qo 3 d63 (.fadr s62 1),qo 4 d64 (.ldn s63 32),eo 5 none (.st s5 s64 32)]
 (.rgd 0 [mo 0 d65 s0,qo 1 d66 (.nck s65),qo 2 d67 (.fadr s66 0),qo 3 d68 (.ld1 s67),qo 4 d69 (.ldn s5 32),qo 5 d70 (.lkp s68 s69 (.cells (kk .u8 32)) .nilp false),mo 6 d10 s70]))))))))
 (sr [qo 0 d71 (.ldn s4 32),eo 1 none (.st s6 s71 32),qo 2 d7 (.mv (.v (.bool true)))]
 .ret))))))
 [.cn p6 32,.t p7]
noncomputable def f108 : FnE := .code 26
 (sr [eo 0 d4 (.box s1 32),eo 1 d5 (.box s2 32),qo 2 d6 (.mv (.v .nils))]
 (sr [qo 0 d7 (.mv (.v .nils))]
 (.seq (.blk 0 (.loop (.seq (sr [qo 0 d8 (.ldn s4 32),qo 1 d9 (.ldn s5 32),qo 2 d10 (.eqa true (kk .u8 32) s8 s9)]
 (.cnd s10 .skip (.exit 0)))
 (.blk 1 (sr [mo 0 d11 s7,qo 1 d12 (.ldn s4 32),eo 2 d13 (.bsl (zz zB 32) [(0,32,s12)] 1 32),eo 3 d14 (.app s11 s13 32 32 false),mo 4 d7 s14]
 (.rgd 0 [mo 0 d15 s0,qo 1 d16 (.nck s15),qo 2 d17 (.fadr s16 0),qo 3 d18 (.ld1 s17),qo 4 d19 (.ldn s4 32),qo 5 d20 (.lkp s18 s19 (.cells (kk .u8 32)) .nilp false),qo 6 d21 (.nck s20),qo 7 d22 (.fadr s21 0),qo 8 d23 (.fadr s22 1),qo 9 d24 (.ldn s23 32),eo 10 none (.st s4 s24 32)]))))))
 (sr [mo 0 d25 s7,mo 1 d6 s25]
 .ret))))
 [.t p6]
noncomputable def f109 : FnE := .code 28
 (sr [mo 0 d4 s0,qo 1 d5 (.lenv s4),qo 2 d6 (.bin .sub s5 (vi 1)),mo 3 d2 (vi 0),mo 4 d3 s6]
 (.blk 0 (.loop (.seq (sr [mo 0 d7 s2,mo 1 d8 s3,qo 2 d9 (.bin .lss s7 s8)]
 (.cnd s9 .skip (.exit 0)))
 (.seq (.blk 1 (.rgd 0 [mo 0 d14 s0,mo 1 d15 s2,mo 2 d16 s0,mo 3 d17 s3,mo 4 d18 s0,mo 5 d19 s3,qo 6 d20 (.iadr s18 s19 32),qo 7 d21 (.ldn s20 32),mo 8 d22 s0,mo 9 d23 s2,qo 10 d24 (.iadr s22 s23 32),qo 11 d25 (.ldn s24 32),qo 12 d26 (.iadr s14 s15 32),eo 13 none (.st s26 s21 32),qo 14 d27 (.iadr s16 s17 32),eo 15 none (.st s27 s25 32)]))
 (.reg [mo 0 d10 s2,qo 1 d11 (.bin .add s10 (vi 1)),mo 2 d12 s3,qo 3 d13 (.bin .sub s12 (vi 1)),mo 4 d2 s11,mo 5 d3 s13]))))))
 []
noncomputable def f110 : FnE := .code 39
 (sr [eo 0 d3 (.box s1 32),qo 1 d4 (.mv (.v .nils)),qo 2 d5 (.mv (.v (.bool false)))]
 (sr [qo 0 d6 (.mv (.v .nils))]
 (sr [mo 0 d10 s0,qo 1 d11 (.ldn s3 32),co 2 d12 p84 [s10,s11],mo 3 d9 s12,qo 4 d13 (.ext s9 0),qo 5 d14 (.ext s9 1),eo 6 d7 (.alo (lapp [(.int .u32 (.ofNat 0))] (lapp (zz zB 32) [zB,zB,zB,zB,zB,zB,zB,zB,zB,zB,zB,zB,zB,zB,zB,zB,zB,zB,zB,zB,zB,zB,zB,zB,zB,zB,zB,zB,zB,zB,zB,zB,(.int .u32 (.ofNat 0)),(.int .u32 (.ofNat 0)),(.int .u32 (.ofNat 0))]))),eo 7 none (.st s7 s13 68),mo 8 d8 s14]
 (.seq (sr [mo 0 d15 s8,qo 1 d16 (.not s15)]
 (.cnd s16 (sr [qo 0 d4 (.mv (.v .nils)),qo 1 d5 (.mv (.v (.bool false)))]
 .ret) .skip))
 (.seq (.blk 0 (.loop (.seq (sr [mo 0 d17 s8]
 (.cnd s17 .skip (.exit 0)))
 (.seq (.blk 1 (sr [mo 0 d25 s6,qo 1 d26 (.fadr s7 65),qo 2 d27 (.ld1 s26),eo 3 d28 (.bsl [(.int .u32 (.ofNat 0))] [(0,1,s27)] 1 1),eo 4 d29 (.app s25 s28 1 4 false),mo 5 d6 s29]
 (.seq (.seq (.rgd 0 [qo 0 d30 (.ldn s3 32),mo 1 d31 s0,⟨2,d32,(.call p32 [s31]),none,[(p30,.ldn s3 32,none)]⟩,qo 3 d33 (.eqa false (kk .u8 32) s30 s32)])
 (.cnd s33 (.exit 0) .skip))
 (.reg [qo 0 d34 (.fadr s7 1),qo 1 d35 (.ldn s34 32),eo 2 none (.st s3 s35 32)]))))
 (.reg [mo 0 d19 s0,qo 1 d20 (.fadr s7 1),qo 2 d21 (.ldn s20 32),co 3 d22 p84 [s19,s21],mo 4 d18 s22,qo 5 d23 (.ext s18 0),qo 6 d24 (.ext s18 1),eo 7 none (.st s7 s23 68),mo 8 d8 s24])))))
 (sr [mo 0 d36 s6,co 1 d37 p155 [s36]]
 (sr [mo 0 d38 s6,mo 1 d4 s38,qo 2 d5 (.mv (.v (.bool true)))]
 .ret)))))))
 [.t p4,.t p5]
noncomputable def f111 : FnE := .code 22
 (sr [mo 0 d2 (vw 0)]
 (.seq (sr [mo 0 d4 s0,qo 1 d5 (.lenv s4),qo 2 d6 (.bin .eql s5 (vi 0))]
 (.cnd s6 (sr [mo 0 d2 (vw 0)]
 .ret) .skip))
 (sr [mo 0 d7 s0,mo 1 d8 s0,qo 2 d9 (.lenv s8),qo 3 d10 (.bin .sub s9 (vi 11)),qo 4 d11 (.mnx true s10 (vi 0)),qo 5 d12 (.slc s7 (some s11) none 1),co 6 d13 p156 [s12],mo 7 d3 s13]
 (sr [mo 0 d14 s3,co 1 d15 p157 [s14]]
 (sr [mo 0 d16 s3,mo 1 d17 s3,qo 2 d18 (.lenv s17),qo 3 d19 (.bin .quo s18 (vi 2)),qo 4 d20 (.iadr s16 s19 1),qo 5 d21 (.ld1 s20),mo 6 d2 s21]
 .ret)))))
 [.t p2]
noncomputable def f112 : FnE := .code 36
 (sr [qo 0 d2 (.mv (.v .nils))]
 (sr [mo 0 d3 (vi 0)]
 (.seq (sr [mo 0 d9 s0,qo 1 d10 (.lenv s9),mo 2 d11 (vi 0)]
 (.blk 0 (.loop (sr [qo 0 d12 (.bin .lss s11 s10)]
 (.seq (.cnd s12 .skip (.exit 0))
 (.seq (.blk 1 (sr [qo 0 d13 (.iadr s9 s11 1),qo 1 d14 (.ld1 s13),mo 2 d5 s14]
 (sr [mo 0 d15 s3,mo 1 d16 s5,qo 2 d17 (.lenv s16),qo 3 d18 (.bin .add s15 s17),mo 4 d3 s18]
 (sr [mo 0 d19 s3,qo 1 d20 (.bin .lss s19 (vi 0))]
 (.cnd s20 (.reg [qo 0 d21 (.mki 9 (.v (.str [108,101,110,32,111,117,116,32,111,102,32,114,97,110,103,101]))),o 1 none .bad]) .skip)))))
 (.reg [qo 0 d22 (.bin .add s11 (vi 1)),mo 1 d11 s22])))))))
 (sr [mo 0 d23 s3,co 1 d24 p158 [(.v .nils),s23],mo 2 d6 s24]
 (.seq (sr [mo 0 d25 s0,qo 1 d26 (.lenv s25),mo 2 d27 (vi 0)]
 (.blk 2 (.loop (sr [qo 0 d28 (.bin .lss s27 s26)]
 (.seq (.cnd s28 .skip (.exit 2))
 (.seq (.blk 3 (sr [qo 0 d29 (.iadr s25 s27 1),qo 1 d30 (.ld1 s29),mo 2 d8 s30]
 (.reg [mo 0 d31 s6,mo 1 d32 s8,eo 2 d33 (.app s31 s32 1 1 false),mo 3 d6 s33])))
 (.reg [qo 0 d34 (.bin .add s27 (vi 1)),mo 1 d27 s34])))))))
 (sr [mo 0 d35 s6,mo 1 d2 s35]
 .ret))))))
 [.t p2]
noncomputable def f113 : FnE := .code 2
 (sr [eo 0 d0 (.alo (lapp (zz zB 32) [(.int .u32 (.ofNat 0))]))]
 (sr [qo 0 d1 (.bld (lapp (zz zB 32) [(.int .u32 (.ofNat 0))]) [(32,1,(vw 4294967295))]),eo 1 none (.st s0 s1 33)]
 .ret))
 [.cn p0 33]
noncomputable def f114 : FnE := .code 7
 (sr [eo 0 d2 (.alo (zz zB 32))]
 (sr [eo 0 d3 (.alo [(.int .u32 (.ofNat 0)),(.int .u32 (.ofNat 0)),(.int .u32 (.ofNat 0)),(.int .u32 (.ofNat 0)),(.int .u32 (.ofNat 0)),(.int .u32 (.ofNat 0)),(.int .u32 (.ofNat 0)),(.int .u32 (.ofNat 0)),.nils,(.int .i64 (.ofNat 0))])]
 (sr [mo 0 d4 s0,co 1 d5 p57 [s3,s4]]
 (sr [co 0 d6 p59 [s3],eo 1 none (.st s2 s6 32)]
 .ret))))
 [.cn p2 32]
noncomputable def f115 : FnE := .code 17
 (sr [eo 0 d2 (.alo (zz zB 32))]
 (.seq (sr [mo 0 d4 s0,qo 1 d5 (.lenv s4),qo 2 d6 (.bin .eql s5 (vi 0))]
 (.cnd s6 (sr [qo 0 d7 (.bld (zz zB 32) []),eo 1 none (.st s2 s7 32)]
 .ret) .skip))
 (sr [mo 0 d8 s0,mo 1 d3 s8]
 (.seq (.blk 0 (.loop (.seq (sr [mo 0 d9 s3,qo 1 d10 (.lenv s9),qo 2 d11 (.bin .gtr s10 (vi 1))]
 (.cnd s11 .skip (.exit 0)))
 (.blk 1 (.reg [mo 0 d12 s3,co 1 d13 p159 [s12],mo 2 d3 s13])))))
 (sr [mo 0 d14 s3,qo 1 d15 (.iadr s14 (vi 0) 32),qo 2 d16 (.ldn s15 32),eo 3 none (.st s2 s16 32)]
 .ret)))))
 [.cn p2 32]
noncomputable def f116 : FnE := .code 20
 (sr [eo 0 d1 (.box s0 69),qo 1 d2 (.mv (.v .nils))]
 (sr [qo 0 d3 (.mv (.v .nils))]
 (.seq (sr [qo 0 d6 (.fadr s1 68),qo 1 d7 (.ld1 s6),qo 2 d8 (.lenv s7),mo 3 d9 (vi 0)]
 (.blk 0 (.loop (sr [qo 0 d10 (.bin .lss s9 s8)]
 (.seq (.cnd s10 .skip (.exit 0))
 (.seq (.blk 1 (sr [qo 0 d11 (.iadr s7 s9 4),qo 1 d12 (.ldn s11 4),eo 2 d5 (.alo [(.int .u32 (.ofNat 0)),.nils,.nils,(.int .u32 (.ofNat 0))]),eo 3 none (.st s5 s12 4)]
 (.reg [mo 0 d13 s3,qo 1 d14 (.ldn s5 4),co 2 d15 p160 [s14],eo 3 d16 (.bsl (zz zB 32) [(0,32,s15)] 1 32),eo 4 d17 (.app s13 s16 32 32 false),mo 5 d3 s17])))
 (.reg [qo 0 d18 (.bin .add s9 (vi 1)),mo 1 d9 s18])))))))
 (sr [mo 0 d19 s3,mo 1 d2 s19]
 .ret))))
 [.t p2]
noncomputable def f117 : FnE := .code 8
 (sr [eo 0 d2 (.alo (zz zB 32))]
 (sr [mo 0 d4 s0,co 1 d5 p114 [s4],eo 2 d3 (.alo (zz zB 32)),eo 3 none (.st s3 s5 32)]
 (sr [qo 0 d6 (.slca s3 none none 1 32),co 1 d7 p114 [s6],eo 2 none (.st s2 s7 32)]
 .ret)))
 [.cn p2 32]
noncomputable def f118 : FnE := .code 23
 (sr [eo 0 d1 (.box s0 68),qo 1 d2 (.mv (.v .nils))]
 (.seq (.rgd 0 [qo 0 d4 (.fadr s1 0),qo 1 d5 (.ld1 s4),qo 3 d7 (.fadr s1 1),qo 4 d8 (.slca s7 none none 1 32),qo 5 d9 (.fadr s1 33),qo 6 d10 (.slca s9 none none 1 32),⟨2,d6,(.call p105 [(.v .nils),s5]),none,[(p8,.slca s7 none none 1 32,none),(p10,.slca s9 none none 1 32,none)]⟩,eo 7 d11 (.bsl [.nils,.nils,.nils] [(0,1,s6),(1,1,s8),(2,1,s10)] 3 1),co 8 d12 p112 [s11],mo 9 d3 s12])
 (.seq (.rgd 0 [mo 0 d13 s3,qo 1 d14 (.fadr s1 65),qo 2 d15 (.ld1 s14),qo 4 d17 (.fadr s1 66),qo 5 d18 (.ld1 s17),qo 7 d20 (.fadr s1 67),qo 8 d21 (.ld1 s20),⟨3,d16,(.call p105 [s13,s15]),none,[(p18,.ld1 s17,none),(p21,.ld1 s20,none)]⟩,⟨6,d19,(.call p105 [s16,s18]),none,[(p21,.ld1 s20,none)]⟩,co 9 d22 p105 [s19,s21],mo 10 d2 s22])
 .ret)))
 [.t p2]
noncomputable def f120 : FnE := .code 6
 (sr [eo 0 d1 (.box s0 4),eo 1 d2 (.alo (zz zB 32))]
 (sr [qo 0 d3 (.ldn s1 4),co 1 d4 p47 [s3],co 2 d5 p48 [s4],eo 3 none (.st s2 s5 32)]
 .ret))
 [.cn p2 32]
noncomputable def f121 : FnE := .code 6
 (sr [mo 0 d2 (vw 0)]
 (sr [mo 0 d3 s0,co 1 d4 p123 [s3,(vi 4)],qo 2 d5 (.cvi .u32 s4),mo 3 d2 s5]
 .ret))
 [.t p2]
noncomputable def f122 : FnE := .code 9
 (sr [eo 0 d2 (.alo (zz zB 32))]
 (sr [eo 0 d3 (.alo (zz zB 32))]
 (.seq (.rgd 0 [qo 0 d4 (.slca s3 none none 1 32),mo 1 d5 s0,⟨2,d6,(.call p162 [s5,(vi 32)]),none,[(p4,.slca s3 none none 1 32,none)]⟩,eo 3 d7 (.cpy s4 s6 1)])
 (sr [qo 0 d8 (.ldn s3 32),eo 1 none (.st s2 s8 32)]
 .ret))))
 [.cn p2 32]
noncomputable def f123 : FnE := .code 26
 (sr [mo 0 d4 (vl 0)]
 (sr [mo 0 d5 (vl 0)]
 (.seq (sr [mo 0 d8 s0,mo 1 d9 s1,co 2 d10 p162 [s8,s9],qo 3 d11 (.lenv s10),mo 4 d12 (vi 0)]
 (.blk 0 (.loop (sr [qo 0 d13 (.bin .lss s12 s11)]
 (.seq (.cnd s13 .skip (.exit 0))
 (.seq (.blk 1 (sr [mo 0 d14 s12,qo 1 d15 (.iadr s10 s12 1),qo 2 d16 (.ld1 s15),mo 3 d6 s14,mo 4 d7 s16]
 (.reg [mo 0 d17 s5,mo 1 d18 s7,qo 2 d19 (.cvi .u64 s18),mo 3 d20 s6,qo 4 d21 (.bin .mul (vi 8) s20),qo 5 d22 (.shf true s19 s21),qo 6 d23 (.bin .or s17 s22),mo 7 d5 s23])))
 (.reg [qo 0 d24 (.bin .add s12 (vi 1)),mo 1 d12 s24])))))))
 (sr [mo 0 d25 s5,mo 1 d4 s25]
 .ret))))
 [.t p4]
noncomputable def f124 : FnE := .code 12
 (sr [mo 0 d2 (vi 0)]
 (.seq (.blk 0 (sr [mo 0 d4 s0,qo 1 d5 (.bin .lss s4 (vl 253)),mo 2 d3 s5]
 (.cnd s3 (sr [mo 0 d2 (vi 1)]
 .ret) (sr [mo 0 d7 s0,qo 1 d8 (.bin .lss s7 (vl 65536)),mo 2 d6 s8]
 (.cnd s6 (sr [mo 0 d2 (vi 3)]
 .ret) (sr [mo 0 d10 s0,qo 1 d11 (.bin .lss s10 (vl 4294967296)),mo 2 d9 s11]
 (.cnd s9 (sr [mo 0 d2 (vi 5)]
 .ret) .skip)))))))
 (sr [mo 0 d2 (vi 9)]
 .ret)))
 [.t p2]
noncomputable def f125 : FnE := .code 11
 (sr [qo 0 d4 (.mv (.v .nils))]
 (.seq (sr [mo 0 d5 s1,qo 1 d6 (.bin .leq s5 (vi 0))]
 (.cnd s6 (sr [qo 0 d4 (.mv (.v .nils))]
 .ret) .skip))
 (sr [mo 0 d7 s0,mo 1 d8 s1,co 2 d9 p162 [s7,s8],co 3 d10 p104 [s9],mo 4 d4 s10]
 .ret)))
 [.t p4]
noncomputable def f126 : FnE := .code 5
 (sr [mo 0 d2 (vl 0)]
 (sr [mo 0 d3 s0,co 1 d4 p123 [s3,(vi 8)],mo 2 d2 s4]
 .ret))
 [.t p2]
noncomputable def f127 : FnE := .code 27
 (sr [eo 0 d1 (.box s0 69),qo 1 d2 (.mv (.v .nils))]
 (.seq (.rgd 0 [qo 0 d6 (.fadr s1 0),qo 1 d7 (.ldn s6 68),qo 3 d9 (.fadr s1 68),qo 4 d10 (.ld1 s9),qo 5 d11 (.lenv s10),qo 6 d12 (.cvi .u64 s11),⟨2,d8,(.call p118 [s7]),none,[(p10,.ld1 s9,none)]⟩,co 7 d13 p163 [s8,s12],mo 8 d3 s13])
 (.seq (sr [qo 0 d14 (.fadr s1 68),qo 1 d15 (.ld1 s14),qo 2 d16 (.lenv s15),mo 3 d17 (vi 0)]
 (.blk 0 (.loop (sr [qo 0 d18 (.bin .lss s17 s16)]
 (.seq (.cnd s18 .skip (.exit 0))
 (.seq (.blk 1 (sr [qo 0 d19 (.iadr s15 s17 4),qo 1 d20 (.ldn s19 4),eo 2 d5 (.alo [(.int .u32 (.ofNat 0)),.nils,.nils,(.int .u32 (.ofNat 0))]),eo 3 none (.st s5 s20 4)]
 (.reg [mo 0 d21 s3,qo 1 d22 (.ldn s5 4),co 2 d23 p164 [s22],eo 3 d24 (.app s21 s23 1 1 false),mo 4 d3 s24])))
 (.reg [qo 0 d25 (.bin .add s17 (vi 1)),mo 1 d17 s25])))))))
 (sr [mo 0 d26 s3,mo 1 d2 s26]
 .ret))))
 [.t p2]
noncomputable def f128 : FnE := .code 52
 (sr [eo 0 d1 (.box s0 4),qo 1 d2 (.mv (.v .nili))]
 (.seq (.blk 0 (sr [qo 0 d6 (.fadr s1 1),qo 1 d7 (.ld1 s6),qo 2 d8 (.lenv s7),qo 3 d9 (.bin .eql s8 (vi 0)),mo 4 d10 s9,⟨5,d11,(.q (.fadr s1 1)),(some (p10,false)),[]⟩,⟨6,d12,(.q (.ld1 s11)),(some (p10,false)),[]⟩,⟨7,d13,(.q (.lenv s12)),(some (p10,false)),[]⟩,⟨8,d14,(.q (.bin .gtr s13 (vi 50))),(some (p10,false)),[]⟩,qo 9 d15 (.pick s10 (.v (.bool true)) s14),mo 10 d16 s15,⟨11,d17,(.q (.fadr s1 2)),(some (p16,false)),[]⟩,⟨12,d18,(.q (.ld1 s17)),(some (p16,false)),[]⟩,⟨13,d19,(.q (.lenv s18)),(some (p16,false)),[]⟩,⟨14,d20,(.q (.bin .eql s19 (vi 0))),(some (p16,false)),[]⟩,qo 15 d21 (.pick s16 (.v (.bool true)) s20),mo 16 d22 s21,⟨17,d23,(.q (.fadr s1 2)),(some (p22,false)),[]⟩,⟨18,d24,(.q (.ld1 s23)),(some (p22,false)),[]⟩,⟨19,d25,(.q (.lenv s24)),(some (p22,false)),[]⟩,⟨20,d26,(.q (.bin .gtr s25 (vi 50))),(some (p22,false)),[]⟩,qo 21 d27 (.pick s22 (.v (.bool true)) s26),mo 22 d5 s27]
 (.cnd s5 (sr [qo 0 d28 (.ld1 (.g p3)),mo 1 d2 s28]
 .ret) (sr [qo 0 d30 (.ldn s1 4),co 1 d31 p165 [s30],qo 2 d32 (.bin .gtr s31 (vi 4000)),mo 3 d29 s32]
 (.cnd s29 (sr [qo 0 d33 (.ld1 (.g p4)),mo 1 d2 s33]
 .ret) (sr [qo 0 d35 (.fadr s1 1),qo 1 d36 (.ld1 s35),co 2 d37 p166 [s36,(.f 167)],mo 3 d34 s37]
 (.cnd s34 (sr [qo 0 d38 (.ld1 (.g p12)),mo 1 d2 s38]
 .ret) .skip)))))))
 (.seq (sr [qo 0 d40 (.ldn s1 4),co 1 d41 p168 [s40],mo 2 d39 s41,qo 3 d42 (.ext s39 0),qo 4 d43 (.ext s39 1),mo 5 d3 s42,mo 6 d4 s43]
 (sr [mo 0 d44 s4,qo 1 d45 (.not s44)]
 (.cnd s45 (sr [qo 0 d46 (.ld1 (.g p13)),mo 1 d2 s46]
 .ret) .skip)))
 (.seq (sr [qo 0 d47 (.ldn s1 4),co 1 d48 p169 [s47]]
 (.cnd s48 (sr [qo 0 d49 (.ld1 (.g p5)),mo 1 d2 s49]
 .ret) .skip))
 (sr [qo 0 d50 (.ldn s1 4),co 1 d51 p170 [s50],mo 2 d2 s51]
 .ret)))))
 [.t p2]
noncomputable def f129 : FnE := .code 15
 (sr [eo 0 d1 (.box s0 4),qo 1 d2 (.mv (.v (.bool false)))]
 (sr [qo 0 d3 (.fadr s1 1),qo 1 d4 (.ld1 s3),qo 2 d5 (.lenv s4),qo 3 d6 (.bin .eql s5 (vi 1)),mo 4 d7 s6,⟨5,d8,(.q (.fadr s1 1)),(some (p7,true)),[]⟩,⟨6,d9,(.q (.ld1 s8)),(some (p7,true)),[]⟩,⟨7,d10,(.q (.iadr s9 (vi 0) 35)),(some (p7,true)),[]⟩,⟨8,d11,(.q (.fadr s10 0)),(some (p7,true)),[]⟩,⟨9,d12,(.q (.ldn s11 33)),(some (p7,true)),[]⟩,⟨10,d13,(.call p171 [s12]),(some (p7,true)),[]⟩,qo 11 d14 (.pick s7 s13 (.v (.bool false))),mo 12 d2 s14]
 .ret))
 [.t p2]
noncomputable def f130 : FnE := .code 4
 (sr [eo 0 d1 (.box s0 1),qo 1 d2 (.mv (.v .nilf))]
 (sr [qo 0 d3 (.mkf 172 [] [s1]),mo 1 d2 s3]
 .ret))
 [.t p2]
noncomputable def f131 : FnE := .code 45
 (sr [eo 0 d3 (.box s1 32),qo 1 d4 (.mv (.v .nils))]
 (.seq (.seq (.rgd 0 [mo 0 d10 s0,qo 1 d11 (.nck s10),qo 2 d12 (.fadr s11 0),qo 3 d13 (.ld1 s12),qo 4 d14 (.ldn s3 32),qo 5 d15 (.lkp s13 s14 (.cells (kk .u8 32)) .nilp true),mo 6 d9 s15,qo 7 d16 (.ext s9 0),qo 8 d17 (.ext s9 1),mo 9 d5 s16,mo 10 d6 s17])
 (sr [mo 0 d18 s6,qo 1 d19 (.not s18)]
 (.cnd s19 (sr [qo 0 d4 (.mv (.v .nils))]
 .ret) .skip)))
 (sr [qo 0 d20 (.ldn s3 32),eo 1 d21 (.bsl (zz zB 32) [(0,32,s20)] 1 32),mo 2 d7 s21]
 (.seq (sr [mo 0 d8 (vi 0)]
 (.blk 0 (.loop (.seq (sr [mo 0 d22 s8,mo 1 d23 s7,qo 2 d24 (.lenv s23),qo 3 d25 (.bin .lss s22 s24)]
 (.cnd s25 .skip (.exit 0)))
 (.seq (.blk 1 (.rgd 0 [mo 0 d28 s7,mo 1 d29 s0,qo 2 d30 (.nck s29),qo 3 d31 (.fadr s30 0),qo 4 d32 (.ld1 s31),mo 5 d33 s7,mo 6 d34 s8,qo 7 d35 (.iadr s33 s34 32),qo 8 d36 (.ldn s35 32),qo 9 d37 (.lkp s32 s36 (.cells (kk .u8 32)) .nilp false),qo 10 d38 (.nck s37),qo 11 d39 (.fadr s38 70),qo 12 d40 (.ld1 s39),eo 13 d41 (.app s28 s40 32 32 false),mo 14 d7 s41]))
 (.reg [mo 0 d26 s8,qo 1 d27 (.bin .add s26 (vi 1)),mo 2 d8 s27]))))))
 (sr [mo 0 d42 s7,co 1 d43 p173 [s42,(.f 133)]]
 (sr [mo 0 d44 s7,mo 1 d4 s44]
 .ret))))))
 [.t p4]
noncomputable def f132 : FnE := .code 12
 (sr [qo 0 d4 (.mv (.v .nils))]
 (sr [mo 0 d6 s0,co 1 d7 p174 [s6],mo 2 d5 s7]
 (sr [mo 0 d8 s5,mo 1 d9 s1,co 2 d10 p173 [s8,s9]]
 (sr [mo 0 d11 s5,mo 1 d4 s11]
 .ret))))
 [.t p4]
noncomputable def f133 : FnE := .code 8
 (sr [eo 0 d2 (.box s0 32),eo 1 d3 (.box s1 32),mo 2 d4 (vi 0)]
 (.seq (.rgd 0 [qo 0 d5 (.slca s2 none none 1 32),qo 1 d6 (.slca s3 none none 1 32),co 2 d7 p175 [s5,s6],mo 3 d4 s7])
 .ret))
 [.t p4]
noncomputable def f134 : FnE := .code 22
 (sr [eo 0 d3 (.box s1 32),mo 1 d4 (vl 0),qo 2 d5 (.mv (.v (.bool false)))]
 (.seq (.seq (.rgd 0 [mo 0 d9 s0,qo 1 d10 (.nck s9),qo 2 d11 (.fadr s10 0),qo 3 d12 (.ld1 s11),qo 4 d13 (.ldn s3 32),qo 5 d14 (.lkp s12 s13 (.cells (kk .u8 32)) .nilp true),mo 6 d8 s14,qo 7 d15 (.ext s8 0),qo 8 d16 (.ext s8 1),mo 9 d6 s15,mo 10 d7 s16])
 (sr [mo 0 d17 s7]
 (.cnd s17 (sr [mo 0 d18 s6,qo 1 d19 (.nck s18),qo 2 d20 (.fadr s19 69),qo 3 d21 (.ld1 s20),mo 4 d4 s21,qo 5 d5 (.mv (.v (.bool true)))]
 .ret) .skip)))
 (sr [mo 0 d4 (vl 0),qo 1 d5 (.mv (.v (.bool false)))]
 .ret)))
 [.t p4,.t p5]
noncomputable def f136 : FnE := .code 48
 (sr [qo 0 d6 (.mv (.v (.bool false)))]
 (sr [mo 0 d11 s1,mo 1 d7 s11]
 (.seq (.blk 0 (.loop (.blk 1 (sr [mo 0 d12 s7,qo 1 d13 (.bin .mul (vi 2) s12),qo 2 d14 (.bin .add s13 (vi 1)),mo 3 d8 s14]
 (.seq (sr [mo 0 d15 s8,mo 1 d16 s2,qo 2 d17 (.bin .geq s15 s16),mo 3 d18 s17,⟨4,d19,(.q (.mv s8)),(some (p18,false)),[]⟩,⟨5,d20,(.q (.bin .lss s19 (vi 0))),(some (p18,false)),[]⟩,qo 6 d21 (.pick s18 (.v (.bool true)) s20)]
 (.cnd s21 (.exit 0) .skip))
 (sr [mo 0 d22 s8,mo 1 d9 s22]
 (.seq (sr [mo 0 d23 s8,qo 1 d24 (.bin .add s23 (vi 1)),mo 2 d10 s24]
 (sr [mo 0 d25 s10,mo 1 d26 s2,qo 2 d27 (.bin .lss s25 s26),mo 3 d28 s27,⟨4,d29,(.q (.mv s0)),(some (p28,true)),[]⟩,⟨5,d30,(.q (.mv s10)),(some (p28,true)),[]⟩,⟨6,d31,(.q (.mv s8)),(some (p28,true)),[]⟩,⟨7,d32,(.inv s29 "Less" [s30,s31]),(some (p28,true)),[]⟩,qo 8 d33 (.pick s28 s32 (.v (.bool false)))]
 (.cnd s33 (.reg [mo 0 d34 s10,mo 1 d9 s34]) .skip)))
 (.seq (sr [mo 0 d35 s0,mo 1 d36 s9,mo 2 d37 s7,o 3 d38 (.inv s35 "Less" [s36,s37]),qo 4 d39 (.not s38)]
 (.cnd s39 (.exit 0) .skip))
 (sr [mo 0 d40 s0,mo 1 d41 s7,mo 2 d42 s9,o 3 d43 (.inv s40 "Swap" [s41,s42])]
 (.reg [mo 0 d44 s9,mo 1 d7 s44]))))))))))
 (sr [mo 0 d45 s7,mo 1 d46 s1,qo 2 d47 (.bin .gtr s45 s46),mo 3 d6 s47]
 .ret))))
 [.t p6]
noncomputable def f137 : FnE := .code 46
 (sr [qo 0 d6 (.mv (.v .nili))]
 (sr [mo 0 d10 s0,co 1 d11 p55 [s10],mo 2 d7 s11]
 (.seq (sr [mo 0 d12 s2,qo 1 d13 (.lenv s12),qo 2 d14 (.bin .sub s13 (vi 1)),mo 3 d8 s14]
 (.blk 0 (.loop (.seq (sr [mo 0 d15 s8,qo 1 d16 (.bin .geq s15 (vi 0))]
 (.cnd s16 .skip (.exit 0)))
 (.seq (.blk 1 (sr [qo 0 d9 (.mv (.v .nili))]
 (sr [mo 0 d20 s7,mo 1 d21 s1,mo 2 d22 s2,mo 3 d23 s8,qo 4 d24 (.iadr s22 s23 4),qo 5 d25 (.ldn s24 4),co 6 d26 p176 [s20,s21,s25],mo 7 d19 s26,qo 8 d27 (.ext s19 0),qo 9 d28 (.ext s19 1),mo 10 d1 s27,mo 11 d9 s28]
 (sr [mo 0 d29 s9,qo 1 d30 (.eqp (.iface true) true s29 (.v .nili))]
 (.cnd s30 (sr [mo 0 d31 s8,mo 1 d32 s9,qo 2 d33 (.bld [(.int .i64 (.ofNat 0)),.nili] [(0,1,s31),(1,1,s32)]),eo 3 d34 (.box s33 2),qo 4 d35 (.mki 201 s34),mo 5 d6 s35]
 .ret) .skip)))))
 (.reg [mo 0 d17 s8,qo 1 d18 (.bin .sub s17 (vi 1)),mo 2 d8 s18]))))))
 (.seq (sr [mo 0 d36 s1,qo 1 d37 (.lenv s36),qo 2 d38 (.bin .gtr s37 (vi 0))]
 (.cnd s38 (sr [qo 0 d39 (.ld1 (.g p2)),qo 1 d40 (.bld [(.int .i64 (.ofNat 0)),.nili] [(1,1,s39)]),eo 2 d41 (.box s40 2),qo 3 d42 (.mki 201 s41),mo 4 d6 s42]
 .ret) .skip))
 (sr [mo 0 d43 s0,mo 1 d44 s7,co 2 d45 p177 [s43,s44]]
 (sr [qo 0 d6 (.mv (.v .nili))]
 .ret))))))
 [.t p6]
noncomputable def f138 : FnE := .code 104
 (sr [eo 0 d6 (.box s1 69),eo 1 d9 (.box s4 9),qo 2 d10 (.mv (.v .nils)),mo 3 d11 (vl 0),qo 4 d12 (.mv (.v .nili))]
 (.seq (sr [mo 0 d20 s2,mo 1 d21 s3,co 2 d22 p178 [s20,s21],mo 3 d13 s22]
 (sr [mo 0 d23 s13,qo 1 d24 (.eqp (.iface true) true s23 (.v .nili))]
 (.cnd s24 (sr [mo 0 d25 s13,qo 1 d10 (.mv (.v .nils)),mo 2 d11 (vl 0),mo 3 d12 s25]
 .ret) .skip)))
 (.seq (sr [qo 0 d26 (.ldn s6 69),co 1 d27 p37 [s26],mo 2 d14 s27]
 (sr [mo 0 d28 s14,qo 1 d29 (.eqp (.iface true) true s28 (.v .nili))]
 (.cnd s29 (sr [mo 0 d30 s14,qo 1 d10 (.mv (.v .nils)),mo 2 d11 (vl 0),mo 3 d12 s30]
 .ret) .skip)))
 (.seq (.blk 0 (.seq (.rgd 0 [qo 0 d32 (.fadr s6 0),qo 1 d33 (.fadr s32 65),qo 2 d34 (.ld1 s33),mo 3 d35 s3,mo 4 d36 s3,qo 5 d37 (.lenv s36),qo 6 d38 (.bin .sub s37 (vi 1)),qo 7 d39 (.iadr s35 s38 1),qo 8 d40 (.ld1 s39),qo 9 d41 (.bin .leq s34 s40),mo 10 d31 s41])
 (.cnd s31 (.seq (.rgd 0 [qo 0 d42 (.ld1 (.g p9)),qo 1 d10 (.mv (.v .nils)),mo 2 d11 (vl 0),mo 3 d12 s42])
 .ret) (.seq (.rgd 0 [qo 0 d44 (.fadr s6 68),qo 1 d45 (.ld1 s44),qo 2 d46 (.iadr s45 (vi 0) 4),qo 3 d47 (.fadr s46 1),qo 4 d48 (.ld1 s47),qo 5 d49 (.iadr s48 (vi 0) 35),qo 6 d50 (.fadr s49 33),qo 7 d51 (.ld1 s50),mo 8 d52 s2,qo 9 d53 (.cvi .u32 s52),⟨10,d54,(.call p105 [(.v .nils),s53]),none,[(p45,.ld1 s44,none),(p48,.ld1 s47,none),(p51,.ld1 s50,none)]⟩,co 11 d55 p179 [s51,s54],qo 12 d56 (.not s55),mo 13 d43 s56])
 (.cnd s43 (.seq (.rgd 0 [qo 0 d57 (.ld1 (.g p10)),qo 1 d10 (.mv (.v .nils)),mo 2 d11 (vl 0),mo 3 d12 s57])
 .ret) .skip)))))
 (sr [mo 0 d59 s0,qo 1 d60 (.ldn s6 69),mo 2 d61 s2,mo 3 d62 s3,qo 4 d63 (.ldn s9 9),co 5 d64 p180 [s59,s60,s61,s62,s63],mo 6 d58 s64,qo 7 d65 (.ext s58 0),qo 8 d66 (.ext s58 1),mo 9 d15 s65,mo 10 d16 s66]
 (.seq (sr [mo 0 d67 s16,qo 1 d68 (.eqp (.iface true) true s67 (.v .nili))]
 (.cnd s68 (sr [mo 0 d69 s16,qo 1 d10 (.mv (.v .nils)),mo 2 d11 (vl 0),mo 3 d12 s69]
 .ret) .skip))
 (.seq (sr [qo 0 d71 (.fadr s6 68),qo 1 d72 (.ld1 s71),qo 2 d73 (.iadr s72 (vi 0) 4),qo 3 d74 (.ldn s73 4),co 4 d75 p168 [s74],mo 5 d70 s75,qo 6 d76 (.ext s70 0),qo 7 d77 (.ext s70 1),mo 8 d17 s76,mo 9 d18 s77]
 (sr [mo 0 d78 s18,qo 1 d79 (.not s78),mo 2 d80 s79,⟨3,d81,(.q (.mv s17)),(some (p80,false)),[]⟩,⟨4,d82,(.q (.mv s2)),(some (p80,false)),[]⟩,⟨5,d83,(.q (.fadr s9 0)),(some (p80,false)),[]⟩,⟨6,d84,(.q (.ld1 s83)),(some (p80,false)),[]⟩,⟨7,d85,(.call p181 [s82,s84]),(some (p80,false)),[]⟩,⟨8,d86,(.q (.mv s15)),(some (p80,false)),[]⟩,⟨9,d87,(.q (.bin .add s85 s86)),(some (p80,false)),[]⟩,⟨10,d88,(.q (.bin .gtr s81 s87)),(some (p80,false)),[]⟩,qo 11 d89 (.pick s80 (.v (.bool true)) s88)]
 (.cnd s89 (.seq (.rgd 0 [qo 0 d90 (.ld1 (.g p14)),qo 1 d10 (.mv (.v .nils)),mo 2 d11 (vl 0),mo 3 d12 s90])
 .ret) .skip)))
 (sr [mo 0 d92 s0,mo 1 d93 s2,qo 2 d94 (.fadr s6 68),qo 3 d95 (.ld1 s94),co 4 d96 p182 [s92,s93,s95],mo 5 d91 s96,qo 6 d97 (.ext s91 0),qo 7 d98 (.ext s91 1),mo 8 d19 s97,mo 9 d16 s98]
 (.seq (sr [mo 0 d99 s16,qo 1 d100 (.eqp (.iface true) true s99 (.v .nili))]
 (.cnd s100 (sr [mo 0 d101 s16,qo 1 d10 (.mv (.v .nils)),mo 2 d11 (vl 0),mo 3 d12 s101]
 .ret) .skip))
 (sr [mo 0 d102 s19,mo 1 d103 s15,mo 2 d10 s102,mo 3 d11 s103,qo 4 d12 (.mv (.v .nili))]
 .ret))))))))))
 [.t p10,.t p11,.t p12]
noncomputable def f139 : FnE := .code 8
 (sr [eo 0 d1 (.box s0 69),eo 1 d2 (.alo (lapp [(.int .u32 (.ofNat 0))] (lapp (zz zB 32) [zB,zB,zB,zB,zB,zB,zB,zB,zB,zB,zB,zB,zB,zB,zB,zB,zB,zB,zB,zB,zB,zB,zB,zB,zB,zB,zB,zB,zB,zB,zB,zB,(.int .u32 (.ofNat 0)),(.int .u32 (.ofNat 0)),(.int .u32 (.ofNat 0)),.nils])))]
 (sr [qo 0 d3 (.fadr s1 68),qo 1 d4 (.ld1 s3),co 2 d5 p183 [s4],qo 3 d6 (.fadr s1 68),eo 4 none (.st s6 s5 1)]
 (sr [qo 0 d7 (.ldn s1 69),eo 1 none (.st s2 s7 69)]
 .ret)))
 [.cn p2 69]
noncomputable def f141 : FnE := .code 20
 (sr [mo 0 d2 (vi 0)]
 (sr [co 0 d5 p184 [],mo 1 d3 s5]
 (.seq (sr [mo 0 d4 (vi 0)]
 (.blk 0 (.loop (.seq (sr [mo 0 d6 s4,mo 1 d7 s3,qo 2 d8 (.lenv s7),qo 3 d9 (.bin .lss s6 s8)]
 (.cnd s9 .skip (.exit 0)))
 (.seq (.blk 1 (sr [mo 0 d12 s0,mo 1 d13 s3,mo 2 d14 s4,qo 3 d15 (.iadr s13 s14 1),qo 4 d16 (.ld1 s15),co 5 d17 p185 [s12,s16]]
 (.cnd s17 (sr [mo 0 d18 s4,qo 1 d19 (.bin .add (vi 101) s18),mo 2 d2 s19]
 .ret) .skip)))
 (.reg [mo 0 d10 s4,qo 1 d11 (.bin .add s10 (vi 1)),mo 2 d4 s11]))))))
 (sr [qo 0 d2 (.mv (.v (.int .i64 (.negSucc 0))))]
 .ret))))
 [.t p2]
noncomputable def f149 : FnE := .code 14
 (sr [qo 0 d4 (.ld1 s1),eo 1 d5 (.rgm s4)]
 (.blk 0 (.loop (sr [eo 0 d6 (.nxm s5),qo 1 d7 (.ext s6 0)]
 (.seq (.cnd s7 .skip (.exit 0))
 (.blk 1 (sr [eo 0 d8 (.ent s5),qo 1 d9 (.ext s8 0),eo 2 d3 (.alo (lapp (zz zB 32) [(.int .u32 (.ofNat 0))])),eo 3 none (.st s3 s9 33)]
 (sr [mo 0 d10 s0,qo 1 d11 (.ldn s3 33),o 2 d12 (.callv s10 [s11]),qo 3 d13 (.not s12)]
 (.cnd s13 .ret .skip)))))))))
 []
noncomputable def f150 : FnE := .code 2
 (sr [eo 0 d0 (.alo (zz (.int .u32 (.ofNat 0)) 8))]
 (sr [qo 0 d1 (.bld (zz (.int .u32 (.ofNat 0)) 8) [(0,1,(vw 1779033703)),(1,1,(vw 3144134277)),(2,1,(vw 1013904242)),(3,1,(vw 2773480762)),(4,1,(vw 1359893119)),(5,1,(vw 2600822924)),(6,1,(vw 528734635)),(7,1,(vw 1541459225))]),eo 1 none (.st s0 s1 8)]
 .ret))
 [.cn p0 8]
noncomputable def f151 : FnE := .code 80
 (sr [eo 0 d2 (.alo (zz (.int .u32 (.ofNat 0)) 64))]
 (sr [eo 0 d3 (.alo (zz (.int .u32 (.ofNat 0)) 64))]
 (.seq (sr [mo 0 d8 (vi 0)]
 (.blk 0 (.loop (sr [qo 0 d9 (.bin .lss s8 (vi 64))]
 (.seq (.cnd s9 .skip (.exit 0))
 (.seq (.blk 1 (sr [mo 0 d10 s8,mo 1 d4 s10]
 (.seq (sr [mo 0 d11 s4,qo 1 d12 (.bin .lss s11 (vi 16))]
 (.cnd s12 (sr [mo 0 d13 s0,mo 1 d14 s4,qo 2 d15 (.bin .mul (vi 4) s14),qo 3 d16 (.slc s13 (some s15) none 1),mo 4 d5 s16]
 (.seq (.rgd 0 [mo 0 d17 s4,mo 1 d18 s5,qo 2 d19 (.iadr s18 (vi 0) 1),qo 3 d20 (.ld1 s19),qo 4 d21 (.cvi .u32 s20),qo 5 d22 (.shf true s21 (vl 24)),mo 6 d23 s5,qo 7 d24 (.iadr s23 (vi 1) 1),qo 8 d25 (.ld1 s24),qo 9 d26 (.cvi .u32 s25),qo 10 d27 (.shf true s26 (vl 16)),qo 11 d28 (.bin .or s22 s27),mo 12 d29 s5,qo 13 d30 (.iadr s29 (vi 2) 1),qo 14 d31 (.ld1 s30),qo 15 d32 (.cvi .u32 s31),qo 16 d33 (.shf true s32 (vl 8)),qo 17 d34 (.bin .or s28 s33),mo 18 d35 s5,qo 19 d36 (.iadr s35 (vi 3) 1),qo 20 d37 (.ld1 s36),qo 21 d38 (.cvi .u32 s37),qo 22 d39 (.bin .or s34 s38),qo 23 d40 (.iada s3 s17 1 64),eo 24 none (.st s40 s39 1)])
 (.exit 1))) .skip))
 (.seq (.rgd 0 [mo 0 d41 s4,qo 1 d42 (.bin .sub s41 (vi 2)),qo 2 d43 (.iada s3 s42 1 64),qo 3 d44 (.ld1 s43),mo 4 d45 s4,qo 5 d46 (.bin .sub s45 (vi 15)),qo 6 d47 (.iada s3 s46 1 64),qo 7 d48 (.ld1 s47),mo 8 d6 s44,mo 9 d7 s48])
 (.rgd 0 [mo 0 d49 s4,mo 1 d50 s6,mo 3 d52 s6,mo 6 d55 s6,qo 7 d56 (.shf false s55 (vl 10)),mo 9 d58 s4,qo 10 d59 (.bin .sub s58 (vi 7)),qo 11 d60 (.iada s3 s59 1 64),qo 12 d61 (.ld1 s60),mo 14 d63 s7,mo 16 d65 s7,mo 19 d68 s7,qo 20 d69 (.shf false s68 (vl 3)),mo 23 d72 s4,qo 24 d73 (.bin .sub s72 (vi 16)),qo 25 d74 (.iada s3 s73 1 64),qo 26 d75 (.ld1 s74),⟨2,d51,(.call p153 [s50,(vi 17)]),none,[(p61,.ld1 s60,none),(p75,.ld1 s74,none)]⟩,⟨4,d53,(.call p153 [s52,(vi 19)]),none,[(p61,.ld1 s60,none),(p75,.ld1 s74,none)]⟩,qo 5 d54 (.bin .xor s51 s53),qo 8 d57 (.bin .xor s54 s56),qo 13 d62 (.bin .add s57 s61),⟨15,d64,(.call p153 [s63,(vi 7)]),none,[(p61,.ld1 s60,none),(p75,.ld1 s74,none)]⟩,⟨17,d66,(.call p153 [s65,(vi 18)]),none,[(p61,.ld1 s60,none),(p75,.ld1 s74,none)]⟩,qo 18 d67 (.bin .xor s64 s66),qo 21 d70 (.bin .xor s67 s69),qo 22 d71 (.bin .add s62 s70),qo 27 d76 (.bin .add s71 s75),qo 28 d77 (.iada s3 s49 1 64),eo 29 none (.st s77 s76 1)])))))
 (.reg [qo 0 d78 (.bin .add s8 (vi 1)),mo 1 d8 s78])))))))
 (sr [qo 0 d79 (.ldn s3 64),eo 1 none (.st s2 s79 64)]
 .ret))))
 [.cn p2 64]
noncomputable def f152 : FnE := .code 2
 (sr [eo 0 d0 (.alo (zz (.int .u32 (.ofNat 0)) 64))]
 (sr [qo 0 d1 (.bld (zz (.int .u32 (.ofNat 0)) 64) [(0,1,(vw 1116352408)),(1,1,(vw 1899447441)),(2,1,(vw 3049323471)),(3,1,(vw 3921009573)),(4,1,(vw 961987163)),(5,1,(vw 1508970993)),(6,1,(vw 2453635748)),(7,1,(vw 2870763221)),(8,1,(vw 3624381080)),(9,1,(vw 310598401)),(10,1,(vw 607225278)),(11,1,(vw 1426881987)),(12,1,(vw 1925078388)),(13,1,(vw 2162078206)),(14,1,(vw 2614888103)),(15,1,(vw 3248222580)),(16,1,(vw 3835390401)),(17,1,(vw 4022224774)),(18,1,(vw 264347078)),(19,1,(vw 604807628)),(20,1,(vw 770255983)),(21,1,(vw 1249150122)),(22,1,(vw 1555081692)),(23,1,(vw 1996064986)),(24,1,(vw 2554220882)),(25,1,(vw 2821834349)),(26,1,(vw 2952996808)),(27,1,(vw 3210313671)),(28,1,(vw 3336571891)),(29,1,(vw 3584528711)),(30,1,(vw 113926993)),(31,1,(vw 338241895)),(32,1,(vw 666307205)),(33,1,(vw 773529912)),(34,1,(vw 1294757372)),(35,1,(vw 1396182291)),(36,1,(vw 1695183700)),(37,1,(vw 1986661051)),(38,1,(vw 2177026350)),(39,1,(vw 2456956037)),(40,1,(vw 2730485921)),(41,1,(vw 2820302411)),(42,1,(vw 3259730800)),(43,1,(vw 3345764771)),(44,1,(vw 3516065817)),(45,1,(vw 3600352804)),(46,1,(vw 4094571909)),(47,1,(vw 275423344)),(48,1,(vw 430227734)),(49,1,(vw 506948616)),(50,1,(vw 659060556)),(51,1,(vw 883997877)),(52,1,(vw 958139571)),(53,1,(vw 1322822218)),(54,1,(vw 1537002063)),(55,1,(vw 1747873779)),(56,1,(vw 1955562222)),(57,1,(vw 2024104815)),(58,1,(vw 2227730452)),(59,1,(vw 2361852424)),(60,1,(vw 2428436474)),(61,1,(vw 2756734187)),(62,1,(vw 3204031479)),(63,1,(vw 3329325298))]),eo 1 none (.st s0 s1 64)]
 .ret))
 [.cn p0 64]
noncomputable def f153 : FnE := .code 9
 (sr [mo 0 d4 (vw 0)]
 (sr [mo 0 d5 s0,mo 1 d6 s1,qo 2 d7 (.neg s6),co 3 d8 p191 [s5,s7],mo 4 d4 s8]
 .ret))
 [.t p4]
noncomputable def f154 : FnE := .code 19
 (sr [qo 0 d6 (.mv (.v .nils))]
 (.seq (sr [mo 0 d7 s2,mo 1 d8 (vi 0)]
 (.blk 0 (.loop (sr [qo 0 d9 (.bin .lss s8 s7)]
 (.seq (.cnd s9 .skip (.exit 0))
 (.seq (.blk 1 (sr [mo 0 d10 s0,mo 1 d11 s1,qo 2 d12 (.cvi .u8 s11),eo 3 d13 (.bsl [zB] [(0,1,s12)] 1 1),eo 4 d14 (.app s10 s13 1 1 false),mo 5 d0 s14]
 (.reg [mo 0 d15 s1,qo 1 d16 (.shf false s15 (vl 8)),mo 2 d1 s16])))
 (.reg [qo 0 d17 (.bin .add s8 (vi 1)),mo 1 d8 s17])))))))
 (sr [mo 0 d18 s0,mo 1 d6 s18]
 .ret)))
 [.t p6]
noncomputable def f155 : FnE := .code 28
 (sr [mo 0 d4 s0,qo 1 d5 (.lenv s4),qo 2 d6 (.bin .sub s5 (vi 1)),mo 3 d2 (vi 0),mo 4 d3 s6]
 (.blk 0 (.loop (.seq (sr [mo 0 d7 s2,mo 1 d8 s3,qo 2 d9 (.bin .lss s7 s8)]
 (.cnd s9 .skip (.exit 0)))
 (.seq (.blk 1 (.rgd 0 [mo 0 d14 s0,mo 1 d15 s2,mo 2 d16 s0,mo 3 d17 s3,mo 4 d18 s0,mo 5 d19 s3,qo 6 d20 (.iadr s18 s19 1),qo 7 d21 (.ld1 s20),mo 8 d22 s0,mo 9 d23 s2,qo 10 d24 (.iadr s22 s23 1),qo 11 d25 (.ld1 s24),qo 12 d26 (.iadr s14 s15 1),eo 13 none (.st s26 s21 1),qo 14 d27 (.iadr s16 s17 1),eo 15 none (.st s27 s25 1)]))
 (.reg [mo 0 d10 s2,qo 1 d11 (.bin .add s10 (vi 1)),mo 2 d12 s3,qo 3 d13 (.bin .sub s12 (vi 1)),mo 4 d2 s11,mo 5 d3 s13]))))))
 []
noncomputable def f156 : FnE := .code 8
 (sr [qo 0 d2 (.mv (.v .nils))]
 (.seq (sr [mo 0 d3 s0,qo 1 d4 (.eqp .slice false s3 (.v .nils))]
 (.cnd s4 (sr [qo 0 d2 (.mv (.v .nils))]
 .ret) .skip))
 (sr [eo 0 d5 (.bsl [] [] 0 1),mo 1 d6 s0,eo 2 d7 (.app s5 s6 1 4 false),mo 3 d2 s7]
 .ret)))
 [.t p2]
noncomputable def f157 : FnE := .code 11
 (sr [mo 0 d3 s0,qo 1 d4 (.lenv s3),mo 2 d2 s4]
 (.reg [mo 0 d5 s0,mo 1 d6 s2,mo 2 d7 s2,qo 3 d8 (.cvi .u64 s7),co 4 d9 p190 [s8],co 5 d10 p192 [s5,(vi 0),s6,s9]]))
 []
noncomputable def f160 : FnE := .code 6
 (sr [eo 0 d1 (.box s0 4),eo 1 d2 (.alo (zz zB 32))]
 (sr [qo 0 d3 (.ldn s1 4),co 1 d4 p164 [s3],co 2 d5 p117 [s4],eo 3 none (.st s2 s5 32)]
 .ret))
 [.cn p2 32]
noncomputable def f162 : FnE := .code 49
 (sr [qo 0 d4 (.mv (.v .nils))]
 (.seq (sr [mo 0 d5 s0,qo 1 d6 (.nck s5),qo 2 d7 (.fadr s6 2),qo 3 d8 (.ld1 s7),qo 4 d9 (.eqp (.iface true) true s8 (.v .nili))]
 (.cnd s9 (sr [qo 0 d4 (.mv (.v .nils))]
 .ret) .skip))
 (.seq (.seq (.rgd 0 [mo 0 d10 s1,mo 1 d11 s0,qo 2 d12 (.nck s11),qo 3 d13 (.fadr s12 0),qo 4 d14 (.ld1 s13),qo 5 d15 (.lenv s14),mo 6 d16 s0,qo 7 d17 (.nck s16),qo 8 d18 (.fadr s17 1),qo 9 d19 (.ld1 s18),qo 10 d20 (.bin .sub s15 s19),qo 11 d21 (.bin .gtr s10 s20)])
 (.cnd s21 (sr [mo 0 d22 s0,qo 1 d23 (.ld1 (.g p15)),qo 2 d24 (.nck s22),qo 3 d25 (.fadr s24 2),eo 4 none (.st s25 s23 1)]
 (sr [qo 0 d4 (.mv (.v .nils))]
 .ret)) .skip))
 (sr [mo 0 d26 s0,qo 1 d27 (.nck s26),qo 2 d28 (.fadr s27 1),qo 3 d29 (.ld1 s28),mo 4 d30 s1,qo 5 d31 (.bin .add s29 s30),qo 6 d32 (.nck s26),qo 7 d33 (.fadr s32 1),eo 8 none (.st s33 s31 1)]
 (.seq (.rgd 0 [mo 0 d34 s0,qo 1 d35 (.nck s34),qo 2 d36 (.fadr s35 0),qo 3 d37 (.ld1 s36),mo 4 d38 s0,qo 5 d39 (.nck s38),qo 6 d40 (.fadr s39 1),qo 7 d41 (.ld1 s40),mo 8 d42 s1,qo 9 d43 (.bin .sub s41 s42),mo 10 d44 s0,qo 11 d45 (.nck s44),qo 12 d46 (.fadr s45 1),qo 13 d47 (.ld1 s46),qo 14 d48 (.slc s37 (some s43) (some s47) 1),mo 15 d4 s48])
 .ret)))))
 [.t p4]
noncomputable def f163 : FnE := .code 38
 (sr [qo 0 d4 (.mv (.v .nils))]
 (sr [mo 0 d7 s0,co 1 d8 p104 [s7],mo 2 d5 s8]
 (.seq (sr [mo 0 d9 s1,co 1 d10 p124 [s9],mo 2 d6 s10]
 (sr [mo 0 d11 s6]
 (.blk 0 (sr [qo 0 d13 (.bin .eql s11 (vi 1)),mo 1 d12 s13]
 (.cnd s12 (sr [mo 0 d14 s5,mo 1 d15 s1,qo 2 d16 (.cvi .u8 s15),eo 3 d17 (.bsl [zB] [(0,1,s16)] 1 1),eo 4 d18 (.app s14 s17 1 1 false),mo 5 d4 s18]
 .ret) (sr [qo 0 d20 (.bin .eql s11 (vi 3)),mo 1 d19 s20]
 (.cnd s19 (sr [mo 0 d21 s5,eo 1 d22 (.bsl [zB] [(0,1,(v8 253))] 1 1),eo 2 d23 (.app s21 s22 1 1 false),mo 3 d24 s1,co 4 d25 p154 [s23,s24,(vi 2)],mo 5 d4 s25]
 .ret) (sr [qo 0 d27 (.bin .eql s11 (vi 5)),mo 1 d26 s27]
 (.cnd s26 (sr [mo 0 d28 s5,eo 1 d29 (.bsl [zB] [(0,1,(v8 254))] 1 1),eo 2 d30 (.app s28 s29 1 1 false),mo 3 d31 s1,co 4 d32 p154 [s30,s31,(vi 4)],mo 5 d4 s32]
 .ret) .skip)))))))))
 (sr [mo 0 d33 s5,eo 1 d34 (.bsl [zB] [(0,1,(v8 255))] 1 1),eo 2 d35 (.app s33 s34 1 1 false),mo 3 d36 s1,co 4 d37 p154 [s35,s36,(vi 8)],mo 5 d4 s37]
 .ret))))
 [.t p4]
noncomputable def f164 : FnE := .code 72
 (sr [eo 0 d1 (.box s0 4),qo 1 d2 (.mv (.v .nils))]
 (sr [qo 0 d8 (.fadr s1 0),qo 1 d9 (.ld1 s8),co 2 d10 p105 [(.v .nils),s9],mo 3 d3 s10]
 (sr [mo 0 d11 s3,qo 1 d12 (.fadr s1 1),qo 2 d13 (.ld1 s12),qo 3 d14 (.lenv s13),qo 4 d15 (.cvi .u64 s14),co 5 d16 p163 [s11,s15],mo 6 d3 s16]
 (.seq (sr [qo 0 d17 (.fadr s1 1),qo 1 d18 (.ld1 s17),qo 2 d19 (.lenv s18),mo 3 d20 (vi 0)]
 (.blk 0 (.loop (sr [qo 0 d21 (.bin .lss s20 s19)]
 (.seq (.cnd s21 .skip (.exit 0))
 (.seq (.blk 1 (sr [qo 0 d22 (.iadr s18 s20 35),qo 1 d23 (.ldn s22 35),eo 2 d5 (.alo (lapp (zz zB 32) [(.int .u32 (.ofNat 0)),.nils,(.int .u32 (.ofNat 0))])),eo 3 none (.st s5 s23 35)]
 (.seq (.rgd 0 [mo 0 d24 s3,qo 1 d25 (.fadr s5 0),qo 2 d26 (.fadr s25 0),qo 3 d27 (.slca s26 none none 1 32),qo 5 d29 (.fadr s5 0),qo 6 d30 (.fadr s29 32),qo 7 d31 (.ld1 s30),⟨4,d28,(.e (.app s24 s27 1 1 false)),none,[(p31,.ld1 s30,none)]⟩,co 8 d32 p105 [s28,s31],mo 9 d3 s32])
 (.seq (.rgd 0 [mo 0 d33 s3,qo 1 d34 (.fadr s5 33),qo 2 d35 (.ld1 s34),qo 3 d36 (.lenv s35),qo 4 d37 (.cvi .u64 s36),qo 6 d39 (.fadr s5 33),qo 7 d40 (.ld1 s39),⟨5,d38,(.call p163 [s33,s37]),none,[(p40,.ld1 s39,none)]⟩,eo 8 d41 (.app s38 s40 1 1 false),mo 9 d3 s41])
 (.reg [mo 0 d42 s3,qo 1 d43 (.fadr s5 34),qo 2 d44 (.ld1 s43),co 3 d45 p105 [s42,s44],mo 4 d3 s45])))))
 (.reg [qo 0 d46 (.bin .add s20 (vi 1)),mo 1 d20 s46])))))))
 (sr [mo 0 d47 s3,qo 1 d48 (.fadr s1 2),qo 2 d49 (.ld1 s48),qo 3 d50 (.lenv s49),qo 4 d51 (.cvi .u64 s50),co 5 d52 p163 [s47,s51],mo 6 d3 s52]
 (.seq (sr [qo 0 d53 (.fadr s1 2),qo 1 d54 (.ld1 s53),qo 2 d55 (.lenv s54),mo 3 d56 (vi 0)]
 (.blk 2 (.loop (sr [qo 0 d57 (.bin .lss s56 s55)]
 (.seq (.cnd s57 .skip (.exit 2))
 (.seq (.blk 3 (sr [qo 0 d58 (.iadr s54 s56 33),qo 1 d59 (.ldn s58 33),eo 2 d7 (.alo (lapp [(.int .u64 (.ofNat 0))] (zz zB 32))),eo 3 none (.st s7 s59 33)]
 (.rgd 0 [mo 0 d60 s3,qo 1 d61 (.fadr s7 0),qo 2 d62 (.ld1 s61),qo 4 d64 (.fadr s7 1),qo 5 d65 (.slca s64 none none 1 32),⟨3,d63,(.call p106 [s60,s62]),none,[(p65,.slca s64 none none 1 32,none)]⟩,eo 6 d66 (.app s63 s65 1 1 false),mo 7 d3 s66])))
 (.reg [qo 0 d67 (.bin .add s56 (vi 1)),mo 1 d56 s67])))))))
 (sr [mo 0 d68 s3,qo 1 d69 (.fadr s1 3),qo 2 d70 (.ld1 s69),co 3 d71 p105 [s68,s70],mo 4 d2 s71]
 .ret)))))))
 [.t p2]
noncomputable def f165 : FnE := .code 6
 (sr [eo 0 d1 (.box s0 4),mo 1 d2 (vi 0)]
 (sr [qo 0 d3 (.ldn s1 4),co 1 d4 p164 [s3],qo 2 d5 (.lenv s4),mo 3 d2 s5]
 .ret))
 [.t p2]
noncomputable def f166 : FnE := .code 9
 (sr [qo 0 d4 (.mv (.v (.bool false)))]
 (sr [mo 0 d5 s0,mo 1 d6 s1,co 2 d7 p195 [s5,s6],qo 3 d8 (.bin .geq s7 (vi 0)),mo 4 d4 s8]
 .ret))
 [.t p4]
noncomputable def f167 : FnE := .code 7
 (sr [eo 0 d1 (.box s0 35),qo 1 d2 (.mv (.v (.bool false)))]
 (sr [qo 0 d3 (.fadr s1 33),qo 1 d4 (.ld1 s3),qo 2 d5 (.lenv s4),qo 3 d6 (.bin .gtr s5 (vi 80)),mo 4 d2 s6]
 .ret))
 [.t p2]
noncomputable def f168 : FnE := .code 9
 (sr [eo 0 d1 (.box s0 4),mo 1 d2 (vl 0),qo 2 d3 (.mv (.v (.bool false)))]
 (sr [qo 0 d4 (.ldn s1 4),co 1 d5 p197 [s4],co 2 d6 p196 [s5],qo 3 d7 (.ext s6 0),qo 4 d8 (.ext s6 1),mo 5 d2 s7,mo 6 d3 s8]
 .ret))
 [.t p2,.t p3]
noncomputable def f169 : FnE := .code 22
 (sr [eo 0 d1 (.box s0 4),qo 1 d2 (.mv (.v (.bool false)))]
 (sr [eo 0 d6 (.mkm (.cells [.u8,.u8,.u8,.u8,.u8,.u8,.u8,.u8,.u8,.u8,.u8,.u8,.u8,.u8,.u8,.u8,.u8,.u8,.u8,.u8,.u8,.u8,.u8,.u8,.u8,.u8,.u8,.u8,.u8,.u8,.u8,.u8,.u32])),mo 1 d3 s6]
 (.seq (sr [qo 0 d7 (.fadr s1 1),qo 1 d8 (.ld1 s7),qo 2 d9 (.lenv s8),mo 3 d10 (vi 0)]
 (.blk 0 (.loop (sr [qo 0 d11 (.bin .lss s10 s9)]
 (.seq (.cnd s11 .skip (.exit 0))
 (.seq (.blk 1 (sr [qo 0 d12 (.iadr s8 s10 35),qo 1 d13 (.ldn s12 35),eo 2 d5 (.alo (lapp (zz zB 32) [(.int .u32 (.ofNat 0)),.nils,(.int .u32 (.ofNat 0))])),eo 3 none (.st s5 s13 35)]
 (.seq (sr [mo 0 d14 s3,qo 1 d15 (.fadr s5 0),qo 2 d16 (.ldn s15 33),qo 3 d17 (.lkp s14 s16 (.cells [.u8,.u8,.u8,.u8,.u8,.u8,.u8,.u8,.u8,.u8,.u8,.u8,.u8,.u8,.u8,.u8,.u8,.u8,.u8,.u8,.u8,.u8,.u8,.u8,.u8,.u8,.u8,.u8,.u8,.u8,.u8,.u8,.u32]) (.bool false) false)]
 (.cnd s17 (sr [qo 0 d2 (.mv (.v (.bool true)))]
 .ret) .skip))
 (.reg [mo 0 d18 s3,qo 1 d19 (.fadr s5 0),qo 2 d20 (.ldn s19 33),eo 3 none (.mup s18 s20 (.v (.bool true)) (.cells [.u8,.u8,.u8,.u8,.u8,.u8,.u8,.u8,.u8,.u8,.u8,.u8,.u8,.u8,.u8,.u8,.u8,.u8,.u8,.u8,.u8,.u8,.u8,.u8,.u8,.u8,.u8,.u8,.u8,.u8,.u8,.u8,.u32]))]))))
 (.reg [qo 0 d21 (.bin .add s10 (vi 1)),mo 1 d10 s21])))))))
 (sr [qo 0 d2 (.mv (.v (.bool false)))]
 .ret))))
 [.t p2]
noncomputable def f170 : FnE := .code 17
 (sr [eo 0 d1 (.box s0 4),qo 1 d2 (.mv (.v .nili))]
 (.seq (sr [qo 0 d3 (.ldn s1 4),co 1 d4 p129 [s3]]
 (.cnd s4 (.seq (sr [qo 0 d5 (.fadr s1 1),qo 1 d6 (.ld1 s5),qo 2 d7 (.iadr s6 (vi 0) 35),qo 3 d8 (.fadr s7 33),qo 4 d9 (.ld1 s8),qo 5 d10 (.lenv s9),qo 6 d11 (.bin .lss s10 (vi 4))]
 (.cnd s11 (sr [qo 0 d12 (.ld1 (.g p10)),mo 1 d2 s12]
 .ret) .skip))
 (sr [qo 0 d2 (.mv (.v .nili))]
 .ret)) .skip))
 (.seq (sr [qo 0 d13 (.fadr s1 1),qo 1 d14 (.ld1 s13),co 2 d15 p166 [s14,(.f 198)]]
 (.cnd s15 (sr [qo 0 d16 (.ld1 (.g p10)),mo 1 d2 s16]
 .ret) .skip))
 (sr [qo 0 d2 (.mv (.v .nili))]
 .ret))))
 [.t p2]
noncomputable def f171 : FnE := .code 6
 (sr [eo 0 d1 (.box s0 33),qo 1 d2 (.mv (.v (.bool false)))]
 (.seq (.rgd 0 [qo 0 d3 (.ldn s1 33),⟨1,d4,(.call p113 []),none,[(p3,.ldn s1 33,none)]⟩,qo 2 d5 (.eqa false [.u8,.u8,.u8,.u8,.u8,.u8,.u8,.u8,.u8,.u8,.u8,.u8,.u8,.u8,.u8,.u8,.u8,.u8,.u8,.u8,.u8,.u8,.u8,.u8,.u8,.u8,.u8,.u8,.u8,.u8,.u8,.u8,.u32] s3 s4),mo 3 d2 s5])
 .ret))
 [.t p2]
noncomputable def f172 : FnE := .code 14
 (sr [qo 0 d4 (.ld1 s1),eo 1 d5 (.rgm s4)]
 (.blk 0 (.loop (sr [eo 0 d6 (.nxm s5),qo 1 d7 (.ext s6 0)]
 (.seq (.cnd s7 .skip (.exit 0))
 (.blk 1 (sr [eo 0 d8 (.ent s5),qo 1 d9 (.ext s8 0),eo 2 d3 (.alo (zz zB 32)),eo 3 none (.st s3 s9 32)]
 (sr [mo 0 d10 s0,qo 1 d11 (.ldn s3 32),o 2 d12 (.callv s10 [s11]),qo 3 d13 (.not s12)]
 (.cnd s13 .ret .skip)))))))))
 []
noncomputable def f173 : FnE := .code 14
 (sr [mo 0 d5 s0,qo 1 d6 (.lenv s5),mo 2 d4 s6]
 (.reg [mo 0 d7 s0,mo 1 d8 s4,mo 2 d9 s4,qo 3 d10 (.cvi .u64 s9),co 4 d11 p190 [s10],mo 5 d12 s1,co 6 d13 p199 [s7,(vi 0),s8,s11,s12]]))
 []
noncomputable def f174 : FnE := .code 5
 (sr [qo 0 d2 (.mv (.v .nils))]
 (sr [mo 0 d3 s0,co 1 d4 p200 [(.v .nils),s3],mo 2 d2 s4]
 .ret))
 [.t p2]
noncomputable def f176 : FnE := .code 104
 (sr [eo 0 d5 (.box s2 4),qo 1 d6 (.mv (.v .nils)),qo 2 d7 (.mv (.v .nili))]
 (sr [qo 0 d16 (.ldn s5 4),co 1 d17 p160 [s16],eo 2 d8 (.alo (zz zB 32)),eo 3 none (.st s8 s17 32)]
 (.seq (sr [qo 0 d18 (.fadr s5 2),qo 1 d19 (.ld1 s18),qo 2 d20 (.lenv s19),mo 3 d21 (vi 0)]
 (.blk 0 (.loop (sr [qo 0 d22 (.bin .lss s21 s20)]
 (.seq (.cnd s22 .skip (.exit 0))
 (.seq (.blk 1 (sr [mo 0 d23 s21,qo 1 d24 (.iadr s19 s21 33),qo 2 d25 (.ldn s24 33),eo 3 d10 (.alo (lapp [(.int .u64 (.ofNat 0))] (zz zB 32))),mo 4 d9 s23,eo 5 none (.st s10 s25 33)]
 (sr [mo 0 d27 s0,qo 1 d28 (.ldn s8 32),mo 2 d29 s9,qo 3 d30 (.cvi .u32 s29),qo 4 d31 (.bld (lapp (zz zB 32) [(.int .u32 (.ofNat 0))]) [(0,32,s28),(32,1,s30)]),co 5 d32 p202 [s27,s31],mo 6 d26 s32,qo 7 d33 (.ext s26 0),qo 8 d34 (.ext s26 1),eo 9 d11 (.alo (lapp [(.int .u64 (.ofNat 0))] (lapp (zz zB 32) [(.int .i64 (.ofNat 0)),(.bool false)]))),eo 10 none (.st s11 s33 35),mo 11 d12 s34]
 (.seq (sr [mo 0 d35 s12,qo 1 d36 (.eqp (.iface true) true s35 (.v .nili))]
 (.cnd s36 (sr [mo 0 d37 s12,qo 1 d6 (.mv (.v .nils)),mo 2 d7 s37]
 .ret) .skip))
 (sr [qo 0 d38 (.fadr s11 0),qo 1 d39 (.ld1 s38),qo 2 d40 (.fadr s10 0),qo 3 d41 (.ld1 s40),qo 4 d42 (.bin .neq s39 s41),mo 5 d43 s42,⟨6,d44,(.q (.fadr s11 1)),(some (p43,false)),[]⟩,⟨7,d45,(.q (.ldn s44 32)),(some (p43,false)),[]⟩,⟨8,d46,(.q (.fadr s10 1)),(some (p43,false)),[]⟩,⟨9,d47,(.q (.ldn s46 32)),(some (p43,false)),[]⟩,⟨10,d48,(.q (.eqa true (kk .u8 32) s45 s47)),(some (p43,false)),[]⟩,qo 11 d49 (.pick s43 (.v (.bool true)) s48)]
 (.cnd s49 (.seq (.rgd 0 [qo 0 d50 (.ld1 (.g p2)),qo 1 d6 (.mv (.v .nils)),mo 2 d7 s50])
 .ret) .skip))))))
 (.reg [qo 0 d51 (.bin .add s21 (vi 1)),mo 1 d21 s51])))))))
 (.seq (sr [qo 0 d52 (.fadr s5 1),qo 1 d53 (.ld1 s52),qo 2 d54 (.lenv s53),qo 3 d55 (.bin .sub s54 (vi 1)),mo 4 d13 s55]
 (.blk 2 (.loop (.seq (sr [mo 0 d56 s13,qo 1 d57 (.bin .geq s56 (vi 0)),mo 2 d58 s57,⟨3,d59,(.q (.ldn s5 4)),(some (p58,true)),[]⟩,⟨4,d60,(.call p129 [s59]),(some (p58,true)),[]⟩,⟨5,d61,(.q (.not s60)),(some (p58,true)),[]⟩,qo 6 d62 (.pick s58 s61 (.v (.bool false)))]
 (.cnd s62 .skip (.exit 2)))
 (.seq (.blk 3 (sr [mo 0 d65 s1,qo 1 d66 (.lenv s65),qo 2 d67 (.bin .sub s66 (vi 1)),mo 3 d14 s67]
 (.seq (.seq (.rgd 0 [mo 0 d68 s14,qo 1 d69 (.bin .lss s68 (vi 0)),mo 2 d70 s69,⟨3,d71,(.q (.mv s1)),(some (p70,false)),[]⟩,⟨4,d72,(.q (.mv s14)),(some (p70,false)),[]⟩,⟨5,d73,(.q (.iadr s71 s72 68)),(some (p70,false)),[]⟩,⟨6,d74,(.q (.fadr s73 0)),(some (p70,false)),[]⟩,⟨7,d75,(.q (.ldn s74 33)),(some (p70,false)),[]⟩,⟨8,d76,(.q (.fadr s5 1)),(some (p70,false)),[]⟩,⟨9,d77,(.q (.ld1 s76)),(some (p70,false)),[]⟩,⟨10,d78,(.q (.mv s13)),(some (p70,false)),[]⟩,⟨11,d79,(.q (.iadr s77 s78 35)),(some (p70,false)),[]⟩,⟨12,d80,(.q (.fadr s79 0)),(some (p70,false)),[]⟩,⟨13,d81,(.q (.ldn s80 33)),(some (p70,false)),[]⟩,⟨14,d82,(.q (.eqa true [.u8,.u8,.u8,.u8,.u8,.u8,.u8,.u8,.u8,.u8,.u8,.u8,.u8,.u8,.u8,.u8,.u8,.u8,.u8,.u8,.u8,.u8,.u8,.u8,.u8,.u8,.u8,.u8,.u8,.u8,.u8,.u8,.u32] s75 s81)),(some (p70,false)),[]⟩,qo 15 d83 (.pick s70 (.v (.bool true)) s82)])
 (.cnd s83 (.seq (.rgd 0 [qo 0 d84 (.ld1 (.g p2)),qo 1 d6 (.mv (.v .nils)),mo 2 d7 s84])
 .ret) .skip))
 (.seq (.seq (.rgd 0 [mo 0 d85 s0,mo 1 d86 s1,mo 2 d87 s14,qo 3 d88 (.iadr s86 s87 68),qo 4 d89 (.fadr s88 0),qo 5 d90 (.ldn s89 33),mo 6 d91 s1,mo 7 d92 s14,qo 8 d93 (.iadr s91 s92 68),qo 9 d94 (.fadr s93 33),qo 10 d95 (.ldn s94 35),co 11 d96 p203 [s85,s90,s95],mo 12 d15 s96])
 (sr [mo 0 d97 s15,qo 1 d98 (.eqp (.iface true) true s97 (.v .nili))]
 (.cnd s98 (sr [mo 0 d99 s15,qo 1 d6 (.mv (.v .nils)),mo 2 d7 s99]
 .ret) .skip)))
 (.reg [mo 0 d100 s1,mo 1 d101 s14,qo 2 d102 (.slc s100 none (some s101) 68),mo 3 d1 s102])))))
 (.reg [mo 0 d63 s13,qo 1 d64 (.bin .sub s63 (vi 1)),mo 2 d13 s64]))))))
 (sr [mo 0 d103 s1,mo 1 d6 s103,qo 2 d7 (.mv (.v .nili))]
 .ret)))))
 [.t p6,.t p7]
noncomputable def f177 : FnE := .code 12
 (.reg [mo 0 d4 s0,mo 1 d5 s1,qo 2 d6 (.nck s5),qo 3 d7 (.fadr s6 0),qo 4 d8 (.ld1 s7),co 5 d9 p98 [s8],qo 6 d10 (.nck s4),qo 7 d11 (.fadr s10 0),eo 8 none (.st s11 s9 1)])
 []
noncomputable def f178 : FnE := .code 14
 (sr [qo 0 d4 (.mv (.v .nili))]
 (.seq (sr [mo 0 d5 s0,qo 1 d6 (.bin .lss s5 (vi 1)),mo 2 d7 s6,⟨3,d8,(.q (.mv s1)),(some (p7,false)),[]⟩,⟨4,d9,(.q (.lenv s8)),(some (p7,false)),[]⟩,⟨5,d10,(.q (.mv s0)),(some (p7,false)),[]⟩,⟨6,d11,(.q (.bin .neq s9 s10)),(some (p7,false)),[]⟩,qo 7 d12 (.pick s7 (.v (.bool true)) s11)]
 (.cnd s12 (sr [qo 0 d13 (.ld1 (.g p2)),mo 1 d4 s13]
 .ret) .skip))
 (sr [qo 0 d4 (.mv (.v .nili))]
 .ret)))
 [.t p4]
noncomputable def f179 : FnE := .code 18
 (sr [qo 0 d4 (.mv (.v (.bool false)))]
 (sr [mo 0 d5 s0,qo 1 d6 (.lenv s5),mo 2 d7 s1,qo 3 d8 (.lenv s7),qo 4 d9 (.bin .geq s6 s8),mo 5 d10 s9,⟨6,d11,(.q (.mv s0)),(some (p10,true)),[]⟩,⟨7,d12,(.q (.mv s1)),(some (p10,true)),[]⟩,⟨8,d13,(.q (.lenv s12)),(some (p10,true)),[]⟩,⟨9,d14,(.q (.slc s11 none (some s13) 1)),(some (p10,true)),[]⟩,⟨10,d15,(.q (.mv s1)),(some (p10,true)),[]⟩,⟨11,d16,(.call p204 [s14,s15]),(some (p10,true)),[]⟩,qo 12 d17 (.pick s10 s16 (.v (.bool false))),mo 13 d4 s17]
 .ret))
 [.t p4]
noncomputable def f180 : FnE := .code 74
 (sr [eo 0 d6 (.box s1 69),eo 1 d9 (.box s4 9),mo 2 d10 (vl 0),qo 3 d11 (.mv (.v .nili))]
 (sr [mo 0 d20 s0,eo 1 d21 (.mkm (.cells [.u8,.u8,.u8,.u8,.u8,.u8,.u8,.u8,.u8,.u8,.u8,.u8,.u8,.u8,.u8,.u8,.u8,.u8,.u8,.u8,.u8,.u8,.u8,.u8,.u8,.u8,.u8,.u8,.u8,.u8,.u8,.u8,.u32])),eo 2 d22 (.mkm (.cells [.u8,.u8,.u8,.u8,.u8,.u8,.u8,.u8,.u8,.u8,.u8,.u8,.u8,.u8,.u8,.u8,.u8,.u8,.u8,.u8,.u8,.u8,.u8,.u8,.u8,.u8,.u8,.u8,.u8,.u8,.u8,.u8,.u32])),qo 3 d23 (.bld [.nilp,.nilm,.nilm] [(0,1,s20),(1,1,s21),(2,1,s22)]),eo 4 d24 (.box s23 3),mo 5 d12 s24]
 (sr [mo 0 d13 (vl 0)]
 (.seq (sr [qo 0 d25 (.fadr s6 68),qo 1 d26 (.ld1 s25),qo 2 d27 (.lenv s26),mo 3 d28 (vi 0)]
 (.blk 0 (.loop (sr [qo 0 d29 (.bin .lss s28 s27)]
 (.seq (.cnd s29 .skip (.exit 0))
 (.seq (.blk 1 (sr [mo 0 d30 s28,qo 1 d31 (.iadr s26 s28 4),qo 2 d32 (.ldn s31 4),eo 3 d15 (.alo [(.int .u32 (.ofNat 0)),.nils,.nils,(.int .u32 (.ofNat 0))]),mo 4 d14 s30,eo 5 none (.st s15 s32 4)]
 (.seq (sr [mo 0 d33 s14,qo 1 d34 (.bin .gtr s33 (vi 0))]
 (.cnd s34 (sr [qo 0 d36 (.ldn s15 4),mo 1 d37 s12,qo 2 d38 (.mki 277 s37),mo 3 d39 s2,mo 4 d40 s3,qo 5 d41 (.fadr s9 1),qo 6 d42 (.ld1 s41),co 7 d43 p205 [s36,s38,s39,s40,s42],mo 8 d35 s43,qo 9 d44 (.ext s35 0),qo 10 d45 (.ext s35 1),mo 11 d16 s44,mo 12 d17 s45]
 (.seq (sr [mo 0 d46 s17,qo 1 d47 (.eqp (.iface true) true s46 (.v .nili))]
 (.cnd s47 (sr [mo 0 d48 s14,mo 1 d49 s17,qo 2 d50 (.bld [(.int .i64 (.ofNat 0)),.nili] [(0,1,s48),(1,1,s49)]),eo 3 d51 (.box s50 2),qo 4 d52 (.mki 201 s51),mo 5 d10 (vl 0),mo 6 d11 s52]
 .ret) .skip))
 (sr [mo 0 d54 s13,mo 1 d55 s16,eo 2 d56 (.bsl [(.int .u64 (.ofNat 0)),(.int .u64 (.ofNat 0))] [(0,1,s54),(1,1,s55)] 2 1),co 3 d57 p196 [s56],mo 4 d53 s57,qo 5 d58 (.ext s53 0),qo 6 d59 (.ext s53 1),mo 7 d18 s58,mo 8 d19 s59]
 (.seq (sr [mo 0 d60 s19,qo 1 d61 (.not s60)]
 (.cnd s61 (.seq (.rgd 0 [mo 0 d62 s14,qo 1 d63 (.ld1 (.g p13)),qo 2 d64 (.bld [(.int .i64 (.ofNat 0)),.nili] [(0,1,s62),(1,1,s63)]),mo 5 d10 (vl 0),eo 3 d65 (.box s64 2),qo 4 d66 (.mki 201 s65),mo 6 d11 s66])
 .ret) .skip))
 (.reg [mo 0 d67 s18,mo 1 d13 s67]))))) .skip))
 (.reg [mo 0 d68 s12,qo 1 d69 (.ldn s15 4),mo 2 d70 s2,co 3 d71 p206 [s68,s69,s70]]))))
 (.reg [qo 0 d72 (.bin .add s28 (vi 1)),mo 1 d28 s72])))))))
 (sr [mo 0 d73 s13,mo 1 d10 s73,qo 2 d11 (.mv (.v .nili))]
 .ret)))))
 [.t p10,.t p11]
noncomputable def f181 : FnE := .code 21
 (sr [mo 0 d4 (vl 0)]
 (.seq (sr [mo 0 d5 s0,qo 1 d6 (.bin .lss s5 (vi 0)),mo 2 d7 s6,⟨3,d8,(.q (.mv s1)),(some (p7,false)),[]⟩,⟨4,d9,(.q (.bin .lss s8 (vi 1))),(some (p7,false)),[]⟩,qo 5 d10 (.pick s7 (.v (.bool true)) s9),mo 6 d11 s10,⟨7,d12,(.q (.mv s0)),(some (p11,false)),[]⟩,⟨8,d13,(.q (.mv s1)),(some (p11,false)),[]⟩,⟨9,d14,(.q (.bin .quo s12 s13)),(some (p11,false)),[]⟩,⟨10,d15,(.q (.bin .geq s14 (vi 64))),(some (p11,false)),[]⟩,qo 11 d16 (.pick s11 (.v (.bool true)) s15)]
 (.cnd s16 (sr [mo 0 d4 (vl 0)]
 .ret) .skip))
 (sr [mo 0 d17 s0,mo 1 d18 s1,qo 2 d19 (.bin .quo s17 s18),qo 3 d20 (.shf false (vl 5000000000) s19),mo 4 d4 s20]
 .ret)))
 [.t p4]
noncomputable def f182 : FnE := .code 45
 (sr [qo 0 d6 (.mv (.v .nils)),qo 1 d7 (.mv (.v .nili))]
 (sr [mo 0 d14 s0,co 1 d15 p55 [s14],mo 2 d8 s15]
 (sr [qo 0 d9 (.mv (.v .nils))]
 (.seq (sr [mo 0 d16 s2,qo 1 d17 (.lenv s16),mo 2 d18 (vi 0)]
 (.blk 0 (.loop (sr [qo 0 d19 (.bin .lss s18 s17)]
 (.seq (.cnd s19 .skip (.exit 0))
 (.seq (.blk 1 (sr [mo 0 d20 s18,qo 1 d21 (.iadr s16 s18 4),qo 2 d22 (.ldn s21 4),eo 3 d11 (.alo [(.int .u32 (.ofNat 0)),.nils,.nils,(.int .u32 (.ofNat 0))]),mo 4 d10 s20,eo 5 none (.st s11 s22 4)]
 (sr [mo 0 d24 s8,mo 1 d25 s1,qo 2 d26 (.ldn s11 4),co 3 d27 p207 [s24,s25,s26],mo 4 d23 s27,qo 5 d28 (.ext s23 0),qo 6 d29 (.ext s23 1),mo 7 d12 s28,mo 8 d13 s29]
 (.seq (sr [mo 0 d30 s13,qo 1 d31 (.eqp (.iface true) true s30 (.v .nili))]
 (.cnd s31 (sr [mo 0 d32 s10,mo 1 d33 s13,qo 2 d34 (.bld [(.int .i64 (.ofNat 0)),.nili] [(0,1,s32),(1,1,s33)]),eo 3 d35 (.box s34 2),qo 4 d36 (.mki 201 s35),qo 5 d6 (.mv (.v .nils)),mo 6 d7 s36]
 .ret) .skip))
 (.reg [mo 0 d37 s9,mo 1 d38 s12,eo 2 d39 (.app s37 s38 68 96 false),mo 3 d9 s39])))))
 (.reg [qo 0 d40 (.bin .add s18 (vi 1)),mo 1 d18 s40])))))))
 (sr [mo 0 d41 s0,mo 1 d42 s8,co 2 d43 p177 [s41,s42]]
 (sr [mo 0 d44 s9,mo 1 d6 s44,qo 2 d7 (.mv (.v .nili))]
 .ret))))))
 [.t p6,.t p7]
noncomputable def f183 : FnE := .code 19
 (sr [qo 0 d2 (.mv (.v .nils))]
 (sr [qo 0 d3 (.mv (.v .nils))]
 (.seq (sr [mo 0 d6 s0,qo 1 d7 (.lenv s6),mo 2 d8 (vi 0)]
 (.blk 0 (.loop (sr [qo 0 d9 (.bin .lss s8 s7)]
 (.seq (.cnd s9 .skip (.exit 0))
 (.seq (.blk 1 (sr [qo 0 d10 (.iadr s6 s8 4),qo 1 d11 (.ldn s10 4),eo 2 d5 (.alo [(.int .u32 (.ofNat 0)),.nils,.nils,(.int .u32 (.ofNat 0))]),eo 3 none (.st s5 s11 4)]
 (.reg [mo 0 d12 s3,qo 1 d13 (.ldn s5 4),co 2 d14 p208 [s13],eo 3 d15 (.bsl [(.int .u32 (.ofNat 0)),.nils,.nils,(.int .u32 (.ofNat 0))] [(0,4,s14)] 1 4),eo 4 d16 (.app s12 s15 4 64 false),mo 5 d3 s16])))
 (.reg [qo 0 d17 (.bin .add s8 (vi 1)),mo 1 d8 s17])))))))
 (sr [mo 0 d18 s3,mo 1 d2 s18]
 .ret))))
 [.t p2]
noncomputable def f184 : FnE := .code 27
 (sr [qo 0 d0 (.mv (.v .nils))]
 (sr [qo 0 d1 (.ld1 (.g p15)),qo 1 d2 (.ld1 (.g p2)),qo 2 d3 (.ld1 (.g p4)),qo 3 d4 (.ld1 (.g p3)),qo 4 d5 (.ld1 (.g p13)),qo 5 d6 (.ld1 (.g p5)),qo 6 d7 (.ld1 (.g p10)),qo 7 d8 (.ld1 (.g p6)),qo 8 d9 (.ld1 (.g p7)),qo 9 d10 (.ld1 (.g p8)),qo 10 d11 (.ld1 (.g p0)),qo 11 d12 (.ld1 (.g p9)),qo 12 d13 (.ld1 (.g p16)),qo 13 d14 (.ld1 (.g p12)),qo 14 d15 (.ld1 (.g p17)),qo 15 d16 (.ld1 (.g p18)),qo 16 d17 (.ld1 (.g p19)),qo 17 d18 (.ld1 (.g p14)),qo 18 d19 (.ld1 (.g p20)),qo 19 d20 (.ld1 (.g p21)),qo 20 d21 (.ld1 (.g p11)),qo 21 d22 (.ld1 (.g p1)),qo 22 d23 (.ld1 (.g p22)),qo 23 d24 (.ld1 (.g p23)),qo 24 d25 (.ld1 (.g p24)),eo 25 d26 (.bsl (zz .nili 25) [(0,1,s1),(1,1,s2),(2,1,s3),(3,1,s4),(4,1,s5),(5,1,s6),(6,1,s7),(7,1,s8),(8,1,s9),(9,1,s10),(10,1,s11),(11,1,s12),(12,1,s13),(13,1,s14),(14,1,s15),(15,1,s16),(16,1,s17),(17,1,s18),(18,1,s19),(19,1,s20),(20,1,s21),(21,1,s22),(22,1,s23),(23,1,s24),(24,1,s25)] 25 1),mo 26 d0 s26]
 .ret))
 [.t p0]
noncomputable def f185 : FnE := .code 20
 (sr [qo 0 d4 (.mv (.v (.bool false)))]
 (.seq (sr [mo 0 d5 s0,qo 1 d6 (.eqp (.iface true) false s5 (.v .nili)),mo 2 d7 s6,⟨3,d8,(.q (.mv s1)),(some (p7,false)),[]⟩,⟨4,d9,(.q (.eqp (.iface true) false s8 (.v .nili))),(some (p7,false)),[]⟩,qo 5 d10 (.pick s7 (.v (.bool true)) s9)]
 (.cnd s10 (sr [mo 0 d11 s0,qo 1 d12 (.eqp (.iface true) false s11 (.v .nili)),mo 2 d13 s12,⟨3,d14,(.q (.mv s1)),(some (p13,true)),[]⟩,⟨4,d15,(.q (.eqp (.iface true) false s14 (.v .nili))),(some (p13,true)),[]⟩,qo 5 d16 (.pick s13 s15 (.v (.bool false))),mo 6 d4 s16]
 .ret) .skip))
 (sr [mo 0 d17 s0,mo 1 d18 s1,qo 2 d19 (.eqp (.iface false) false s17 s18),mo 3 d4 s19]
 .ret)))
 [.t p4]
noncomputable def f190 : FnE := .code 8
 (sr [mo 0 d2 (vi 0)]
 (.seq (.cnd (.v (.bool false)) (sr [mo 0 d3 s0,qo 1 d4 (.cvi .u32 s3),co 2 d5 p217 [s4],mo 3 d2 s5]
 .ret) .skip)
 (sr [mo 0 d6 s0,co 1 d7 p218 [s6],mo 2 d2 s7]
 .ret)))
 [.t p2]
end Go.Proofs.YtldidldbhngmnaaGreatDoor.Ir
namespace Go.Proofs.YtldidldbhngmnaaGreatDoor.Ir
set_option maxRecDepth 100000
open Go Go.Proofs.YtldidldbhngmnaaGreatDoor
noncomputable def f191 : FnE := .code 17
 (sr [mo 0 d4 (vw 0)]
 (sr [mo 0 d6 s1,qo 1 d7 (.cvi .u64 s6),qo 2 d8 (.bin .and s7 (vl 31)),mo 3 d5 s8]
 (sr [mo 0 d9 s0,mo 1 d10 s5,qo 2 d11 (.shf true s9 s10),mo 3 d12 s0,mo 4 d13 s5,qo 5 d14 (.bin .sub (vl 32) s13),qo 6 d15 (.shf false s12 s14),qo 7 d16 (.bin .or s11 s15),mo 8 d4 s16]
 .ret)))
 [.t p4]
noncomputable def f192 : FnE := .code 134
 (sr [qo 0 d8 (.mv (.v (.bool true)))]
 (sr [qo 0 d9 (.mv (.v (.bool true)))]
 (.blk 0 (.loop (.blk 1 (sr [mo 0 d19 s2,mo 1 d20 s1,qo 2 d21 (.bin .sub s19 s20),mo 3 d10 s21]
 (.seq (sr [mo 0 d22 s10,qo 1 d23 (.bin .leq s22 (vi 12))]
 (.cnd s23 (sr [mo 0 d24 s0,mo 1 d25 s1,mo 2 d26 s2,co 3 d27 p219 [s24,s25,s26]]
 .ret) .skip))
 (.seq (sr [mo 0 d28 s3,qo 1 d29 (.bin .eql s28 (vi 0))]
 (.cnd s29 (sr [mo 0 d30 s0,mo 1 d31 s1,mo 2 d32 s2,co 3 d33 p220 [s30,s31,s32]]
 .ret) .skip))
 (.seq (sr [mo 0 d34 s8,qo 1 d35 (.not s34)]
 (.cnd s35 (sr [mo 0 d36 s0,mo 1 d37 s1,mo 2 d38 s2,co 3 d39 p221 [s36,s37,s38]]
 (.reg [mo 0 d40 s3,qo 1 d41 (.bin .sub s40 (vi 1)),mo 2 d3 s41])) .skip))
 (sr [mo 0 d43 s0,mo 1 d44 s1,mo 2 d45 s2,co 3 d46 p222 [s43,s44,s45],mo 4 d42 s46,qo 5 d47 (.ext s42 0),qo 6 d48 (.ext s42 1),mo 7 d11 s47,mo 8 d12 s48]
 (.seq (sr [mo 0 d49 s12,qo 1 d50 (.bin .eql s49 (vi 2))]
 (.cnd s50 (sr [mo 0 d51 s0,mo 1 d52 s1,mo 2 d53 s2,co 3 d54 p223 [s51,s52,s53]]
 (sr [mo 0 d55 s2,qo 1 d56 (.bin .sub s55 (vi 1)),mo 2 d57 s11,mo 3 d58 s1,qo 4 d59 (.bin .sub s57 s58),qo 5 d60 (.bin .sub s56 s59),mo 6 d11 s60]
 (.reg [mo 0 d12 (vi 1)]))) .skip))
 (.seq (sr [mo 0 d61 s8,mo 1 d62 s61,⟨2,d63,(.q (.mv s9)),(some (p62,true)),[]⟩,qo 3 d64 (.pick s62 s63 (.v (.bool false))),mo 4 d65 s64,⟨5,d66,(.q (.mv s12)),(some (p65,true)),[]⟩,⟨6,d67,(.q (.bin .eql s66 (vi 1))),(some (p65,true)),[]⟩,qo 7 d68 (.pick s65 s67 (.v (.bool false)))]
 (.cnd s68 (sr [mo 0 d69 s0,mo 1 d70 s1,mo 2 d71 s2,co 3 d72 p224 [s69,s70,s71]]
 (.cnd s72 .ret .skip)) .skip))
 (.seq (.seq (.rgd 0 [mo 0 d73 s1,qo 1 d74 (.bin .gtr s73 (vi 0)),mo 2 d75 s74,⟨3,d76,(.q (.mv s0)),(some (p75,true)),[]⟩,⟨4,d77,(.q (.mv s1)),(some (p75,true)),[]⟩,⟨5,d78,(.q (.bin .sub s77 (vi 1))),(some (p75,true)),[]⟩,⟨6,d79,(.q (.iadr s76 s78 1)),(some (p75,true)),[]⟩,⟨7,d80,(.q (.ld1 s79)),(some (p75,true)),[]⟩,⟨8,d81,(.q (.mv s0)),(some (p75,true)),[]⟩,⟨9,d82,(.q (.mv s11)),(some (p75,true)),[]⟩,⟨10,d83,(.q (.iadr s81 s82 1)),(some (p75,true)),[]⟩,⟨11,d84,(.q (.ld1 s83)),(some (p75,true)),[]⟩,⟨12,d85,(.call p225 [s80,s84]),(some (p75,true)),[]⟩,⟨13,d86,(.q (.not s85)),(some (p75,true)),[]⟩,qo 14 d87 (.pick s75 s86 (.v (.bool false)))])
 (.cnd s87 (sr [mo 0 d88 s0,mo 1 d89 s1,mo 2 d90 s2,mo 3 d91 s11,co 4 d92 p226 [s88,s89,s90,s91],mo 5 d13 s92]
 (sr [mo 0 d93 s13,mo 1 d1 s93]
 (.exit 1))) .skip))
 (sr [mo 0 d95 s0,mo 1 d96 s1,mo 2 d97 s2,mo 3 d98 s11,co 4 d99 p227 [s95,s96,s97,s98],mo 5 d94 s99,qo 6 d100 (.ext s94 0),qo 7 d101 (.ext s94 1),mo 8 d14 s100,mo 9 d15 s101]
 (sr [mo 0 d102 s15,mo 1 d9 s102]
 (sr [mo 0 d103 s14,mo 1 d104 s1,qo 2 d105 (.bin .sub s103 s104),mo 3 d106 s2,mo 4 d107 s14,qo 5 d108 (.bin .sub s106 s107),mo 6 d16 s105,mo 7 d17 s108]
 (sr [mo 0 d109 s10,qo 1 d110 (.bin .quo s109 (vi 8)),mo 2 d18 s110]
 (sr [mo 0 d111 s16,mo 1 d112 s17,qo 2 d113 (.bin .lss s111 s112)]
 (.cnd s113 (sr [mo 0 d114 s16,mo 1 d115 s18,qo 2 d116 (.bin .geq s114 s115),mo 3 d8 s116]
 (sr [mo 0 d117 s0,mo 1 d118 s1,mo 2 d119 s14,mo 3 d120 s3,co 4 d121 p192 [s117,s118,s119,s120]]
 (.reg [mo 0 d122 s14,qo 1 d123 (.bin .add s122 (vi 1)),mo 2 d1 s123]))) (sr [mo 0 d124 s17,mo 1 d125 s18,qo 2 d126 (.bin .geq s124 s125),mo 3 d8 s126]
 (sr [mo 0 d127 s0,mo 1 d128 s14,qo 2 d129 (.bin .add s128 (vi 1)),mo 3 d130 s2,mo 4 d131 s3,co 5 d132 p192 [s127,s129,s130,s131]]
 (.reg [mo 0 d133 s14,mo 1 d2 s133]))))))))))))))))))))))
 []
noncomputable def f195 : FnE := .code 19
 (sr [mo 0 d4 (vi 0)]
 (.seq (sr [mo 0 d6 s0,qo 1 d7 (.lenv s6),mo 2 d8 (vi 0)]
 (.blk 0 (.loop (sr [qo 0 d9 (.bin .lss s8 s7)]
 (.seq (.cnd s9 .skip (.exit 0))
 (.seq (.blk 1 (sr [mo 0 d10 s8,mo 1 d5 s10]
 (sr [mo 0 d11 s1,mo 1 d12 s0,mo 2 d13 s5,qo 3 d14 (.iadr s12 s13 35),qo 4 d15 (.ldn s14 35),o 5 d16 (.callv s11 [s15])]
 (.cnd s16 (sr [mo 0 d17 s5,mo 1 d4 s17]
 .ret) .skip))))
 (.reg [qo 0 d18 (.bin .add s8 (vi 1)),mo 1 d8 s18])))))))
 (sr [qo 0 d4 (.mv (.v (.int .i64 (.negSucc 0))))]
 .ret)))
 [.t p4]
noncomputable def f196 : FnE := .code 22
 (sr [mo 0 d2 (vl 0),qo 1 d3 (.mv (.v (.bool false)))]
 (sr [mo 0 d4 (vl 0)]
 (.seq (sr [mo 0 d7 s0,qo 1 d8 (.lenv s7),mo 2 d9 (vi 0)]
 (.blk 0 (.loop (sr [qo 0 d10 (.bin .lss s9 s8)]
 (.seq (.cnd s10 .skip (.exit 0))
 (.seq (.blk 1 (sr [qo 0 d11 (.iadr s7 s9 1),qo 1 d12 (.ld1 s11),mo 2 d6 s12]
 (.seq (sr [mo 0 d13 s6,mo 1 d14 s4,qo 2 d15 (.bin .sub (vl 2100000000000000) s14),qo 3 d16 (.bin .gtr s13 s15)]
 (.cnd s16 (sr [mo 0 d2 (vl 0),qo 1 d3 (.mv (.v (.bool false)))]
 .ret) .skip))
 (.reg [mo 0 d17 s4,mo 1 d18 s6,qo 2 d19 (.bin .add s17 s18),mo 3 d4 s19]))))
 (.reg [qo 0 d20 (.bin .add s9 (vi 1)),mo 1 d9 s20])))))))
 (sr [mo 0 d21 s4,mo 1 d2 s21,qo 2 d3 (.mv (.v (.bool true)))]
 .ret))))
 [.t p2,.t p3]
noncomputable def f197 : FnE := .code 20
 (sr [eo 0 d1 (.box s0 4),qo 1 d2 (.mv (.v .nils))]
 (sr [qo 0 d3 (.mv (.v .nils))]
 (.seq (sr [qo 0 d6 (.fadr s1 2),qo 1 d7 (.ld1 s6),qo 2 d8 (.lenv s7),mo 3 d9 (vi 0)]
 (.blk 0 (.loop (sr [qo 0 d10 (.bin .lss s9 s8)]
 (.seq (.cnd s10 .skip (.exit 0))
 (.seq (.blk 1 (sr [qo 0 d11 (.iadr s7 s9 33),qo 1 d12 (.ldn s11 33),eo 2 d5 (.alo (lapp [(.int .u64 (.ofNat 0))] (zz zB 32))),eo 3 none (.st s5 s12 33)]
 (.reg [mo 0 d13 s3,qo 1 d14 (.fadr s5 0),qo 2 d15 (.ld1 s14),eo 3 d16 (.bsl [(.int .u64 (.ofNat 0))] [(0,1,s15)] 1 1),eo 4 d17 (.app s13 s16 1 8 false),mo 5 d3 s17])))
 (.reg [qo 0 d18 (.bin .add s9 (vi 1)),mo 1 d9 s18])))))))
 (sr [mo 0 d19 s3,mo 1 d2 s19]
 .ret))))
 [.t p2]
noncomputable def f199 : FnE := .code 148
 (sr [qo 0 d10 (.mv (.v (.bool true)))]
 (sr [qo 0 d11 (.mv (.v (.bool true)))]
 (.blk 0 (.loop (.blk 1 (sr [mo 0 d21 s2,mo 1 d22 s1,qo 2 d23 (.bin .sub s21 s22),mo 3 d12 s23]
 (.seq (sr [mo 0 d24 s12,qo 1 d25 (.bin .leq s24 (vi 12))]
 (.cnd s25 (sr [mo 0 d26 s0,mo 1 d27 s1,mo 2 d28 s2,mo 3 d29 s4,co 4 d30 p228 [s26,s27,s28,s29]]
 .ret) .skip))
 (.seq (sr [mo 0 d31 s3,qo 1 d32 (.bin .eql s31 (vi 0))]
 (.cnd s32 (sr [mo 0 d33 s0,mo 1 d34 s1,mo 2 d35 s2,mo 3 d36 s4,co 4 d37 p229 [s33,s34,s35,s36]]
 .ret) .skip))
 (.seq (sr [mo 0 d38 s10,qo 1 d39 (.not s38)]
 (.cnd s39 (sr [mo 0 d40 s0,mo 1 d41 s1,mo 2 d42 s2,mo 3 d43 s4,co 4 d44 p230 [s40,s41,s42,s43]]
 (.reg [mo 0 d45 s3,qo 1 d46 (.bin .sub s45 (vi 1)),mo 2 d3 s46])) .skip))
 (sr [mo 0 d48 s0,mo 1 d49 s1,mo 2 d50 s2,mo 3 d51 s4,co 4 d52 p231 [s48,s49,s50,s51],mo 5 d47 s52,qo 6 d53 (.ext s47 0),qo 7 d54 (.ext s47 1),mo 8 d13 s53,mo 9 d14 s54]
 (.seq (sr [mo 0 d55 s14,qo 1 d56 (.bin .eql s55 (vi 2))]
 (.cnd s56 (sr [mo 0 d57 s0,mo 1 d58 s1,mo 2 d59 s2,mo 3 d60 s4,co 4 d61 p232 [s57,s58,s59,s60]]
 (sr [mo 0 d62 s2,qo 1 d63 (.bin .sub s62 (vi 1)),mo 2 d64 s13,mo 3 d65 s1,qo 4 d66 (.bin .sub s64 s65),qo 5 d67 (.bin .sub s63 s66),mo 6 d13 s67]
 (.reg [mo 0 d14 (vi 1)]))) .skip))
 (.seq (sr [mo 0 d68 s10,mo 1 d69 s68,⟨2,d70,(.q (.mv s11)),(some (p69,true)),[]⟩,qo 3 d71 (.pick s69 s70 (.v (.bool false))),mo 4 d72 s71,⟨5,d73,(.q (.mv s14)),(some (p72,true)),[]⟩,⟨6,d74,(.q (.bin .eql s73 (vi 1))),(some (p72,true)),[]⟩,qo 7 d75 (.pick s72 s74 (.v (.bool false)))]
 (.cnd s75 (sr [mo 0 d76 s0,mo 1 d77 s1,mo 2 d78 s2,mo 3 d79 s4,co 4 d80 p233 [s76,s77,s78,s79]]
 (.cnd s80 .ret .skip)) .skip))
 (.seq (.seq (.rgd 0 [mo 0 d81 s1,qo 1 d82 (.bin .gtr s81 (vi 0)),mo 2 d83 s82,⟨3,d84,(.q (.mv s4)),(some (p83,true)),[]⟩,⟨4,d85,(.q (.mv s0)),(some (p83,true)),[]⟩,⟨5,d86,(.q (.mv s1)),(some (p83,true)),[]⟩,⟨6,d87,(.q (.bin .sub s86 (vi 1))),(some (p83,true)),[]⟩,⟨7,d88,(.q (.iadr s85 s87 32)),(some (p83,true)),[]⟩,⟨8,d89,(.q (.ldn s88 32)),(some (p83,true)),[]⟩,⟨9,d90,(.q (.mv s0)),(some (p83,true)),[]⟩,⟨10,d91,(.q (.mv s13)),(some (p83,true)),[]⟩,⟨11,d92,(.q (.iadr s90 s91 32)),(some (p83,true)),[]⟩,⟨12,d93,(.q (.ldn s92 32)),(some (p83,true)),[]⟩,⟨13,d94,(.callv s84 [s89,s93]),(some (p83,true)),[]⟩,⟨14,d95,(.q (.bin .lss s94 (vi 0))),(some (p83,true)),[]⟩,⟨15,d96,(.q (.not s95)),(some (p83,true)),[]⟩,qo 16 d97 (.pick s83 s96 (.v (.bool false)))])
 (.cnd s97 (sr [mo 0 d98 s0,mo 1 d99 s1,mo 2 d100 s2,mo 3 d101 s13,mo 4 d102 s4,co 5 d103 p234 [s98,s99,s100,s101,s102],mo 6 d15 s103]
 (sr [mo 0 d104 s15,mo 1 d1 s104]
 (.exit 1))) .skip))
 (sr [mo 0 d106 s0,mo 1 d107 s1,mo 2 d108 s2,mo 3 d109 s13,mo 4 d110 s4,co 5 d111 p235 [s106,s107,s108,s109,s110],mo 6 d105 s111,qo 7 d112 (.ext s105 0),qo 8 d113 (.ext s105 1),mo 9 d16 s112,mo 10 d17 s113]
 (sr [mo 0 d114 s17,mo 1 d11 s114]
 (sr [mo 0 d115 s16,mo 1 d116 s1,qo 2 d117 (.bin .sub s115 s116),mo 3 d118 s2,mo 4 d119 s16,qo 5 d120 (.bin .sub s118 s119),mo 6 d18 s117,mo 7 d19 s120]
 (sr [mo 0 d121 s12,qo 1 d122 (.bin .quo s121 (vi 8)),mo 2 d20 s122]
 (sr [mo 0 d123 s18,mo 1 d124 s19,qo 2 d125 (.bin .lss s123 s124)]
 (.cnd s125 (sr [mo 0 d126 s18,mo 1 d127 s20,qo 2 d128 (.bin .geq s126 s127),mo 3 d10 s128]
 (sr [mo 0 d129 s0,mo 1 d130 s1,mo 2 d131 s16,mo 3 d132 s3,mo 4 d133 s4,co 5 d134 p199 [s129,s130,s131,s132,s133]]
 (.reg [mo 0 d135 s16,qo 1 d136 (.bin .add s135 (vi 1)),mo 2 d1 s136]))) (sr [mo 0 d137 s19,mo 1 d138 s20,qo 2 d139 (.bin .geq s137 s138),mo 3 d10 s139]
 (sr [mo 0 d140 s0,mo 1 d141 s16,qo 2 d142 (.bin .add s141 (vi 1)),mo 3 d143 s2,mo 4 d144 s3,mo 5 d145 s4,co 6 d146 p199 [s140,s142,s143,s144,s145]]
 (.reg [mo 0 d147 s16,mo 1 d2 s147]))))))))))))))))))))))
 []
noncomputable def f202 : FnE := .code 27
 (sr [eo 0 d3 (.box s1 33),eo 1 d4 (.alo (lapp [(.int .u64 (.ofNat 0))] (lapp (zz zB 32) [(.int .i64 (.ofNat 0)),(.bool false)]))),qo 2 d5 (.mv (.v .nili))]
 (.seq (.rgd 0 [mo 0 d9 s0,qo 1 d10 (.nck s9),qo 2 d11 (.fadr s10 0),qo 3 d12 (.ld1 s11),qo 4 d13 (.ldn s3 33),qo 5 d14 (.lkp s12 s13 (.cells [.u8,.u8,.u8,.u8,.u8,.u8,.u8,.u8,.u8,.u8,.u8,.u8,.u8,.u8,.u8,.u8,.u8,.u8,.u8,.u8,.u8,.u8,.u8,.u8,.u8,.u8,.u8,.u8,.u8,.u8,.u8,.u8,.u32]) (.agg (lapp [(.int .u64 (.ofNat 0))] (lapp (zz zB 32) [(.int .i64 (.ofNat 0)),(.bool false)]))) true),mo 6 d8 s14,qo 7 d15 (.ext s8 0),qo 8 d16 (.ext s8 1),⟨9,d6,(.e (.alo (lapp [(.int .u64 (.ofNat 0))] (lapp (zz zB 32) [(.int .i64 (.ofNat 0)),(.bool false)])))),none,[(p12,.ld1 s11,none),(p13,.ldn s3 33,none),(p14,.lkp s12 s13 (.cells [.u8,.u8,.u8,.u8,.u8,.u8,.u8,.u8,.u8,.u8,.u8,.u8,.u8,.u8,.u8,.u8,.u8,.u8,.u8,.u8,.u8,.u8,.u8,.u8,.u8,.u8,.u8,.u8,.u8,.u8,.u8,.u8,.u32]) (.agg (lapp [(.int .u64 (.ofNat 0))] (lapp (zz zB 32) [(.int .i64 (.ofNat 0)),(.bool false)]))) true,none)]⟩,eo 10 none (.st s6 s15 35),mo 11 d7 s16])
 (.seq (sr [mo 0 d17 s7,qo 1 d18 (.not s17)]
 (.cnd s18 (.seq (.rgd 0 [qo 0 d19 (.bld (lapp [(.int .u64 (.ofNat 0))] (lapp (zz zB 32) [(.int .i64 (.ofNat 0)),(.bool false)])) []),qo 1 d20 (.ld1 (.g p16)),⟨2,none,(.e (.st s4 s19 35)),none,[(p20,.ld1 (.g p16),none)]⟩,mo 3 d5 s20])
 .ret) .skip))
 (.seq (.rgd 0 [mo 0 d21 s0,qo 1 d22 (.nck s21),qo 2 d23 (.fadr s22 0),qo 3 d24 (.ld1 s23),qo 4 d25 (.ldn s3 33),eo 5 none (.mdl s24 s25 (.cells [.u8,.u8,.u8,.u8,.u8,.u8,.u8,.u8,.u8,.u8,.u8,.u8,.u8,.u8,.u8,.u8,.u8,.u8,.u8,.u8,.u8,.u8,.u8,.u8,.u8,.u8,.u8,.u8,.u8,.u8,.u8,.u8,.u32]))])
 (sr [qo 0 d26 (.ldn s6 35),eo 1 none (.st s4 s26 35),qo 2 d5 (.mv (.v .nili))]
 .ret)))))
 [.cn p4 35,.t p5]
noncomputable def f203 : FnE := .code 39
 (sr [eo 0 d4 (.box s1 33),eo 1 d5 (.box s2 35),qo 2 d6 (.mv (.v .nili))]
 (.seq (sr [qo 0 d9 (.fadr s5 0),qo 1 d10 (.ld1 s9),qo 2 d11 (.bin .gtr s10 (vl 2100000000000000))]
 (.cnd s11 (sr [qo 0 d12 (.ld1 (.g p13)),mo 1 d6 s12]
 .ret) .skip))
 (.seq (.seq (.rgd 0 [mo 0 d14 s0,qo 1 d15 (.nck s14),qo 2 d16 (.fadr s15 0),qo 3 d17 (.ld1 s16),qo 4 d18 (.ldn s4 33),qo 5 d19 (.lkp s17 s18 (.cells [.u8,.u8,.u8,.u8,.u8,.u8,.u8,.u8,.u8,.u8,.u8,.u8,.u8,.u8,.u8,.u8,.u8,.u8,.u8,.u8,.u8,.u8,.u8,.u8,.u8,.u8,.u8,.u8,.u8,.u8,.u8,.u8,.u32]) (.agg (lapp [(.int .u64 (.ofNat 0))] (lapp (zz zB 32) [(.int .i64 (.ofNat 0)),(.bool false)]))) true),mo 6 d13 s19,qo 7 d20 (.ext s13 0),qo 8 d21 (.ext s13 1),⟨9,d7,(.e (.alo (lapp [(.int .u64 (.ofNat 0))] (lapp (zz zB 32) [(.int .i64 (.ofNat 0)),(.bool false)])))),none,[(p17,.ld1 s16,none),(p18,.ldn s4 33,none),(p19,.lkp s17 s18 (.cells [.u8,.u8,.u8,.u8,.u8,.u8,.u8,.u8,.u8,.u8,.u8,.u8,.u8,.u8,.u8,.u8,.u8,.u8,.u8,.u8,.u8,.u8,.u8,.u8,.u8,.u8,.u8,.u8,.u8,.u8,.u8,.u8,.u32]) (.agg (lapp [(.int .u64 (.ofNat 0))] (lapp (zz zB 32) [(.int .i64 (.ofNat 0)),(.bool false)]))) true,none)]⟩,eo 10 none (.st s7 s20 35),mo 11 d8 s21])
 (sr [mo 0 d22 s8]
 (.cnd s22 (sr [qo 0 d23 (.ld1 (.g p5)),mo 1 d6 s23]
 .ret) .skip)))
 (.seq (sr [mo 0 d24 s0,qo 1 d25 (.nck s24),qo 2 d26 (.fadr s25 0),qo 3 d27 (.ld1 s26),qo 4 d28 (.eqp .map false s27 (.v .nilm))]
 (.cnd s28 (.reg [mo 0 d29 s0,eo 1 d30 (.mkm (.cells [.u8,.u8,.u8,.u8,.u8,.u8,.u8,.u8,.u8,.u8,.u8,.u8,.u8,.u8,.u8,.u8,.u8,.u8,.u8,.u8,.u8,.u8,.u8,.u8,.u8,.u8,.u8,.u8,.u8,.u8,.u8,.u8,.u32])),qo 2 d31 (.nck s29),qo 3 d32 (.fadr s31 0),eo 4 none (.st s32 s30 1)]) .skip))
 (.seq (.rgd 0 [mo 0 d33 s0,qo 1 d34 (.nck s33),qo 2 d35 (.fadr s34 0),qo 3 d36 (.ld1 s35),qo 4 d37 (.ldn s4 33),qo 5 d38 (.ldn s5 35),eo 6 none (.mup s36 s37 s38 (.cells [.u8,.u8,.u8,.u8,.u8,.u8,.u8,.u8,.u8,.u8,.u8,.u8,.u8,.u8,.u8,.u8,.u8,.u8,.u8,.u8,.u8,.u8,.u8,.u8,.u8,.u8,.u8,.u8,.u8,.u8,.u8,.u8,.u32]))])
 (sr [qo 0 d6 (.mv (.v .nili))]
 .ret))))))
 [.t p6]
noncomputable def f206 : FnE := .code 74
 (sr [eo 0 d4 (.box s1 4)]
 (sr [qo 0 d15 (.ldn s4 4),co 1 d16 p129 [s15],mo 2 d6 s16]
 (sr [qo 0 d17 (.ldn s4 4),co 1 d18 p160 [s17],eo 2 d7 (.alo (zz zB 32)),eo 3 none (.st s7 s18 32)]
 (.seq (sr [qo 0 d19 (.fadr s4 2),qo 1 d20 (.ld1 s19),qo 2 d21 (.lenv s20),mo 3 d22 (vi 0)]
 (.blk 0 (.loop (sr [qo 0 d23 (.bin .lss s22 s21)]
 (.seq (.cnd s23 .skip (.exit 0))
 (.seq (.blk 1 (sr [mo 0 d24 s22,mo 1 d8 s24]
 (sr [mo 0 d26 s0,qo 1 d27 (.ldn s7 32),mo 2 d28 s8,qo 3 d29 (.cvi .u32 s28),qo 4 d30 (.bld (lapp (zz zB 32) [(.int .u32 (.ofNat 0))]) [(0,32,s27),(32,1,s29)]),co 5 d31 p241 [s26,s30],mo 6 d25 s31,qo 7 d32 (.ext s25 0),qo 8 d33 (.ext s25 1),eo 9 d9 (.alo (lapp [(.int .u64 (.ofNat 0))] (lapp (zz zB 32) [(.int .i64 (.ofNat 0)),(.bool false)]))),eo 10 none (.st s9 s32 35),mo 11 d10 s33]
 (sr [mo 0 d34 s10]
 (.cnd s34 .ret .skip)))))
 (.reg [qo 0 d35 (.bin .add s22 (vi 1)),mo 1 d22 s35])))))))
 (.seq (sr [qo 0 d36 (.fadr s4 1),qo 1 d37 (.ld1 s36),qo 2 d38 (.lenv s37),mo 3 d39 (vi 0)]
 (.blk 2 (.loop (sr [qo 0 d40 (.bin .lss s39 s38)]
 (.seq (.cnd s40 .skip (.exit 2))
 (.seq (.blk 3 (sr [qo 0 d41 (.iadr s37 s39 35),qo 1 d42 (.ldn s41 35),eo 2 d12 (.alo (lapp (zz zB 32) [(.int .u32 (.ofNat 0)),.nils,(.int .u32 (.ofNat 0))])),eo 3 none (.st s12 s42 35)]
 (.rgd 0 [mo 0 d43 s0,qo 1 d44 (.nck s43),qo 2 d45 (.fadr s44 2),qo 3 d46 (.ld1 s45),qo 4 d47 (.fadr s12 0),qo 5 d48 (.ldn s47 33),eo 6 none (.mup s46 s48 (.v (.bool true)) (.cells [.u8,.u8,.u8,.u8,.u8,.u8,.u8,.u8,.u8,.u8,.u8,.u8,.u8,.u8,.u8,.u8,.u8,.u8,.u8,.u8,.u8,.u8,.u8,.u8,.u8,.u8,.u8,.u8,.u8,.u8,.u8,.u8,.u32]))])))
 (.reg [qo 0 d49 (.bin .add s39 (vi 1)),mo 1 d39 s49])))))))
 (sr [qo 0 d50 (.fadr s4 2),qo 1 d51 (.ld1 s50),qo 2 d52 (.lenv s51),mo 3 d53 (vi 0)]
 (.blk 4 (.loop (sr [qo 0 d54 (.bin .lss s53 s52)]
 (.seq (.cnd s54 .skip (.exit 4))
 (.seq (.blk 5 (sr [mo 0 d55 s53,qo 1 d56 (.iadr s51 s53 33),qo 2 d57 (.ldn s56 33),eo 3 d14 (.alo (lapp [(.int .u64 (.ofNat 0))] (zz zB 32))),mo 4 d13 s55,eo 5 none (.st s14 s57 33)]
 (.rgd 0 [mo 0 d58 s0,qo 1 d59 (.nck s58),qo 2 d60 (.fadr s59 1),qo 3 d61 (.ld1 s60),qo 4 d62 (.ldn s7 32),mo 5 d63 s13,qo 6 d64 (.cvi .u32 s63),qo 7 d65 (.bld (lapp (zz zB 32) [(.int .u32 (.ofNat 0))]) [(0,32,s62),(32,1,s64)]),qo 8 d66 (.fadr s14 0),qo 9 d67 (.ld1 s66),qo 10 d68 (.fadr s14 1),qo 11 d69 (.ldn s68 32),mo 12 d70 s2,mo 13 d71 s6,qo 14 d72 (.bld (lapp [(.int .u64 (.ofNat 0))] (lapp (zz zB 32) [(.int .i64 (.ofNat 0)),(.bool false)])) [(0,1,s67),(1,32,s69),(33,1,s70),(34,1,s71)]),eo 15 none (.mup s61 s65 s72 (.cells [.u8,.u8,.u8,.u8,.u8,.u8,.u8,.u8,.u8,.u8,.u8,.u8,.u8,.u8,.u8,.u8,.u8,.u8,.u8,.u8,.u8,.u8,.u8,.u8,.u8,.u8,.u8,.u8,.u8,.u8,.u8,.u8,.u32]))])))
 (.reg [qo 0 d73 (.bin .add s53 (vi 1)),mo 1 d53 s73]))))))))))))
 []
noncomputable def f207 : FnE := .code 74
 (sr [eo 0 d5 (.box s2 4),qo 1 d6 (.mv (.v .nils)),qo 2 d7 (.mv (.v .nili))]
 (sr [qo 0 d8 (.mv (.v .nils))]
 (sr [qo 0 d18 (.ldn s5 4),co 1 d19 p129 [s18],mo 2 d9 s19]
 (.seq (sr [qo 0 d20 (.fadr s5 1),qo 1 d21 (.ld1 s20),qo 2 d22 (.lenv s21),mo 3 d23 (vi 0)]
 (.blk 0 (.loop (sr [qo 0 d24 (.bin .lss s23 s22)]
 (.seq (.cnd s24 .skip (.exit 0))
 (.seq (.blk 1 (sr [qo 0 d25 (.iadr s21 s23 35),qo 1 d26 (.ldn s25 35),eo 2 d11 (.alo (lapp (zz zB 32) [(.int .u32 (.ofNat 0)),.nils,(.int .u32 (.ofNat 0))])),eo 3 none (.st s11 s26 35)]
 (.seq (sr [mo 0 d27 s9]
 (.cnd s27 (.exit 0) .skip))
 (sr [mo 0 d29 s0,qo 1 d30 (.fadr s11 0),qo 2 d31 (.ldn s30 33),co 3 d32 p202 [s29,s31],mo 4 d28 s32,qo 5 d33 (.ext s28 0),qo 6 d34 (.ext s28 1),eo 7 d12 (.alo (lapp [(.int .u64 (.ofNat 0))] (lapp (zz zB 32) [(.int .i64 (.ofNat 0)),(.bool false)]))),eo 8 none (.st s12 s33 35),mo 9 d13 s34]
 (.seq (sr [mo 0 d35 s13,qo 1 d36 (.eqp (.iface true) true s35 (.v .nili))]
 (.cnd s36 (sr [mo 0 d37 s13,qo 1 d6 (.mv (.v .nils)),mo 2 d7 s37]
 .ret) .skip))
 (.reg [mo 0 d38 s8,qo 1 d39 (.fadr s11 0),qo 2 d40 (.ldn s39 33),qo 3 d41 (.ldn s12 35),qo 4 d42 (.bld (lapp [zB,zB,zB,zB,zB,zB,zB,zB,zB,zB,zB,zB,zB,zB,zB,zB,zB,zB,zB,zB,zB,zB,zB,zB,zB,zB,zB,zB,zB,zB,zB,zB,(.int .u32 (.ofNat 0)),(.int .u64 (.ofNat 0))] (lapp (zz zB 32) [(.int .i64 (.ofNat 0)),(.bool false)])) [(0,33,s40),(33,35,s41)]),eo 5 d43 (.bsl (lapp [zB,zB,zB,zB,zB,zB,zB,zB,zB,zB,zB,zB,zB,zB,zB,zB,zB,zB,zB,zB,zB,zB,zB,zB,zB,zB,zB,zB,zB,zB,zB,zB,(.int .u32 (.ofNat 0)),(.int .u64 (.ofNat 0))] (lapp (zz zB 32) [(.int .i64 (.ofNat 0)),(.bool false)])) [(0,68,s42)] 1 68),eo 6 d44 (.app s38 s43 68 96 false),mo 7 d8 s44]))))))
 (.reg [qo 0 d45 (.bin .add s23 (vi 1)),mo 1 d23 s45])))))))
 (sr [qo 0 d46 (.ldn s5 4),co 1 d47 p160 [s46],eo 2 d14 (.alo (zz zB 32)),eo 3 none (.st s14 s47 32)]
 (.seq (sr [qo 0 d48 (.fadr s5 2),qo 1 d49 (.ld1 s48),qo 2 d50 (.lenv s49),mo 3 d51 (vi 0)]
 (.blk 2 (.loop (sr [qo 0 d52 (.bin .lss s51 s50)]
 (.seq (.cnd s52 .skip (.exit 2))
 (.seq (.blk 3 (sr [mo 0 d53 s51,qo 1 d54 (.iadr s49 s51 33),qo 2 d55 (.ldn s54 33),eo 3 d16 (.alo (lapp [(.int .u64 (.ofNat 0))] (zz zB 32))),mo 4 d15 s53,eo 5 none (.st s16 s55 33)]
 (sr [mo 0 d56 s0,qo 1 d57 (.ldn s14 32),mo 2 d58 s15,qo 3 d59 (.cvi .u32 s58),qo 4 d60 (.bld (lapp (zz zB 32) [(.int .u32 (.ofNat 0))]) [(0,32,s57),(32,1,s59)]),qo 5 d61 (.fadr s16 0),qo 6 d62 (.ld1 s61),qo 7 d63 (.fadr s16 1),qo 8 d64 (.ldn s63 32),mo 9 d65 s1,mo 10 d66 s9,qo 11 d67 (.bld (lapp [(.int .u64 (.ofNat 0))] (lapp (zz zB 32) [(.int .i64 (.ofNat 0)),(.bool false)])) [(0,1,s62),(1,32,s64),(33,1,s65),(34,1,s66)]),co 12 d68 p203 [s56,s60,s67],mo 13 d17 s68]
 (sr [mo 0 d69 s17,qo 1 d70 (.eqp (.iface true) true s69 (.v .nili))]
 (.cnd s70 (sr [mo 0 d71 s17,qo 1 d6 (.mv (.v .nils)),mo 2 d7 s71]
 .ret) .skip)))))
 (.reg [qo 0 d72 (.bin .add s51 (vi 1)),mo 1 d51 s72])))))))
 (sr [mo 0 d73 s8,mo 1 d6 s73,qo 2 d7 (.mv (.v .nili))]
 .ret)))))))
 [.t p6,.t p7]
noncomputable def f208 : FnE := .code 32
 (sr [eo 0 d1 (.box s0 4),eo 1 d2 (.alo [(.int .u32 (.ofNat 0)),.nils,.nils,(.int .u32 (.ofNat 0))])]
 (.seq (.rgd 0 [qo 0 d4 (.fadr s1 1),qo 1 d5 (.ld1 s4),qo 3 d7 (.fadr s1 2),qo 4 d8 (.ld1 s7),⟨2,d6,(.call p242 [s5]),none,[(p8,.ld1 s7,none)]⟩,co 5 d9 p243 [s8],qo 6 d10 (.fadr s1 1),eo 7 none (.st s10 s6 1),qo 8 d11 (.fadr s1 2),eo 9 none (.st s11 s9 1)])
 (.seq (sr [qo 0 d12 (.fadr s1 1),qo 1 d13 (.ld1 s12),qo 2 d14 (.lenv s13),mo 3 d15 (vi 0)]
 (.blk 0 (.loop (sr [qo 0 d16 (.bin .lss s15 s14)]
 (.seq (.cnd s16 .skip (.exit 0))
 (.seq (.blk 1 (sr [mo 0 d17 s15,mo 1 d3 s17]
 (.rgd 0 [qo 0 d18 (.fadr s1 1),qo 1 d19 (.ld1 s18),mo 2 d20 s3,qo 3 d21 (.fadr s1 1),qo 4 d22 (.ld1 s21),mo 5 d23 s3,qo 6 d24 (.iadr s22 s23 35),qo 7 d25 (.fadr s24 33),qo 8 d26 (.ld1 s25),⟨9,d27,(.call p104 [s26]),none,[(p19,.ld1 s18,none)]⟩,qo 10 d28 (.iadr s19 s20 35),qo 11 d29 (.fadr s28 33),eo 12 none (.st s29 s27 1)])))
 (.reg [qo 0 d30 (.bin .add s15 (vi 1)),mo 1 d15 s30])))))))
 (sr [qo 0 d31 (.ldn s1 4),eo 1 none (.st s2 s31 4)]
 .ret))))
 [.cn p2 4]
noncomputable def f218 : FnE := .code 25
 (sr [mo 0 d2 (vi 0)]
 (.seq (sr [mo 0 d3 s0,qo 1 d4 (.bin .geq s3 (vl 4294967296))]
 (.cnd s4 (sr [mo 0 d5 s0,qo 1 d6 (.shf false s5 (vl 32)),mo 2 d0 s6]
 (.reg [mo 0 d2 (vi 32)])) .skip))
 (.seq (sr [mo 0 d7 s0,qo 1 d8 (.bin .geq s7 (vl 65536))]
 (.cnd s8 (sr [mo 0 d9 s0,qo 1 d10 (.shf false s9 (vl 16)),mo 2 d0 s10]
 (.reg [mo 0 d11 s2,qo 1 d12 (.bin .add s11 (vi 16)),mo 2 d2 s12])) .skip))
 (.seq (sr [mo 0 d13 s0,qo 1 d14 (.bin .geq s13 (vl 256))]
 (.cnd s14 (sr [mo 0 d15 s0,qo 1 d16 (.shf false s15 (vl 8)),mo 2 d0 s16]
 (.reg [mo 0 d17 s2,qo 1 d18 (.bin .add s17 (vi 8)),mo 2 d2 s18])) .skip))
 (sr [mo 0 d19 s2,mo 1 d20 s0,qo 2 d21 (.cvi .u8 s20),qo 3 d22 (.idxs (.v (.str [0,1,2,2,3,3,3,3,4,4,4,4,4,4,4,4,5,5,5,5,5,5,5,5,5,5,5,5,5,5,5,5,6,6,6,6,6,6,6,6,6,6,6,6,6,6,6,6,6,6,6,6,6,6,6,6,6,6,6,6,6,6,6,6,7,7,7,7,7,7,7,7,7,7,7,7,7,7,7,7,7,7,7,7,7,7,7,7,7,7,7,7,7,7,7,7,7,7,7,7,7,7,7,7,7,7,7,7,7,7,7,7,7,7,7,7,7,7,7,7,7,7,7,7,7,7,7,7,8,8,8,8,8,8,8,8,8,8,8,8,8,8,8,8,8,8,8,8,8,8,8,8,8,8,8,8,8,8,8,8,8,8,8,8,8,8,8,8,8,8,8,8,8,8,8,8,8,8,8,8,8,8,8,8,8,8,8,8,8,8,8,8,8,8,8,8,8,8,8,8,8,8,8,8,8,8,8,8,8,8,8,8,8,8,8,8,8,8,8,8,8,8,8,8,8,8,8,8,8,8,8,8,8,8,8,8,8,8,8,8,8,8,8,8,8,8,8,8,8,8,8,8,8,8,8,8])) s21),qo 4 d23 (.cvi .i64 s22),qo 5 d24 (.bin .add s19 s23),mo 6 d2 s24]
 .ret)))))
 [.t p2]
noncomputable def f219 : FnE := .code 49
 (sr [mo 0 d8 s1,qo 1 d9 (.bin .add s8 (vi 1)),mo 2 d6 s9]
 (.blk 0 (.loop (.seq (sr [mo 0 d10 s6,mo 1 d11 s2,qo 2 d12 (.bin .lss s10 s11)]
 (.cnd s12 .skip (.exit 0)))
 (.seq (.blk 1 (sr [mo 0 d15 s6,mo 1 d7 s15]
 (.blk 2 (.loop (.seq (.seq (.rgd 0 [mo 0 d16 s7,mo 1 d17 s1,qo 2 d18 (.bin .gtr s16 s17),mo 3 d19 s18,⟨4,d20,(.q (.mv s0)),(some (p19,true)),[]⟩,⟨5,d21,(.q (.mv s7)),(some (p19,true)),[]⟩,⟨6,d22,(.q (.iadr s20 s21 1)),(some (p19,true)),[]⟩,⟨7,d23,(.q (.ld1 s22)),(some (p19,true)),[]⟩,⟨8,d24,(.q (.mv s0)),(some (p19,true)),[]⟩,⟨9,d25,(.q (.mv s7)),(some (p19,true)),[]⟩,⟨10,d26,(.q (.bin .sub s25 (vi 1))),(some (p19,true)),[]⟩,⟨11,d27,(.q (.iadr s24 s26 1)),(some (p19,true)),[]⟩,⟨12,d28,(.q (.ld1 s27)),(some (p19,true)),[]⟩,⟨13,d29,(.call p225 [s23,s28]),(some (p19,true)),[]⟩,qo 14 d30 (.pick s19 s29 (.v (.bool false)))])
 (.cnd s30 .skip (.exit 2)))
 (.seq (.blk 3 (.rgd 0 [mo 0 d33 s0,mo 1 d34 s7,mo 2 d35 s0,mo 3 d36 s7,qo 4 d37 (.bin .sub s36 (vi 1)),mo 5 d38 s0,mo 6 d39 s7,qo 7 d40 (.bin .sub s39 (vi 1)),qo 8 d41 (.iadr s38 s40 1),qo 9 d42 (.ld1 s41),mo 10 d43 s0,mo 11 d44 s7,qo 12 d45 (.iadr s43 s44 1),qo 13 d46 (.ld1 s45),qo 14 d47 (.iadr s33 s34 1),eo 15 none (.st s47 s42 1),qo 16 d48 (.iadr s35 s37 1),eo 17 none (.st s48 s46 1)]))
 (.reg [mo 0 d31 s7,qo 1 d32 (.bin .sub s31 (vi 1)),mo 2 d7 s32])))))))
 (.reg [mo 0 d13 s6,qo 1 d14 (.bin .add s13 (vi 1)),mo 2 d6 s14]))))))
 []
noncomputable def f225 : FnE := .code 17
 (sr [qo 0 d4 (.mv (.v (.bool false)))]
 (sr [mo 0 d5 s0,co 1 d6 p252 [s5],mo 2 d7 s6,⟨3,d8,(.q (.mv s1)),(some (p7,true)),[]⟩,⟨4,d9,(.call p252 [s8]),(some (p7,true)),[]⟩,⟨5,d10,(.q (.not s9)),(some (p7,true)),[]⟩,qo 6 d11 (.pick s7 s10 (.v (.bool false))),mo 7 d12 s11,⟨8,d13,(.q (.mv s0)),(some (p12,false)),[]⟩,⟨9,d14,(.q (.mv s1)),(some (p12,false)),[]⟩,⟨10,d15,(.q (.bin .lss s13 s14)),(some (p12,false)),[]⟩,qo 11 d16 (.pick s12 (.v (.bool true)) s15),mo 12 d4 s16]
 .ret))
 [.t p4]
noncomputable def f228 : FnE := .code 53
 (sr [mo 0 d10 s1,qo 1 d11 (.bin .add s10 (vi 1)),mo 2 d8 s11]
 (.blk 0 (.loop (.seq (sr [mo 0 d12 s8,mo 1 d13 s2,qo 2 d14 (.bin .lss s12 s13)]
 (.cnd s14 .skip (.exit 0)))
 (.seq (.blk 1 (sr [mo 0 d17 s8,mo 1 d9 s17]
 (.blk 2 (.loop (.seq (.seq (.rgd 0 [mo 0 d18 s9,mo 1 d19 s1,qo 2 d20 (.bin .gtr s18 s19),mo 3 d21 s20,⟨4,d22,(.q (.mv s3)),(some (p21,true)),[]⟩,⟨5,d23,(.q (.mv s0)),(some (p21,true)),[]⟩,⟨6,d24,(.q (.mv s9)),(some (p21,true)),[]⟩,⟨7,d25,(.q (.iadr s23 s24 32)),(some (p21,true)),[]⟩,⟨8,d26,(.q (.ldn s25 32)),(some (p21,true)),[]⟩,⟨9,d27,(.q (.mv s0)),(some (p21,true)),[]⟩,⟨10,d28,(.q (.mv s9)),(some (p21,true)),[]⟩,⟨11,d29,(.q (.bin .sub s28 (vi 1))),(some (p21,true)),[]⟩,⟨12,d30,(.q (.iadr s27 s29 32)),(some (p21,true)),[]⟩,⟨13,d31,(.q (.ldn s30 32)),(some (p21,true)),[]⟩,⟨14,d32,(.callv s22 [s26,s31]),(some (p21,true)),[]⟩,⟨15,d33,(.q (.bin .lss s32 (vi 0))),(some (p21,true)),[]⟩,qo 16 d34 (.pick s21 s33 (.v (.bool false)))])
 (.cnd s34 .skip (.exit 2)))
 (.seq (.blk 3 (.rgd 0 [mo 0 d37 s0,mo 1 d38 s9,mo 2 d39 s0,mo 3 d40 s9,qo 4 d41 (.bin .sub s40 (vi 1)),mo 5 d42 s0,mo 6 d43 s9,qo 7 d44 (.bin .sub s43 (vi 1)),qo 8 d45 (.iadr s42 s44 32),qo 9 d46 (.ldn s45 32),mo 10 d47 s0,mo 11 d48 s9,qo 12 d49 (.iadr s47 s48 32),qo 13 d50 (.ldn s49 32),qo 14 d51 (.iadr s37 s38 32),eo 15 none (.st s51 s46 32),qo 16 d52 (.iadr s39 s41 32),eo 17 none (.st s52 s50 32)]))
 (.reg [mo 0 d35 s9,qo 1 d36 (.bin .sub s35 (vi 1)),mo 2 d9 s36])))))))
 (.reg [mo 0 d15 s8,qo 1 d16 (.bin .add s15 (vi 1)),mo 2 d8 s16]))))))
 []
noncomputable def f241 : FnE := .code 34
 (sr [eo 0 d3 (.box s1 33),eo 1 d4 (.alo (lapp [(.int .u64 (.ofNat 0))] (lapp (zz zB 32) [(.int .i64 (.ofNat 0)),(.bool false)]))),qo 2 d5 (.mv (.v (.bool false)))]
 (.seq (.seq (.rgd 0 [mo 0 d8 s0,qo 1 d9 (.nck s8),qo 2 d10 (.fadr s9 2),qo 3 d11 (.ld1 s10),qo 4 d12 (.ldn s3 33),qo 5 d13 (.lkp s11 s12 (.cells [.u8,.u8,.u8,.u8,.u8,.u8,.u8,.u8,.u8,.u8,.u8,.u8,.u8,.u8,.u8,.u8,.u8,.u8,.u8,.u8,.u8,.u8,.u8,.u8,.u8,.u8,.u8,.u8,.u8,.u8,.u8,.u8,.u32]) (.bool false) false)])
 (.cnd s13 (sr [qo 0 d14 (.bld (lapp [(.int .u64 (.ofNat 0))] (lapp (zz zB 32) [(.int .i64 (.ofNat 0)),(.bool false)])) []),eo 1 none (.st s4 s14 35),qo 2 d5 (.mv (.v (.bool false)))]
 .ret) .skip))
 (.seq (.seq (.rgd 0 [mo 0 d16 s0,qo 1 d17 (.nck s16),qo 2 d18 (.fadr s17 1),qo 3 d19 (.ld1 s18),qo 4 d20 (.ldn s3 33),qo 5 d21 (.lkp s19 s20 (.cells [.u8,.u8,.u8,.u8,.u8,.u8,.u8,.u8,.u8,.u8,.u8,.u8,.u8,.u8,.u8,.u8,.u8,.u8,.u8,.u8,.u8,.u8,.u8,.u8,.u8,.u8,.u8,.u8,.u8,.u8,.u8,.u8,.u32]) (.agg (lapp [(.int .u64 (.ofNat 0))] (lapp (zz zB 32) [(.int .i64 (.ofNat 0)),(.bool false)]))) true),mo 6 d15 s21,qo 7 d22 (.ext s15 0),qo 8 d23 (.ext s15 1),⟨9,d6,(.e (.alo (lapp [(.int .u64 (.ofNat 0))] (lapp (zz zB 32) [(.int .i64 (.ofNat 0)),(.bool false)])))),none,[(p19,.ld1 s18,none),(p20,.ldn s3 33,none),(p21,.lkp s19 s20 (.cells [.u8,.u8,.u8,.u8,.u8,.u8,.u8,.u8,.u8,.u8,.u8,.u8,.u8,.u8,.u8,.u8,.u8,.u8,.u8,.u8,.u8,.u8,.u8,.u8,.u8,.u8,.u8,.u8,.u8,.u8,.u8,.u8,.u32]) (.agg (lapp [(.int .u64 (.ofNat 0))] (lapp (zz zB 32) [(.int .i64 (.ofNat 0)),(.bool false)]))) true,none)]⟩,eo 10 none (.st s6 s22 35),mo 11 d7 s23])
 (sr [mo 0 d24 s7]
 (.cnd s24 (sr [qo 0 d25 (.ldn s6 35),eo 1 none (.st s4 s25 35),qo 2 d5 (.mv (.v (.bool true)))]
 .ret) .skip)))
 (.seq (.rgd 0 [mo 0 d26 s0,qo 1 d27 (.nck s26),qo 2 d28 (.fadr s27 0),qo 3 d29 (.ld1 s28),qo 4 d30 (.ldn s3 33),co 5 d31 p259 [s29,s30],qo 6 d32 (.ext s31 0),qo 7 d33 (.ext s31 1),eo 8 none (.st s4 s32 35),mo 9 d5 s33])
 .ret))))
 [.cn p4 35,.t p5]
noncomputable def f242 : FnE := .code 8
 (sr [qo 0 d2 (.mv (.v .nils))]
 (.seq (sr [mo 0 d3 s0,qo 1 d4 (.eqp .slice false s3 (.v .nils))]
 (.cnd s4 (sr [qo 0 d2 (.mv (.v .nils))]
 .ret) .skip))
 (sr [eo 0 d5 (.bsl [] [] 0 35),mo 1 d6 s0,eo 2 d7 (.app s5 s6 35 72 false),mo 3 d2 s7]
 .ret)))
 [.t p2]
noncomputable def f243 : FnE := .code 8
 (sr [qo 0 d2 (.mv (.v .nils))]
 (.seq (sr [mo 0 d3 s0,qo 1 d4 (.eqp .slice false s3 (.v .nils))]
 (.cnd s4 (sr [qo 0 d2 (.mv (.v .nils))]
 .ret) .skip))
 (sr [eo 0 d5 (.bsl [] [] 0 33),mo 1 d6 s0,eo 2 d7 (.app s5 s6 33 40 false),mo 3 d2 s7]
 .ret)))
 [.t p2]
noncomputable def f252 : FnE := .code 6
 (sr [qo 0 d2 (.mv (.v (.bool false)))]
 (sr [mo 0 d3 s0,mo 1 d4 s0,qo 2 d5 (.bin .neq s3 s4),mo 3 d2 s5]
 .ret))
 [.t p2]
noncomputable def f259 : FnE := .code 19
 (sr [eo 0 d3 (.box s1 33),eo 1 d4 (.alo (lapp [(.int .u64 (.ofNat 0))] (lapp (zz zB 32) [(.int .i64 (.ofNat 0)),(.bool false)]))),qo 2 d5 (.mv (.v (.bool false)))]
 (.seq (.rgd 0 [mo 0 d9 s0,qo 1 d10 (.nck s9),qo 2 d11 (.fadr s10 0),qo 3 d12 (.ld1 s11),qo 4 d13 (.ldn s3 33),qo 5 d14 (.lkp s12 s13 (.cells [.u8,.u8,.u8,.u8,.u8,.u8,.u8,.u8,.u8,.u8,.u8,.u8,.u8,.u8,.u8,.u8,.u8,.u8,.u8,.u8,.u8,.u8,.u8,.u8,.u8,.u8,.u8,.u8,.u8,.u8,.u8,.u8,.u32]) (.agg (lapp [(.int .u64 (.ofNat 0))] (lapp (zz zB 32) [(.int .i64 (.ofNat 0)),(.bool false)]))) true),mo 6 d8 s14,qo 7 d15 (.ext s8 0),qo 8 d16 (.ext s8 1),⟨9,d6,(.e (.alo (lapp [(.int .u64 (.ofNat 0))] (lapp (zz zB 32) [(.int .i64 (.ofNat 0)),(.bool false)])))),none,[(p12,.ld1 s11,none),(p13,.ldn s3 33,none),(p14,.lkp s12 s13 (.cells [.u8,.u8,.u8,.u8,.u8,.u8,.u8,.u8,.u8,.u8,.u8,.u8,.u8,.u8,.u8,.u8,.u8,.u8,.u8,.u8,.u8,.u8,.u8,.u8,.u8,.u8,.u8,.u8,.u8,.u8,.u8,.u8,.u32]) (.agg (lapp [(.int .u64 (.ofNat 0))] (lapp (zz zB 32) [(.int .i64 (.ofNat 0)),(.bool false)]))) true,none)]⟩,eo 10 none (.st s6 s15 35),mo 11 d7 s16])
 (sr [qo 0 d17 (.ldn s6 35),mo 1 d18 s7,eo 2 none (.st s4 s17 35),mo 3 d5 s18]
 .ret)))
 [.cn p4 35,.t p5]
noncomputable def f281 : FnE := .code 8
 (sr [mo 0 d2 (vi 0)]
 (sr [mo 0 d3 s0,qo 1 d4 (.nck s3),qo 2 d5 (.fadr s4 0),qo 3 d6 (.ld1 s5),qo 4 d7 (.lenv s6),mo 5 d2 s7]
 .ret))
 [.t p2]
noncomputable def f282 : FnE := .code 30
 (sr [qo 0 d6 (.mv (.v (.bool false)))]
 (.seq (.rgd 0 [mo 0 d7 s0,qo 1 d8 (.nck s7),qo 2 d9 (.fadr s8 2),qo 3 d10 (.ld1 s9),mo 4 d11 s0,qo 5 d12 (.nck s11),qo 6 d13 (.fadr s12 1),qo 7 d14 (.ld1 s13),mo 8 d15 s0,qo 9 d16 (.nck s15),qo 10 d17 (.fadr s16 0),qo 11 d18 (.ld1 s17),mo 12 d19 s1,qo 13 d20 (.iadr s18 s19 32),qo 14 d21 (.ldn s20 32),mo 15 d22 s0,qo 16 d23 (.nck s22),qo 17 d24 (.fadr s23 0),qo 18 d25 (.ld1 s24),mo 19 d26 s2,qo 20 d27 (.iadr s25 s26 32),qo 21 d28 (.ldn s27 32),o 22 d29 (.callv s10 [s14,s21,s28]),mo 23 d6 s29])
 .ret))
 [.t p6]
noncomputable def f283 : FnE := .code 32
 (.rgd 0 [mo 0 d6 s0,qo 1 d7 (.nck s6),qo 2 d8 (.fadr s7 0),qo 3 d9 (.ld1 s8),mo 4 d10 s1,mo 5 d11 s0,qo 6 d12 (.nck s11),qo 7 d13 (.fadr s12 0),qo 8 d14 (.ld1 s13),mo 9 d15 s2,mo 10 d16 s0,qo 11 d17 (.nck s16),qo 12 d18 (.fadr s17 0),qo 13 d19 (.ld1 s18),mo 14 d20 s2,qo 15 d21 (.iadr s19 s20 32),qo 16 d22 (.ldn s21 32),mo 17 d23 s0,qo 18 d24 (.nck s23),qo 19 d25 (.fadr s24 0),qo 20 d26 (.ld1 s25),mo 21 d27 s1,qo 22 d28 (.iadr s26 s27 32),qo 23 d29 (.ldn s28 32),qo 24 d30 (.iadr s9 s10 32),eo 25 none (.st s30 s22 32),qo 26 d31 (.iadr s14 s15 32),eo 27 none (.st s31 s29 32)])
 []
noncomputable def tabA : T FnE := (.node (.node (.node (.node (.node (.node (.node (.node .nil (some f127) .nil) (some f63) (.node .nil (some f191) .nil)) (some f31) (.node .nil (some f95) .nil)) (some f15) (.node (.node .nil (some f79) (.node .nil (some f207) .nil)) (some f47) (.node .nil (some f111) .nil))) (some f7) (.node (.node (.node .nil (some f71) (.node .nil (some f199) .nil)) (some f39) (.node (.node .nil (some f167) .nil) (some f103) .nil)) none (.node (.node (.node .nil (some f151) .nil) (some f87) .nil) (some f55) (.node (.node .nil (some f183) .nil) none .nil)))) (some f3) (.node (.node (.node (.node (.node (.node .nil (some f259) .nil) (some f131) .nil) (some f67) (.node .nil (some f195) .nil)) (some f35) (.node (.node .nil (some f163) .nil) none .nil)) (some f19) (.node (.node .nil (some f83) .nil) (some f51) (.node (.node .nil (some f179) .nil) (some f115) (.node .nil (some f243) .nil)))) (some f11) (.node (.node (.node (.node .nil (some f139) .nil) (some f75) (.node .nil (some f203) .nil)) (some f43) (.node (.node .nil (some f171) .nil) (some f107) .nil)) none (.node (.node (.node (.node .nil (some f283) .nil) (some f155) .nil) (some f91) (.node .nil (some f219) .nil)) (some f59) (.node .nil (some f123) .nil))))) none (.node (.node (.node (.node (.node (.node .nil (some f129) .nil) (some f65) .nil) (some f33) (.node .nil none (.node .nil (some f225) .nil))) (some f17) (.node (.node .nil (some f81) .nil) (some f49) (.node (.node .nil (some f177) .nil) (some f113) (.node .nil (some f241) .nil)))) (some f9) (.node (.node (.node (.node .nil (some f137) .nil) (some f73) .nil) (some f41) (.node (.node .nil (some f169) .nil) (some f105) .nil)) (some f25) (.node (.node (.node (.node .nil (some f281) .nil) (some f153) .nil) (some f89) .nil) (some f57) (.node (.node .nil (some f185) .nil) (some f121) .nil)))) (some f5) (.node (.node (.node (.node (.node .nil (some f133) .nil) (some f69) (.node .nil (some f197) .nil)) (some f37) (.node (.node .nil (some f165) .nil) none .nil)) none (.node (.node (.node .nil (some f149) .nil) (some f85) .nil) none (.node (.node .nil (some f181) .nil) (some f117) .nil))) (some f13) (.node (.node (.node (.node .nil (some f141) .nil) (some f77) .nil) (some f45) (.node (.node .nil (some f173) .nil) (some f109) .nil)) (some f29) (.node (.node (.node .nil (some f157) .nil) (some f93) .nil) (some f61) (.node .nil (some f125) .nil)))))) none (.node (.node (.node (.node (.node (.node (.node .nil (some f128) .nil) (some f64) (.node .nil (some f192) .nil)) (some f32) (.node (.node .nil (some f160) .nil) (some f96) .nil)) (some f16) (.node (.node .nil (some f80) (.node .nil (some f208) .nil)) (some f48) (.node (.node .nil (some f176) .nil) (some f112) .nil))) (some f8) (.node (.node (.node (.node .nil (some f136) .nil) (some f72) .nil) (some f40) (.node (.node .nil (some f168) .nil) (some f104) .nil)) none (.node (.node (.node .nil (some f152) .nil) (some f88) .nil) none (.node (.node .nil (some f184) .nil) (some f120) .nil)))) none (.node (.node (.node (.node (.node .nil (some f132) .nil) (some f68) (.node .nil (some f196) .nil)) (some f36) (.node (.node .nil (some f164) .nil) none (.node .nil (some f228) .nil))) none (.node (.node .nil (some f84) .nil) (some f52) (.node (.node .nil (some f180) .nil) (some f116) .nil))) (some f12) (.node (.node (.node .nil (some f76) .nil) (some f44) (.node (.node .nil (some f172) .nil) (some f108) .nil)) (some f28) (.node (.node (.node .nil (some f156) .nil) (some f92) .nil) (some f60) (.node .nil (some f124) (.node .nil (some f252) .nil)))))) none (.node (.node (.node (.node (.node (.node .nil (some f130) .nil) (some f66) .nil) (some f34) (.node (.node .nil (some f162) .nil) (some f98) .nil)) (some f18) (.node (.node .nil (some f82) .nil) (some f50) (.node (.node .nil (some f178) .nil) (some f114) (.node .nil (some f242) .nil)))) (some f10) (.node (.node (.node (.node .nil (some f138) .nil) (some f74) (.node .nil (some f202) .nil)) (some f42) (.node (.node .nil (some f170) .nil) (some f106) .nil)) none (.node (.node (.node (.node .nil (some f282) .nil) (some f154) .nil) (some f90) (.node .nil (some f218) .nil)) none (.node .nil (some f122) .nil)))) (some f6) (.node (.node (.node (.node (.node .nil (some f134) .nil) (some f70) .nil) (some f38) (.node (.node .nil (some f166) .nil) (some f102) .nil)) none (.node (.node (.node .nil (some f150) .nil) (some f86) .nil) none (.node (.node .nil (some f182) .nil) (some f118) .nil))) (some f14) (.node (.node (.node .nil (some f78) (.node .nil (some f206) .nil)) (some f46) (.node (.node .nil (some f174) .nil) (some f110) .nil)) (some f30) (.node (.node .nil (some f94) .nil) (some f62) (.node (.node .nil (some f190) .nil) (some f126) .nil)))))))
end Go.Proofs.YtldidldbhngmnaaGreatDoor.Ir
namespace Go.Proofs.YtldidldbhngmnaaGreatDoor.Ir
set_option maxRecDepth 100000
open Go Go.Proofs.YtldidldbhngmnaaGreatDoor
noncomputable def gs : List Nat := [15,2,4,3,13,5,10,6,7,8,0,9,16,12,17,18,19,14,20,21,11,1,22,23,24]
noncomputable def kts : List (Nat × List IntKind) := [(34,kk .u8 32),(114,kk .u8 32 ++ [.u32])]
theorem kts_ok : kts.all (fun x => keyB Tryz.prog x.1 x.2) = true := by decide +kernel
noncomputable def mks : List (Nat × KSh) := [(34,.cells (kk .u8 32)),(114,.cells (kk .u8 32 ++ [.u32]))]
theorem mks_ok : ∀ x ∈ mks,MapK Tryz.prog x.1 x.2 := by
 intro x hx
 simp only [mks,List.mem_cons,List.mem_nil_iff,or_false] at hx
 rcases hx with rfl | rfl
 ·exact (key_of (List.all_eq_true.1 kts_ok (34,kk .u8 32) (by simp [kts]))).2
 ·exact (key_of (List.all_eq_true.1 kts_ok (114,kk .u8 32 ++ [.u32]) (by simp [kts]))).2
theorem pt1 : PTok Tryz.prog 334 := ⟨⟨353,(Tryz.prog.info? 334).get!,(Tryz.prog.info? 353).get!,by kernel_rfl,by kernel_rfl,by kernel_rfl,by kernel_rfl,by
 have : Nat.beq (Tryz.prog.info? 353).get!.size 0 = false := by kernel_rfl
 intro h; rw [h] at this; cases this⟩⟩
theorem pt2 : PTok Tryz.prog 201 := ⟨⟨203,(Tryz.prog.info? 201).get!,(Tryz.prog.info? 203).get!,by kernel_rfl,by kernel_rfl,by kernel_rfl,by kernel_rfl,by
 have : Nat.beq (Tryz.prog.info? 203).get!.size 0 = false := by kernel_rfl
 intro h; rw [h] at this; cases this⟩⟩
noncomputable def E : Env Tryz.prog := ⟨gs,kts,fun x hx => (key_of (List.all_eq_true.1 kts_ok x hx)).1,mks,mks_ok,[334,201],fun t ht => by
 simp only [List.mem_cons,List.mem_nil_iff,or_false] at ht
 rcases ht with rfl | rfl
 ·exact pt1
 ·exact pt2⟩
theorem mixed : Tryz.prog.follows .mixedOrders = true := by decide +kernel
theorem tabA_ok : tabOk E tabA id = true := by decide +kernel
theorem tabA_no : noSpec tabA = true := by decide +kernel
noncomputable def machA : Mach := ⟨tabA,fun _ _ _ => none,[334,201],[]⟩
theorem mtA : MtOk Tryz.prog [] := ⟨fun x hx => by cases hx⟩
theorem okA : MOk Tryz.prog E machA (okD E) := mok_of rfl mtA mixed tabA_ok (fun f s h => absurd h (noSpec_get tabA_no f s))
theorem gs_lt : gs.all (fun g => Nat.blt (g + 1) p60.nat) = true := by decide +kernel
theorem gs_lt' : ∀ g ∈ gs,g + 1 < p60.nat := fun g hg => by
 have := List.all_eq_true.1 gs_lt g hg
 rw [blt_eq] at this
 simpa using this
noncomputable def mts : List (Nat × String × Pos) := [(161,"Len",p281),(161,"Less",p282),(161,"Swap",p283)]
theorem mts_ok : MtOk Tryz.prog mts := ⟨fun x hx v w => by
 simp only [mts,List.mem_cons,List.mem_nil_iff,or_false] at hx
 rcases hx with rfl | rfl | rfl
 ·have : (method (Tryz.prog.types.size + Made.depth) 161 v "Len").run Tryz.prog w = .ok (281,v) w := by kernel_rfl
  exact this
 ·have : (method (Tryz.prog.types.size + Made.depth) 161 v "Less").run Tryz.prog w = .ok (282,v) w := by kernel_rfl
  exact this
 ·have : (method (Tryz.prog.types.size + Made.depth) 161 v "Swap").run Tryz.prog w = .ok (283,v) w := by kernel_rfl
  exact this⟩
end Go.Proofs.YtldidldbhngmnaaGreatDoor.Ir
namespace Go.Proofs.YtldidldbhngmnaaGreatDoor.Ir
set_option maxRecDepth 100000
open Go Go.Proofs.YtldidldbhngmnaaGreatDoor Go.ChangeShapes Go.WideShapes Go.ChangeAt Go.RowKit
def sl : List (String × List UInt8) := [("sargasso/api.ErrEnd",[105,116,32,101,110,100,115,32,116,111,111,32,101,97,114,108,121]),("sargasso/api.ErrShape",[110,111,116,32,97,115,32,105,116,32,104,97,115,32,116,111,32,98,101]),("sargasso/api.ErrLong",[116,111,111,32,108,111,110,103]),("sargasso/api.ErrMany",[116,111,111,32,109,97,110,121,44,32,111,114,32,116,111,111,32,102,101,119]),("sargasso/api.ErrValue",[97,110,32,97,109,111,117,110,116,32,116,104,97,116,32,99,97,110,39,116,32,98,101]),("sargasso/api.ErrTwice",[111,110,101,32,116,104,105,110,103,32,116,119,105,99,101]),("sargasso/api.ErrBase",[110,111,32,102,105,114,115,116,32,116,114,97,110,115,97,99,116,105,111,110,32,119,104,101,114,101,32,116,104,101,114,101,32,104,97,115,32,116,111,32,98,101,32,111,110,101,44,32,111,114,32,111,110,101,32,119,104,101,114,101,32,116,104,101,114,101,32,109,97,121,32,98,101,32,110,111,110,101]),("sargasso/api.ErrRoot",[97,32,114,111,111,116,32,116,104,97,116,32,100,111,101,115,32,110,111,116,32,102,105,116]),("sargasso/api.ErrKnown",[107,110,111,119,110,32,97,108,114,101,97,100,121]),("sargasso/api.ErrParent",[110,111,32,115,117,99,104,32,112,97,114,101,110,116]),("sargasso/api.ErrInvalid",[98,101,104,105,110,100,32,119,104,97,116,32,105,115,32,110,111,116,32,118,97,108,105,100]),("sargasso/api.ErrTime",[97,32,116,105,109,101,32,116,104,97,116,32,105,115,32,116,111,111,32,101,97,114,108,121]),("sargasso/api.ErrMissing",[97,32,99,111,105,110,32,116,104,97,116,32,105,115,32,110,111,116,32,116,104,101,114,101]),("sargasso/api.ErrKey",[97,32,107,101,121,32,116,104,97,116,32,100,111,101,115,32,110,111,116,32,102,105,116]),("sargasso/api.ErrYoung",[97,32,99,111,105,110,32,116,104,97,116,32,105,115,32,116,111,111,32,121,111,117,110,103]),("sargasso/api.ErrEarly",[116,111,111,32,101,97,114,108,121,32,116,111,32,98,101,32,116,97,107,101,110]),("sargasso/api.ErrLess",[108,101,115,115,32,99,111,109,101,115,32,105,110,32,116,104,97,110,32,103,111,101,115,32,111,117,116]),("sargasso/api.ErrReward",[109,111,114,101,32,116,104,97,110,32,116,104,101,32,114,101,119,97,114,100]),("sargasso/api.ErrClash",[97,32,99,111,105,110,32,116,104,97,116,32,105,115,32,115,112,101,110,116,32,105,110,32,116,104,101,32,112,111,111,108]),("sargasso/api.ErrLimit",[116,111,111,32,109,97,110,121,32,116,104,97,116,32,104,97,110,103,32,116,111,103,101,116,104,101,114]),("sargasso/api.ErrFull",[116,104,101,114,101,32,105,115,32,110,111,32,114,111,111,109]),("sargasso/api.ErrRange",[97,32,110,117,109,98,101,114,32,111,117,116,32,111,102,32,105,116,115,32,114,97,110,103,101]),("sargasso/api.ErrNone",[116,104,101,114,101,32,105,115,32,110,111,110,101]),("sargasso/api.ErrWord",[110,111,32,115,117,99,104,32,119,111,114,100]),("sargasso/api.ErrNumber",[110,111,116,32,97,32,110,117,109,98,101,114])]
theorem gs_lt26 : gs.all (fun g => Nat.blt g 27) = true := by decide +kernel
noncomputable def sg0 : St := ⟨hG 334 27 0 gs,p60⟩
theorem sg0_ro : roT p60.nat sg0.h id = true := by decide +kernel
theorem sl_gs : sl.map (fun x => Tryz.prog.globalNamed x.1) = gs.map some := by kernel_rfl
theorem gs_type : gs.all (fun g => decide ((Tryz.prog.globals[g]?).map (·.type) = some 28)) = true := by decide +kernel
theorem star : "*" ++ "errors.errorString" = "*errors.errorString" := by decide
theorem err_row (u : TypeId) (h : Tryz.prog.typeName? 3 u = some "*errors.errorString") : u = 334 :=
 typeName_ptr_named (nm := "errors.errorString") (by rw [star]; kernel_rfl) (by kernel_rfl) (by decide) u (by rw [star]; exact h)
theorem begins {W : World} {laid : List (String × DataW Unit)} (hl : laid = sl.map (sentRow "*errors.errorString")) (hn : (laid.filter fun x => x.2.handleName?.isSome) = []) (h : laidMetH Tryz.prog laid W) : ∃ ι,Rep ι sg0 W ∧ Gl gs ι := by
 unfold laidMetH at h
 rw [hn] at h
 subst hl
 obtain ⟨ps,hv,hnd,hrows⟩ := h
 obtain ⟨as_,k1,rfl,k3⟩ := sents_of_laid (P := Tryz.prog) (tp := 334) (te := 353) (ti := 28) Tryz.underlying28 err_row Tryz.underlying334 Tryz.underlying353 rfl rfl Tryz.underlying9 (by kernel_rfl) (by kernel_rfl) sl gs ps sl_gs
  (fun g hg => of_decide_eq_true (List.all_eq_true.1 gs_type g hg)) hv hrows
 exact begin_of k1 (by decide +kernel) sl_gs (fun g hg => by
  have := gs_lt26
  have := List.all_eq_true.1 this g hg
  rw [blt_eq] at this
  simpa using this) hnd k3 (by decide +kernel)
end Go.Proofs.YtldidldbhngmnaaGreatDoor.Ir
namespace Go.Proofs.YtldidldbhngmnaaGreatDoor
open Go
abbrev PS := List (Int × Int)
def Good (cs : PS) : Prop := ∀ p ∈ cs,p.1 = p.2
theorem good_app {a b : PS} (h : Good (lapp a b)) : Good a ∧ Good b := by
 rw [lapp_eq] at h
 exact ⟨fun p hp => h p (by simp [hp]),fun p hp => h p (by simp [hp])⟩
noncomputable def veqP (x y : V) : Option PS := match x with
 | .int k a => (match y with | .int k' b => (match beqK k k' with | true => some [(a,b)] | false => none) | _ => none)
 | x => (match veq x y with | true => some [] | false => none)
noncomputable def veqPL (l : List V) : List V → Option PS := List.rec (motive := fun _ => List V → Option PS) (fun m => match m with | [] => some [] | _ :: _ => none)
 (fun x _ ih m => match m with | [] => none | y :: m => (match x with
  | .int k a => (match y with | .int k' b => (match beqK k k' with | true => (match ih m with | some r => some ((a,b) :: r) | none => none) | false => none) | _ => none)
  | _ => none)) l
noncomputable def veqA (x y : V) : Option PS := match x with
 | .agg l => (match y with | .agg m => veqPL l m | _ => none)
 | x => veqP x y
theorem ieq_refl (a : Int) : ieq a a = true := by rw [ieq_eq]; simp
theorem veqP_ok {x y : V} {cs : PS} (h : veqP x y = some cs) (g : Good cs) : veq x y = true := by
 cases x with
 | int k a =>
  cases y <;> try (cases h; done)
  rename_i k' b
  have h : (match beqK k k' with | true => some [(a,b)] | false => none) = some cs := h
  split at h
  ·rename_i hk
   cases h
   have : a = b := g (a,b) (by simp)
   subst this
   show (match beqK k k' with | true => ieq a a | false => false) = true
   rw [hk]
   exact ieq_refl a
  ·cases h
 | _ =>
  unfold veqP at h
  simp only at h
  split at h
  ·assumption
  ·cases h
theorem veqPL_ok {f : V → V → Bool} (hf : ∀ k k' a,beqK k k' = true → f (.int k a) (.int k' a) = true) : ∀ {l m : List V} {cs : PS},veqPL l m = some cs → Good cs → veqL f l m = true
 | [],[],cs,h,g => rfl
 | [],_ :: _,cs,h,g => by cases h
 | x :: l,[],cs,h,g => by cases h
 | x :: l,y :: m,cs,h,g => by
  cases x with
  | int k a =>
   cases y with
   | int k' b =>
    have h : (match beqK k k' with | true => (match veqPL l m with | some r => some ((a,b) :: r) | none => none) | false => none) = some cs := h
    cases hk : beqK k k' with
    | false => rw [hk] at h; cases h
    | true =>
     rw [hk] at h
     cases hr : veqPL l m with
     | none => rw [hr] at h; cases h
     | some r =>
      rw [hr] at h
      cases h
      have e : a = b := g (a,b) (by simp)
      subst e
      have ih := veqPL_ok hf hr (fun p hp => g p (by simp [hp]))
      show (match f (.int k a) (.int k' a) with | true => veqL f l m | false => false) = true
      rw [hf k k' a hk]
      exact ih
   | _ => cases h
  | _ => cases h
theorem veqA_ok {x y : V} {cs : PS} (h : veqA x y = some cs) (g : Good cs) : veq x y = true := by
 cases x with
 | agg l =>
  cases y <;> try (cases h; done)
  rename_i m
  have h : veqPL l m = some cs := h
  show veqL (veqS (veqS veq0)) l m = true
  refine veqPL_ok (fun k k' a hk => ?_) h g
  show (match beqK k k' with | true => ieq a a | false => false) = true
  rw [hk]
  exact ieq_refl a
 | _ => exact veqP_ok h g
noncomputable def rechkP (pt : List Nat) (A : T V) (σ : St) (l : List (Pos × QOp × Option (Pos × Bool))) : Option PS := List.rec (motive := fun _ => Option PS) (some [])
 (fun r _ ih => match wantG A r.2.2 with
  | none => none
  | some false => ih
  | some true => (match qevF pt r.2.1 A σ with | some v => (match veqA v (ev A (.s r.1)) with | some cs => (match ih with | some ds => some (lapp cs ds) | none => none) | none => none) | none => none)) l
theorem rechkP_ok {pt : List Nat} {A : T V} {σ : St} : ∀ {l : List (Pos × QOp × Option (Pos × Bool))} {cs : PS},rechkP pt A σ l = some cs → Good cs → rechk pt A σ l = true
 | [],cs,h,g => rfl
 | r :: l,cs,h,g => by
  have h : (match wantG A r.2.2 with
   | none => none
   | some false => rechkP pt A σ l
   | some true => (match qevF pt r.2.1 A σ with | some v => (match veqA v (ev A (.s r.1)) with | some cs => (match rechkP pt A σ l with | some ds => some (lapp cs ds) | none => none) | none => none) | none => none)) = some cs := h
  show (match wantG A r.2.2 with
   | none => false
   | some false => rechk pt A σ l
   | some true => (match qevF pt r.2.1 A σ with | some v => (match veq v (ev A (.s r.1)) with | true => rechk pt A σ l | false => false) | none => false)) = true
  cases hw : wantG A r.2.2 with
  | none => rw [hw] at h; cases h
  | some b =>
   rw [hw] at h
   cases b with
   | false => exact rechkP_ok h g
   | true =>
    simp only at h ⊢
    cases hv : qevF pt r.2.1 A σ with
    | none => rw [hv] at h; cases h
    | some v =>
     rw [hv] at h
     simp only at h ⊢
     cases h1 : veqA v (ev A (.s r.1)) with
     | none => rw [h1] at h; cases h
     | some cs1 =>
      rw [h1] at h
      simp only at h
      cases h2 : rechkP pt A σ l with
      | none => rw [h2] at h; cases h
      | some ds =>
       rw [h2] at h
       cases h
       obtain ⟨g1,g2⟩ := good_app g
       rw [veqA_ok h1 g1]
       exact rechkP_ok h2 g2
abbrev CP := Pos → List V → St → Option (V × St × PS)
noncomputable def xfinP (M : Mach) (ro : RO) (A : T V) (r : Option (V × St × PS)) : Option (T V × St × PS) := match r with
 | none => none
 | some (v,σ,cs) => (match rechkP M.pt (putD A ro.dst v) σ ro.re with | some ds => some (putD A ro.dst v,σ,lapp cs ds) | none => none)
noncomputable def noP (r : Option (V × St)) : Option (V × St × PS) := match r with | none => none | some (v,σ) => some (v,σ,[])
noncomputable def xCallvP (call : CP) (g : Arg) (l : List Arg) (A : T V) (σ : St) : Option (V × St × PS) := match ev A g with | .fn f x y => call (natPos f) (lapp x (lapp (lmap (ev A) l) y)) σ | _ => none
noncomputable def xInvP (M : Mach) (call : CP) (r : Arg) (name : String) (l : List Arg) (A : T V) (σ : St) : Option (V × St × PS) := match ev A r with | .iface t v => (match mtFind M.mt t name with | some f => call f (v :: lmap (ev A) l) σ | none => none) | _ => none
noncomputable def xopP (M : Mach) (call : CP) (nms : List Pos) (x : XOp) (A : T V) (σ : St) : Option (V × St × PS) := match x with
 | .q o => noP (xQ M o A σ)
 | .e o => noP (eevF o none A σ)
 | .l o j => noP (xL nms o j A σ)
 | .call f l => call f (lmap (ev A) l) σ
 | .callv g l => xCallvP call g l A σ
 | .inv r name l => xInvP M call r name l A σ
 | .bad => none
noncomputable def xstepP (M : Mach) (call : CP) (nms : List Pos) (ro : RO) (A : T V) (σ : St) : Option (T V × St × PS) := match wantG A ro.gd with
 | none => none
 | some false => some (putD A ro.dst (.tup []),σ,[])
 | some true => xfinP M ro A (xopP M call nms ro.op A σ)
noncomputable def runP (M : Mach) (call : CP) (nms : List Pos) (l : List RO) : T V → St → Option (T V × St × PS) := List.rec (motive := fun _ => T V → St → Option (T V × St × PS)) (fun A σ => some (A,σ,[]))
 (fun ro _ ih A σ => match xstepP M call nms ro A σ with | none => none | some (A',σ',cs) => (match ih A' σ' with | none => none | some (A2,σ2,ds) => some (A2,σ2,lapp cs ds))) l
abbrev BP := T V → St → Option (XE × T V × St × PS)
noncomputable def loopP (b : BP) (n : Nat) : BP := Nat.rec (motive := fun _ => BP) (fun _ _ => none)
 (fun _ ih A σ => match b A σ with | none => none | some (x,A',σ',cs) => (match x with | .nrm => (match ih A' σ' with | none => none | some (y,A2,σ2,ds) => some (y,A2,σ2,lapp cs ds)) | x => some (x,A',σ',cs))) n
noncomputable def eRegP (M : Mach) (call : CP) (l : List RO) : BP := fun A σ => match runP M call [] l A σ with | none => none | some (A',σ',cs) => some (.nrm,A',σ',cs)
noncomputable def eRgdP (M : Mach) (call : CP) (k : Nat) (l : List RO) : BP := fun A σ => match namesOf k σ.nx with | (nms,nx) => (match runP M call nms l A ⟨σ.h,nx⟩ with | none => none | some (A',σ',cs) => some (.nrm,A',σ',cs))
noncomputable def eSeqP (fa fb : BP) : BP := fun A σ => match fa A σ with | none => none | some (x,A',σ',cs) => (match x with | .nrm => (match fb A' σ' with | none => none | some (y,A2,σ2,ds) => some (y,A2,σ2,lapp cs ds)) | x => some (x,A',σ',cs))
noncomputable def eCndP (c : Arg) (fa fb : BP) : BP := fun A σ => match ev A c with | .bool t => (match t with | true => fa A σ | false => fb A σ) | _ => none
noncomputable def eBlkP (i : Nat) (f : BP) : BP := fun A σ => match f A σ with | none => none | some (x,A',σ',cs) => (match x with | .ext j => (match Nat.beq j i with | true => some (.nrm,A',σ',cs) | false => some (.ext j,A',σ',cs)) | x => some (x,A',σ',cs))
noncomputable def execP (M : Mach) (call : CP) (n : Nat) (c : IR) : BP := IR.rec (motive := fun _ => BP)
 (fun A σ => some (.nrm,A,σ,[]))
 (fun l => eRegP M call l)
 (fun k l => eRgdP M call k l)
 (fun _ _ iha ihb => eSeqP iha ihb)
 (fun c _ _ iha ihb => eCndP c iha ihb)
 (fun i _ ih => eBlkP i ih)
 (fun _ ih => loopP ih n)
 (fun i A σ => some (.ext i,A,σ,[]))
 (fun A σ => some (.ret,A,σ,[]))
 (fun _ _ => none) c
noncomputable def runFn1P (M : Mach) (call : CP) (n : Nat) (f : Pos) (vs : List V) (σ : St) : Option (V × St × PS) := match T.get f M.tab with
 | none => none
 | some (.spec s) => noP (M.spec s vs σ)
 | some (.code nt b res) => (match Nat.ble (llen vs) nt with
  | false => none
  | true => (match execP M call n b (frameOf vs .H .nil) σ with
   | none => none
   | some (x,A,σ',cs) => (match x with
    | .ext _ => none
    | _ => (match resF res A σ' with | some l => some (one l,σ',cs) | none => none))))
noncomputable def runFnP (M : Mach) (n : Nat) : CP := Nat.rec (motive := fun _ => CP) (fun _ _ _ => none) (fun n ih => runFn1P M ih n) n
def CallP (cp : CP) (call : Pos → List V → St → Option (V × St)) : Prop := ∀ f vs σ v σ' cs,cp f vs σ = some (v,σ',cs) → Good cs → call f vs σ = some (v,σ')
theorem noP_eq {r : Option (V × St)} {v : V} {σ : St} {cs : PS} (h : noP r = some (v,σ,cs)) : r = some (v,σ) := by
 unfold noP at h
 split at h
 ·cases h
 ·cases h; rfl
theorem xopP_ok {M : Mach} {cp : CP} {call : Pos → List V → St → Option (V × St)} (hc : CallP cp call) {nms : List Pos} {x : XOp} {A : T V} {σ σ' : St} {v : V} {cs : PS} (h : xopP M cp nms x A σ = some (v,σ',cs)) (g : Good cs) : xop M call nms x A σ = some (v,σ') := by
 cases x with
 | q o => exact noP_eq h
 | e o => exact noP_eq h
 | l o j => exact noP_eq h
 | call f l => exact hc _ _ _ _ _ _ h g
 | callv f l =>
  have h : (match ev A f with | .fn f x y => cp (natPos f) (lapp x (lapp (lmap (ev A) l) y)) σ | _ => none) = some (v,σ',cs) := h
  show (match ev A f with | .fn f x y => call (natPos f) (lapp x (lapp (lmap (ev A) l) y)) σ | _ => none) = some (v,σ')
  split at h
  ·rename_i f2 x y hf
   exact hc _ _ _ _ _ _ h g
  ·cases h
 | inv r name l =>
  have h : (match ev A r with | .iface t v => (match mtFind M.mt t name with | some f => cp f (v :: lmap (ev A) l) σ | none => none) | _ => none) = some (v,σ',cs) := h
  show (match ev A r with | .iface t v => (match mtFind M.mt t name with | some f => call f (v :: lmap (ev A) l) σ | none => none) | _ => none) = some (v,σ')
  split at h
  ·rename_i t v2 hf
   split at h
   ·rename_i f hm
    first | exact hc _ _ _ _ _ _ h g | rw [hm]
    try exact hc _ _ _ _ _ _ h g
   ·cases h
  ·cases h
 | bad => cases h
theorem xstepP_ok {M : Mach} {cp : CP} {call : Pos → List V → St → Option (V × St)} (hc : CallP cp call) {nms : List Pos} {ro : RO} {A A' : T V} {σ σ' : St} {cs : PS} (h : xstepP M cp nms ro A σ = some (A',σ',cs)) (g : Good cs) : xstep M call nms ro A σ = some (A',σ') := by
 unfold xstepP at h
 unfold xstep
 split at h
 ·cases h
 ·rename_i hw; rw [hw]; cases h; rfl
 ·rename_i hw
  rw [hw]
  simp only
  unfold xfinP at h
  split at h
  ·cases h
  ·rename_i v σ1 cs1 hx
   split at h
   ·rename_i ds hr
    cases h
    obtain ⟨g1,g2⟩ := good_app g
    rw [xopP_ok hc hx g1]
    unfold xfin
    simp only
    rw [rechkP_ok hr g2]
   ·cases h
theorem runP_ok {M : Mach} {cp : CP} {call : Pos → List V → St → Option (V × St)} (hc : CallP cp call) {nms : List Pos} : ∀ {l : List RO} {A A' : T V} {σ σ' : St} {cs : PS},runP M cp nms l A σ = some (A',σ',cs) → Good cs → runR M call nms l A σ = some (A',σ')
 | [],A,A',σ,σ',cs,h,g => by
  have h : some (A,σ,[]) = some (A',σ',cs) := h
  cases h; rfl
 | ro :: l,A,A',σ,σ',cs,h,g => by
  have h : (match xstepP M cp nms ro A σ with | none => none | some (A',σ',cs) => (match runP M cp nms l A' σ' with | none => none | some (A2,σ2,ds) => some (A2,σ2,lapp cs ds))) = some (A',σ',cs) := h
  show (match xstep M call nms ro A σ with | none => none | some (A',σ') => runR M call nms l A' σ') = some (A',σ')
  split at h
  ·cases h
  ·rename_i A1 σ1 cs1 h1
   split at h
   ·cases h
   ·rename_i A2 σ2 ds h2
    cases h
    obtain ⟨g1,g2⟩ := good_app g
    rw [xstepP_ok hc h1 g1]
    exact runP_ok hc h2 g2
def BodyP (bp : BP) (b : T V → St → Option (XE × T V × St)) : Prop := ∀ A σ e A' σ' cs,bp A σ = some (e,A',σ',cs) → Good cs → b A σ = some (e,A',σ')
theorem loopP_ok {bp : BP} {b : T V → St → Option (XE × T V × St)} (hb : BodyP bp b) : ∀ n,BodyP (loopP bp n) (loopF b n)
 | 0 => fun A σ e A' σ' cs h g => by cases h
 | n + 1 => fun A σ e A' σ' cs h g => by
  have h : (match bp A σ with | none => none | some (x,A',σ',cs) => (match x with | .nrm => (match loopP bp n A' σ' with | none => none | some (y,A2,σ2,ds) => some (y,A2,σ2,lapp cs ds)) | x => some (x,A',σ',cs))) = some (e,A',σ',cs) := h
  show (match b A σ with | none => none | some (x,A',σ') => (match x with | .nrm => loopF b n A' σ' | x => some (x,A',σ'))) = some (e,A',σ')
  split at h
  ·cases h
  ·rename_i x A1 σ1 cs1 h1
   cases x with
   | nrm =>
    simp only at h
    split at h
    ·cases h
    ·rename_i y A2 σ2 ds h2
     cases h
     obtain ⟨g1,g2⟩ := good_app g
     rw [hb _ _ _ _ _ _ h1 g1]
     exact loopP_ok hb n _ _ _ _ _ _ h2 g2
   | ext i => cases h; rw [hb _ _ _ _ _ _ h1 g]
   | ret => cases h; rw [hb _ _ _ _ _ _ h1 g]
theorem execP_ok {M : Mach} {cp : CP} {call : Pos → List V → St → Option (V × St)} (hc : CallP cp call) (n : Nat) : ∀ c : IR,BodyP (execP M cp n c) (exec M call n c) := by
 intro c
 induction c with
 | skip =>
  intro A σ e A' σ' cs h g
  have h : some (XE.nrm,A,σ,[]) = some (e,A',σ',cs) := h
  cases h; rfl
 | reg l =>
  intro A σ e A' σ' cs h g
  have h : (match runP M cp [] l A σ with | none => none | some (A',σ',cs) => some (XE.nrm,A',σ',cs)) = some (e,A',σ',cs) := h
  show (match runR M call [] l A σ with | none => none | some (A',σ') => some (XE.nrm,A',σ')) = some (e,A',σ')
  split at h
  ·cases h
  ·rename_i A1 σ1 cs1 h1
   cases h
   rw [runP_ok hc h1 g]
 | rgd k l =>
  intro A σ e A' σ' cs h g
  have h : (match runP M cp (namesOf k σ.nx).1 l A ⟨σ.h,(namesOf k σ.nx).2⟩ with | none => none | some (A',σ',cs) => some (XE.nrm,A',σ',cs)) = some (e,A',σ',cs) := h
  show (match runR M call (namesOf k σ.nx).1 l A ⟨σ.h,(namesOf k σ.nx).2⟩ with | none => none | some (A',σ') => some (XE.nrm,A',σ')) = some (e,A',σ')
  split at h
  ·cases h
  ·rename_i A1 σ1 cs1 h1
   cases h
   rw [runP_ok hc h1 g]
 | seq a b iha ihb =>
  intro A σ e A' σ' cs h g
  have h : (match execP M cp n a A σ with | none => none | some (x,A',σ',cs) => (match x with | .nrm => (match execP M cp n b A' σ' with | none => none | some (y,A2,σ2,ds) => some (y,A2,σ2,lapp cs ds)) | x => some (x,A',σ',cs))) = some (e,A',σ',cs) := h
  show (match exec M call n a A σ with | none => none | some (x,A',σ') => (match x with | .nrm => exec M call n b A' σ' | x => some (x,A',σ'))) = some (e,A',σ')
  split at h
  ·cases h
  ·rename_i x A1 σ1 cs1 h1
   cases x with
   | nrm =>
    simp only at h
    split at h
    ·cases h
    ·rename_i y A2 σ2 ds h2
     cases h
     obtain ⟨g1,g2⟩ := good_app g
     rw [iha _ _ _ _ _ _ h1 g1]
     exact ihb _ _ _ _ _ _ h2 g2
   | ext i => cases h; rw [iha _ _ _ _ _ _ h1 g]
   | ret => cases h; rw [iha _ _ _ _ _ _ h1 g]
 | cnd c a b iha ihb =>
  intro A σ e A' σ' cs h g
  have h : (match ev A c with | .bool t => (match t with | true => execP M cp n a A σ | false => execP M cp n b A σ) | _ => none) = some (e,A',σ',cs) := h
  show (match ev A c with | .bool t => (match t with | true => exec M call n a A σ | false => exec M call n b A σ) | _ => none) = some (e,A',σ')
  split at h
  ·rename_i t ht
   cases t with
   | true => exact iha _ _ _ _ _ _ h g
   | false => exact ihb _ _ _ _ _ _ h g
  ·cases h
 | blk i b ih =>
  intro A σ e A' σ' cs h g
  have h : (match execP M cp n b A σ with | none => none | some (x,A',σ',cs) => (match x with | .ext j => (match Nat.beq j i with | true => some (XE.nrm,A',σ',cs) | false => some (.ext j,A',σ',cs)) | x => some (x,A',σ',cs))) = some (e,A',σ',cs) := h
  show (match exec M call n b A σ with | none => none | some (x,A',σ') => (match x with | .ext j => (match Nat.beq j i with | true => some (XE.nrm,A',σ') | false => some (.ext j,A',σ')) | x => some (x,A',σ'))) = some (e,A',σ')
  split at h
  ·cases h
  ·rename_i x A1 σ1 cs1 h1
   cases x with
   | nrm => cases h; rw [ih _ _ _ _ _ _ h1 g]
   | ret => cases h; rw [ih _ _ _ _ _ _ h1 g]
   | ext j =>
    simp only at h
    split at h
    ·rename_i hj; cases h; rw [ih _ _ _ _ _ _ h1 g]; simp only; rw [hj]
    ·rename_i hj; cases h; rw [ih _ _ _ _ _ _ h1 g]; simp only; rw [hj]
 | loop b ih => exact loopP_ok ih n
 | exit i =>
  intro A σ e A' σ' cs h g
  have h : some (XE.ext i,A,σ,[]) = some (e,A',σ',cs) := h
  cases h; rfl
 | ret =>
  intro A σ e A' σ' cs h g
  have h : some (XE.ret,A,σ,[]) = some (e,A',σ',cs) := h
  cases h; rfl
 | bad => intro A σ e A' σ' cs h g; cases h
theorem runFnP_ok (M : Mach) : ∀ n,CallP (runFnP M n) (runFn M n)
 | 0 => fun f vs σ v σ' cs h g => by cases h
 | n + 1 => fun f vs σ v σ' cs h g => by
  have h : runFn1P M (runFnP M n) n f vs σ = some (v,σ',cs) := h
  show runFn1 M (runFn M n) n f vs σ = some (v,σ')
  unfold runFn1P at h
  unfold runFn1
  split at h
  ·cases h
  ·rename_i s hs
   rw [hs]
   exact noP_eq h
  ·rename_i nt b res hb
   rw [hb]
   simp only
   split at h
   ·cases h
   ·rename_i hle
    rw [hle]
    simp only
    split at h
    ·cases h
    ·rename_i x A σ1 cs1 h1
     have hcs : cs1 = cs := by
      cases x with
      | ext i => cases h
      | nrm => simp only at h; split at h <;> cases h; rfl
      | ret => simp only at h; split at h <;> cases h; rfl
     subst hcs
     rw [execP_ok (runFnP_ok M n) n b _ _ _ _ _ _ h1 g]
     cases x with
     | ext i => cases h
     | nrm => simp only at h ⊢; split at h <;> cases h; rename_i l hl; rw [hl]
     | ret => simp only at h ⊢; split at h <;> cases h; rename_i l hl; rw [hl]
theorem good_of {cs : PS} (h : lmap (fun p => p.1) cs = lmap (fun p => p.2) cs) : Good cs := by
 rw [lmap_eq,lmap_eq] at h
 intro p hp
 obtain ⟨i,hi⟩ := List.getElem?_of_mem hp
 have h1 : (cs.map (fun p => p.1))[i]? = some p.1 := by rw [List.getElem?_map,hi]; rfl
 have h2 : (cs.map (fun p => p.2))[i]? = some p.2 := by rw [List.getElem?_map,hi]; rfl
 rw [h,h2] at h1
 exact (Option.some.inj h1).symm
end Go.Proofs.YtldidldbhngmnaaGreatDoor
