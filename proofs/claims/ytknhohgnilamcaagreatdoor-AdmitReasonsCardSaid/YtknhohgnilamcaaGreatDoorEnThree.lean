/-
  The abstract machine: texts joined. (Of no program.)
-/
import Derived.Test.YtknhohgnilamcaaGreatDoorEnTwo
import Derived.Below
/-
  For laws: a row of hashes as a table, a call done once in the beginning's memory, a law's closing. (Of no program.)
-/
namespace Go.Proofs.YtknhohgnilamcaaGreatDoor
set_option linter.unusedVariables false
set_option linter.unusedSimpArgs false
set_option linter.unusedSectionVars false
open Go Go.RowKit

noncomputable def okV (r : Option (V × St)) (v : V) : Bool := match r with | some (w, _) => veq w v | none => false
theorem okV_run {r : Option (V × St)} {v : V} (h : okV r v = true) : ∃ σ2, r = some (v, σ2) := by
  unfold okV at h
  split at h
  · rename_i w σ2
    exact ⟨σ2, by rw [veq_eq h]⟩
  · cases h
noncomputable def bs (l : List Nat) : List V := lmap (fun n => V.int .u8 (.ofNat n)) l
theorem bs_bare (l : List Nat) : ∀ x ∈ bs l, Bare x := by
  intro x hx
  unfold bs at hx
  rw [lmap_eq, List.mem_map] at hx
  obtain ⟨n, _, rfl⟩ := hx
  exact bare_int _ _

/-! hashes -/
noncomputable def look (l : List V) (t : List (List V × V)) : Option V := List.rec (motive := fun _ => Option V) none (fun x _ ih => match veqL veq0 x.1 l with | true => some x.2 | false => ih) t
theorem look_mem {l : List V} : ∀ {t : List (List V × V)} {v : V}, look l t = some v → (l, v) ∈ t
  | [], v, h => by cases h
  | x :: t, v, h => by
    have h : (match veqL veq0 x.1 l with | true => some x.2 | false => look l t) = some v := h
    split at h
    · rename_i hx
      cases h
      rw [← veqL_eq (fun _ _ h => veq0_eq h) hx]
      simp
    · exact List.mem_cons_of_mem _ (look_mem h)
noncomputable def hashSpec (t : List (List V × V)) (z : Option V) (vs : List V) (σ : St) : Option (V × St) := match vs with
  | [.slice p o len _ 1] => (match T.get p σ.h with | some (.cells l _ _ _) => (match look (ltake (ldrop l o) len) t with | some v => (match Nat.beq (llen (ltake (ldrop l o) len)) len with | true => some (v, σ) | false => none) | none => none) | _ => none)
  | [.nils] => (match z with | some v => some (v, σ) | none => none)
  | _ => none
section
variable {P : Program}
theorem hash_sound {ng : GS} {call : Pos → List V → St → Option (V × St)} (hc : CallOK P ng call) {f q : Pos} (hq : ∀ g ∈ ng, g + 1 < q.nat) {t : List (List V × V)} {z : Option V}
    (ht : ∀ x ∈ t, 0 < x.1.length ∧ (∀ y ∈ x.1, Bare y) ∧ Bare x.2 ∧ ∃ σ2, call f [.slice q 0 x.1.length none 1] ⟨T.set (Ob.cells x.1 [] false true) q .nil, q.succ⟩ = some (x.2, σ2))
    (hz : ∀ v, z = some v → Bare v ∧ ∃ σ2, call f [.nils] ⟨.nil, q⟩ = some (v, σ2))
    {vs : List V} {σ : St} {v : V} {σ' : St} (h : hashSpec t z vs σ = some (v, σ')) {ι : Nm} {w : World} {args : Array Value} (hG : Gl ng ι) (R : Rep ι σ w) (hv : VRs ι vs args.toList) : Calls P (f.nat - 1) args w (Post ι σ w v σ') := by
  unfold hashSpec at h
  split at h
  · rename_i p o len cap
    split at h
    · rename_i l kin fz ro hp
      split at h
      · rename_i v1 hl
        split at h
        · rename_i hlen
          cases h
          obtain ⟨h1, h2, h3, σ2, h4⟩ := ht _ (look_mem hl)
          have hlen := Nat.eq_of_beq_eq_true hlen
          rw [llen_eq] at hlen
          simp only [hlen] at h4 h1
          exact call_bytes hc hq h1 hlen h2 h4 h3 hG R hp (by rw [ltake_eq, ldrop_eq]) hv
        · cases h
      · cases h
    · cases h
  · split at h
    · rename_i v1 hz1
      cases h
      obtain ⟨h3, σ2, h4⟩ := hz _ rfl
      refine call_forget hc (s2 := ⟨.nil, q⟩) (σ2 := σ2) (fun g hg => by have := hq g hg; exact this) (fun p o h => by rw [T.get_nil] at h; cases h) h4 h3 hG R (fun p o h => by rw [T.get_nil] at h; cases h) ?_
      refine ⟨hv.1, fun i a b ha hb => ?_⟩
      have := hv.2 i a b ha hb
      cases i with
      | zero => simp at ha; subst ha; cases this; exact .nils
      | succ i => simp at ha
    · cases h
  · cases h

/-! what is read-only, name by name -/
noncomputable def nmB (m : Nat) (v : V) : Bool := V.rec (motive_1 := fun _ => Bool) (motive_2 := fun _ => Bool) true (fun _ => true) (fun _ _ => true) (fun _ => true) true (fun p _ => Nat.blt p.nat m) true (fun _ _ _ _ _ => false) true (fun _ => false) true (fun _ _ _ _ _ => false) true (fun _ _ ih => ih) (fun _ _ => false) (fun _ _ => false) true (fun _ _ _ _ => true) v
theorem nmB_vr {m : Nat} {ι ι2 : Nm} (h2 : ∀ x : Pos, x.nat < m → ι2 x = ι x) {v : V} {y : Value} (h : VR ι v y) : nmB m v = true → VR ι2 v y := by
  induction h with
  | u v => exact fun _ => .u v
  | bool b => exact fun _ => .bool b
  | int k n hn => exact fun _ => .int k n hn
  | str l s hs => exact fun _ => .str l s hs
  | nilp => exact fun _ => .nilp
  | ptr p o pl hp hk =>
    intro hb
    have hb : Nat.blt p.nat m = true := hb
    rw [blt_eq] at hb
    exact .ptr p o pl ((h2 p (by simpa using hb)).trans hp) hk
  | nils => exact fun _ => .nils
  | slice p o len cap esz pl a c hp hk hc hl ha hs => exact fun hb => by cases hb
  | nilm => exact fun _ => .nilm
  | map p pl hp hk => exact fun hb => by cases hb
  | nilf => exact fun _ => .nilf
  | fn f x y x' y' hx hy h1 h2 ih1 ih2 => exact fun hb => by cases hb
  | nili => exact fun _ => .nili
  | iface t v v' hv ih => exact fun hb => .iface t v v' (ih hb)
  | agg l c hl hh ih => exact fun hb => by cases hb
  | tup l c hl hh ih => exact fun hb => by cases hb
noncomputable def roO (m : Nat) (p : Pos) (ob : Ob) : Bool := match ob with | .cells l kin fz ro => (match kin with | [] => Nat.blt p.nat m && ro && lall (nmB m) l | _ :: _ => false) | _ => false
def optB (v : Option Ob) (f : Ob → Bool) : Bool := match v with | none => true | some o => f o
noncomputable def roT (m : Nat) (t : T Ob) : (Pos → Pos) → Bool := T.rec (motive := fun _ => (Pos → Pos) → Bool) (fun _ => true)
  (fun _ v _ ihl ihr k => optB v (roO m (k .H)) && ihl (fun p => k (.O p)) && ihr (fun p => k (.I p))) t
theorem roT_spec (m : Nat) : ∀ (t : T Ob) (k : Pos → Pos), roT m t k = true → ∀ p o, T.get p t = some o → roO m (k p) o = true := by
  intro t
  induction t with
  | nil => intro k h p o hp; rw [T.get_nil] at hp; cases hp
  | node l v r ihl ihr =>
    intro k h p o hp
    have h : (optB v (roO m (k .H)) && roT m l (fun p => k (.O p)) && roT m r (fun p => k (.I p))) = true := h
    simp only [Bool.and_eq_true] at h
    cases p with
    | H =>
      have hp : v = some o := hp
      rw [hp] at h
      exact h.1.1
    | O p => exact ihl _ h.1.2 p o hp
    | I p => exact ihr _ h.2 p o hp
noncomputable def veqU (x y : V) : Bool := match x with | .u => (match y with | .u => true | _ => false) | x => veq x y
theorem veqU_eq (x y : V) (h : veqU x y = true) : x = y := by
  unfold veqU at h
  split at h
  · cases y <;> first | rfl | cases h
  · exact veq_eq h
noncomputable def obeq (a b : Ob) : Bool := match a with
  | .cells l kin fz ro => (match b with | .cells l' kin' fz' ro' => (match kin with | [] => (match kin' with | [] => veqL veqU l l' && (fz == fz') && (ro == ro') | _ :: _ => false) | _ :: _ => false) | _ => false)
  | _ => false
theorem obeq_eq {a b : Ob} (h : obeq a b = true) : a = b := by
  cases a <;> try (cases h; done)
  cases b <;> try (cases h; done)
  rename_i l kin fz ro l' kin' fz' ro'
  cases kin <;> try (cases h; done)
  cases kin' <;> try (cases h; done)
  have h : (veqL veqU l l' && (fz == fz') && (ro == ro')) = true := h
  simp only [Bool.and_eq_true, beq_iff_eq] at h
  rw [veqL_eq veqU_eq h.1.1, h.1.2, h.2]
noncomputable def obeqO (v v' : Option Ob) : Bool := match v with | none => (match v' with | none => true | some _ => false) | some x => (match v' with | none => false | some y => obeq x y)
noncomputable def teq (a : T Ob) : T Ob → Bool := T.rec (motive := fun _ => T Ob → Bool) (fun b => match b with | .nil => true | .node _ _ _ => false)
  (fun _ v _ ihl ihr b => match b with | .nil => false | .node l v' r => obeqO v v' && ihl l && ihr r) a
theorem teq_eq : ∀ {a b : T Ob}, teq a b = true → a = b := by
  intro a
  induction a with
  | nil => intro b h; cases b with | nil => rfl | node l v r => cases h
  | node l v r ihl ihr =>
    intro b h
    cases b with
    | nil => cases h
    | node l' v' r' =>
      have h : (obeqO v v' && teq l l' && teq r r') = true := h
      simp only [Bool.and_eq_true] at h
      rw [ihl h.1.2, ihr h.2]
      have hv := h.1.1
      congr 1
      cases v <;> cases v' <;> simp only [obeqO, Bool.false_eq_true] at hv
      · rfl
      · rw [obeq_eq hv]
/-- a function of no arguments, run once in the beginning's memory -/
noncomputable def onceSpec (s0 : St) (out : V) (vs : List V) (σ : St) : Option (V × St) := match vs with | [] => (match teq s0.h σ.h with | true => some (out, σ) | false => none) | _ => none
theorem once_sound {ng : GS} {call : Pos → List V → St → Option (V × St)} (hc : CallOK P ng call) {f : Pos} {s0 : St} (hng : ∀ g ∈ ng, g + 1 < s0.nx.nat) (hro : roT s0.nx.nat s0.h id = true) {out : V} (hb : Bare out) (hrun : ∃ σ2, call f [] s0 = some (out, σ2))
    {vs : List V} {σ : St} {v : V} {σ' : St} (h : onceSpec s0 out vs σ = some (v, σ')) {ι : Nm} {w : World} {args : Array Value} (hG : Gl ng ι) (R : Rep ι σ w) (hv : VRs ι vs args.toList) : Calls P (f.nat - 1) args w (Post ι σ w v σ') := by
  unfold onceSpec at h
  split at h
  · split at h
    · rename_i ht
      cases h
      obtain ⟨σ2, hrun⟩ := hrun
      have he := teq_eq ht
      have hall : ∀ p o, T.get p s0.h = some o → ∃ l fz, o = .cells l [] fz true ∧ p.nat < s0.nx.nat ∧ ∀ x ∈ l, nmB s0.nx.nat x = true := fun p o hp => by
        have h1 := roT_spec _ _ id hro p o hp
        unfold roO at h1
        split at h1
        · rename_i l kin fz ro
          cases kin with
          | cons _ _ => cases h1
          | nil =>
            simp only [Bool.and_eq_true, blt_eq, decide_eq_true_eq] at h1
            rw [lall_eq] at h1
            refine ⟨l, fz, by rw [h1.1.2], h1.1.1, fun x hx => ?_⟩
            exact List.all_eq_true.1 h1.2 x hx
        · cases h1
      refine call_forget hc (s2 := s0) (σ2 := σ2) hng ?_ hrun hb hG R ?_ (by
        have : args.toList = [] := List.eq_nil_of_length_eq_zero (by rw [← hv.1]; rfl)
        rw [this]; exact .nil)
      · intro p o hp
        obtain ⟨l, fz, rfl, h1, h2⟩ := hall p o hp
        exact ⟨by simp [Ob.wr], rfl, h1⟩
      · intro p o hp
        obtain ⟨l, fz, rfl, h1, h2⟩ := hall p o hp
        refine ⟨by rw [← he]; exact hp, ?_⟩
        obtain ⟨pl, c, e, k1, k2, k3, k4, k5, k6⟩ := R.ob p _ (by rw [← he]; exact hp)
        refine ⟨pl, c, e, by show (if p.nat < s0.nx.nat then ι p else none) = _; rw [if_pos h1]; exact k1, k2, k3, k4, k5, fun i x y hx hy => ?_⟩
        exact nmB_vr (fun z hz => by show (if z.nat < s0.nx.nat then ι z else none) = _; rw [if_pos hz]) (k6 i x y hx hy) (h2 x (List.mem_of_getElem? hx))
    · cases h
  · cases h

/-- a whole number turned into one of a range -/
noncomputable def numSpec (vs : List V) (σ : St) : Option (V × St) := match vs with
  | [.int .i64 n, .int .i64 b] => (match ilt (.ofNat 0) b with | true => (match ilt b (.ofNat 1000001) with | true => some (.int .i64 (Int.emod n b), σ) | false => none) | false => none)
  | _ => none
theorem num_sound {f : Pos} (hnum : ∀ (n b : Int), 1 ≤ b → b ≤ 1000000 → -9223372036854775808 ≤ n → n ≤ 9223372036854775807 → ∀ w, Calls P (f.nat - 1) #[.int .i64 n, .int .i64 b] w fun e w' => e = .returned (.int .i64 (n % b)) ∧ w = w')
    {vs : List V} {σ : St} {v : V} {σ' : St} (h : numSpec vs σ = some (v, σ')) {ι : Nm} {w : World} {args : Array Value} (R : Rep ι σ w) (hv : VRs ι vs args.toList) : Calls P (f.nat - 1) args w (Post ι σ w v σ') := by
  unfold numSpec at h
  split at h
  · rename_i n b
    split at h
    · rename_i h1
      split at h
      · rename_i h2
        cases h
        rw [ilt_eq] at h1 h2
        have h1 : (0 : Int) < b := by simpa using h1
        have h2 : b < (1000001 : Int) := by simpa using h2
        obtain ⟨l⟩ := args
        have hl : 2 = l.length := hv.1
        match l, hl, hv with
        | [x, y], _, hv =>
          have e1 := hv.2 0 _ x rfl rfl
          have e2 := hv.2 1 _ y rfl rfl
          cases e1 with
          | int _ _ hn =>
            cases e2 with
            | int _ _ hb =>
              refine (hnum n b (by omega) (by omega) hn.1 hn.2 w).mono ?_
              rintro e w' ⟨rfl, rfl⟩
              have hlo := Int.emod_nonneg n (show b ≠ 0 by omega)
              have hhi := Int.emod_lt_of_pos n (show 0 < b by omega)
              refine ⟨ι, _, rfl, .int _ _ ⟨?_, ?_⟩, R, .refl _ _ _ _⟩
              · show (-9223372036854775808 : Int) ≤ n % b; omega
              · show n % b ≤ (9223372036854775807 : Int); omega
      · cases h
    · cases h
  · cases h

/-! a run's steps -/
theorem ex_seq {M : Mach} {call : Pos → List V → St → Option (V × St)} {f : Nat} {a b : IR} {A A1 : T V} {σ σ1 : St} (h : exec M call f a A σ = some (.nrm, A1, σ1)) : exec M call f (.seq a b) A σ = exec M call f b A1 σ1 := by
  show (match exec M call f a A σ with | none => none | some (x, A', σ') => (match x with | .nrm => exec M call f b A' σ' | x => some (x, A', σ'))) = _
  rw [h]
/-- a function's end -/
noncomputable def finR (res : List RV) (r : Option (XE × T V × St)) : Option (V × St) := match r with
  | none => none
  | some (x, A', σ') => (match x with | .ext _ => none | .nrm => (match resF res A' σ' with | some l => some (one l, σ') | none => none) | .ret => (match resF res A' σ' with | some l => some (one l, σ') | none => none))
theorem run_fin {M : Mach} {k : Nat} {f : Pos} {n : Nat} {b : IR} {res : List RV} (h : T.get f M.tab = some (.code n b res)) {vs : List V} (hle : Nat.ble (llen vs) n = true) (σ : St) :
    runFn M (k + 1) f vs σ = finR res (exec M (runFn M k) k b (frameOf vs .H .nil) σ) := by
  show runFn1 M (runFn M k) k f vs σ = _
  unfold runFn1
  rw [h]
  simp only [hle]
  unfold finR
  cases exec M (runFn M k) k b (frameOf vs .H .nil) σ with
  | none => rfl
  | some r => obtain ⟨x, A', σ'⟩ := r; cases x <;> rfl

/-- a table without named contracts -/
def codeO (v : Option FnE) : Bool := match v with | none => true | some e => (match e with | .code _ _ _ => true | .spec _ => false)
noncomputable def noSpec (t : T FnE) : Bool := T.rec (motive := fun _ => Bool) true (fun _ v _ ihl ihr => codeO v && ihl && ihr) t
theorem noSpec_get : ∀ {t : T FnE}, noSpec t = true → ∀ p s, T.get p t ≠ some (.spec s) := by
  intro t
  induction t with
  | nil => intro _ p s h; rw [T.get_nil] at h; cases h
  | node l v r ihl ihr =>
    intro h p s hp
    have h : (codeO v && noSpec l && noSpec r) = true := h
    simp only [Bool.and_eq_true] at h
    cases p with
    | H =>
      have hp : v = some (.spec s) := hp
      rw [hp] at h
      exact absurd h.1.1 (by simp [codeO])
    | O p => exact ihl h.1.2 p s hp
    | I p => exact ihr h.2 p s hp
/-- a law's run, out of a beginning where nothing may be written -/
theorem law_calls {E : Env P} {M : Mach} {okD : Nat → Nat → List RO → Array Oper → Bool} (K : MOk P E M okD) {k : Nat} {f : Pos} {vs : List V} {s0 σ' : St} {v : V} (hro : roT s0.nx.nat s0.h id = true) (hrun : runFn M k f vs s0 = some (v, σ'))
    {ι : Nm} {w : World} {args : Array Value} (hG : Gl E.ng ι) (R : Rep ι s0 w) (hv : VRs ι vs args.toList) : Calls P (f.nat - 1) args w fun e w' => ∃ v', e = .returned v' ∧ (∃ ι', VR ι' v v') ∧ Below w.heap.size w w' := by
  refine ((run_sound K k f vs s0 v σ' hrun).2 ι w args hG R hv).mono ?_
  rintro e w' ⟨ι', v', rfl, h1, h2, h3⟩
  refine ⟨v', rfl, ⟨ι', h1⟩, ⟨h3.os, h3.tape, h3.out, h3.size, fun r hr => h3.keep r hr ?_⟩⟩
  rintro ⟨p, o, pl, i1, i2, i3, i4⟩
  have h1 := roT_spec _ _ id hro p o i1
  unfold roO at h1
  split at h1
  · rename_i l kin fz ro
    cases kin with
    | cons _ _ => cases h1
    | nil =>
      simp only [Bool.and_eq_true] at h1
      rw [h1.1.2] at i2
      simp [Ob.wr] at i2
  · cases h1
end
end Go.Proofs.YtknhohgnilamcaaGreatDoor

/-
  Runs with numbers that are not known: what a drawn region looks at again is set down in pairs, to be shown alike. (Of no program.)
-/
namespace Go.Proofs.YtknhohgnilamcaaGreatDoor
set_option linter.unusedVariables false
set_option linter.unusedSimpArgs false
set_option linter.unusedSectionVars false
open Go

abbrev PS := List (Int × Int)
def Good (cs : PS) : Prop := ∀ p ∈ cs, p.1 = p.2
theorem good_app {a b : PS} (h : Good (lapp a b)) : Good a ∧ Good b := by
  rw [lapp_eq] at h
  exact ⟨fun p hp => h p (by simp [hp]), fun p hp => h p (by simp [hp])⟩
noncomputable def veqP (x y : V) : Option PS := match x with
  | .int k a => (match y with | .int k' b => (match beqK k k' with | true => some [(a, b)] | false => none) | _ => none)
  | x => (match veq x y with | true => some [] | false => none)
noncomputable def veqPL (l : List V) : List V → Option PS := List.rec (motive := fun _ => List V → Option PS) (fun m => match m with | [] => some [] | _ :: _ => none)
  (fun x _ ih m => match m with | [] => none | y :: m => (match x with
    | .int k a => (match y with | .int k' b => (match beqK k k' with | true => (match ih m with | some r => some ((a, b) :: r) | none => none) | false => none) | _ => none)
    | _ => none)) l
noncomputable def veqA (x y : V) : Option PS := match x with
  | .agg l => (match y with | .agg m => veqPL l m | _ => none)
  | x => veqP x y
theorem ieq_refl (a : Int) : ieq a a = true := by rw [ieq_eq]; simp
theorem beqK_refl {k k' : IntKind} (h : beqK k k' = true) : k = k' := beqK_eq h
theorem veqP_ok {x y : V} {cs : PS} (h : veqP x y = some cs) (g : Good cs) : veq x y = true := by
  cases x with
  | int k a =>
    cases y <;> try (cases h; done)
    rename_i k' b
    have h : (match beqK k k' with | true => some [(a, b)] | false => none) = some cs := h
    split at h
    · rename_i hk
      cases h
      have : a = b := g (a, b) (by simp)
      subst this
      show (match beqK k k' with | true => ieq a a | false => false) = true
      rw [hk]
      exact ieq_refl a
    · cases h
  | _ =>
    unfold veqP at h
    simp only at h
    split at h
    · assumption
    · cases h
theorem veqPL_ok {f : V → V → Bool} (hf : ∀ k k' a, beqK k k' = true → f (.int k a) (.int k' a) = true) : ∀ {l m : List V} {cs : PS}, veqPL l m = some cs → Good cs → veqL f l m = true
  | [], [], cs, h, g => rfl
  | [], _ :: _, cs, h, g => by cases h
  | x :: l, [], cs, h, g => by cases h
  | x :: l, y :: m, cs, h, g => by
    cases x with
    | int k a =>
      cases y with
      | int k' b =>
        have h : (match beqK k k' with | true => (match veqPL l m with | some r => some ((a, b) :: r) | none => none) | false => none) = some cs := h
        cases hk : beqK k k' with
        | false => rw [hk] at h; cases h
        | true =>
          rw [hk] at h
          cases hr : veqPL l m with
          | none => rw [hr] at h; cases h
          | some r =>
            rw [hr] at h
            cases h
            have e : a = b := g (a, b) (by simp)
            subst e
            have ih := veqPL_ok hf hr (fun p hp => g p (by simp [hp]))
            show (match f (.int k a) (.int k' a) with | true => veqL f l m | false => false) = true
            rw [hf k k' a hk]
            exact ih
      | _ => cases h
    | _ => cases h
theorem veqA_ok {x y : V} {cs : PS} (h : veqA x y = some cs) (g : Good cs) : veq x y = true := by
  cases x with
  | agg l =>
    cases y <;> try (cases h; done)
    rename_i m
    have h : veqPL l m = some cs := h
    show veqL (veqS (veqS veq0)) l m = true
    refine veqPL_ok (fun k k' a hk => ?_) h g
    show (match beqK k k' with | true => ieq a a | false => false) = true
    rw [hk]
    exact ieq_refl a
  | _ => exact veqP_ok h g
noncomputable def rechkP (pt : List Nat) (A : T V) (σ : St) (l : List (Pos × QOp × Option (Pos × Bool))) : Option PS := List.rec (motive := fun _ => Option PS) (some [])
  (fun r _ ih => match wantG A r.2.2 with
    | none => none
    | some false => ih
    | some true => (match qevF pt r.2.1 A σ with | some v => (match veqA v (ev A (.s r.1)) with | some cs => (match ih with | some ds => some (lapp cs ds) | none => none) | none => none) | none => none)) l
theorem rechkP_ok {pt : List Nat} {A : T V} {σ : St} : ∀ {l : List (Pos × QOp × Option (Pos × Bool))} {cs : PS}, rechkP pt A σ l = some cs → Good cs → rechk pt A σ l = true
  | [], cs, h, g => rfl
  | r :: l, cs, h, g => by
    have h : (match wantG A r.2.2 with
      | none => none
      | some false => rechkP pt A σ l
      | some true => (match qevF pt r.2.1 A σ with | some v => (match veqA v (ev A (.s r.1)) with | some cs => (match rechkP pt A σ l with | some ds => some (lapp cs ds) | none => none) | none => none) | none => none)) = some cs := h
    show (match wantG A r.2.2 with
      | none => false
      | some false => rechk pt A σ l
      | some true => (match qevF pt r.2.1 A σ with | some v => (match veq v (ev A (.s r.1)) with | true => rechk pt A σ l | false => false) | none => false)) = true
    cases hw : wantG A r.2.2 with
    | none => rw [hw] at h; cases h
    | some b =>
      rw [hw] at h
      cases b with
      | false => exact rechkP_ok h g
      | true =>
        simp only at h ⊢
        cases hv : qevF pt r.2.1 A σ with
        | none => rw [hv] at h; cases h
        | some v =>
          rw [hv] at h
          simp only at h ⊢
          cases h1 : veqA v (ev A (.s r.1)) with
          | none => rw [h1] at h; cases h
          | some cs1 =>
            rw [h1] at h
            simp only at h
            cases h2 : rechkP pt A σ l with
            | none => rw [h2] at h; cases h
            | some ds =>
              rw [h2] at h
              cases h
              obtain ⟨g1, g2⟩ := good_app g
              rw [veqA_ok h1 g1]
              exact rechkP_ok h2 g2
abbrev CP := Pos → List V → St → Option (V × St × PS)
noncomputable def xfinP (M : Mach) (ro : RO) (A : T V) (r : Option (V × St × PS)) : Option (T V × St × PS) := match r with
  | none => none
  | some (v, σ, cs) => (match rechkP M.pt (putD A ro.dst v) σ ro.re with | some ds => some (putD A ro.dst v, σ, lapp cs ds) | none => none)
noncomputable def noP (r : Option (V × St)) : Option (V × St × PS) := match r with | none => none | some (v, σ) => some (v, σ, [])
noncomputable def xCallvP (call : CP) (g : Arg) (l : List Arg) (A : T V) (σ : St) : Option (V × St × PS) := match ev A g with | .fn f x y => call (natPos f) (lapp x (lapp (lmap (ev A) l) y)) σ | _ => none
noncomputable def xInvP (M : Mach) (call : CP) (r : Arg) (name : String) (l : List Arg) (A : T V) (σ : St) : Option (V × St × PS) := match ev A r with | .iface t v => (match mtFind M.mt t name with | some f => call f (v :: lmap (ev A) l) σ | none => none) | _ => none
noncomputable def xopP (M : Mach) (call : CP) (nms : List Pos) (x : XOp) (A : T V) (σ : St) : Option (V × St × PS) := match x with
  | .q o => noP (xQ M o A σ)
  | .e o => noP (eevF o none A σ)
  | .l o j => noP (xL nms o j A σ)
  | .call f l => call f (lmap (ev A) l) σ
  | .callv g l => xCallvP call g l A σ
  | .inv r name l => xInvP M call r name l A σ
  | .bad => none
noncomputable def xstepP (M : Mach) (call : CP) (nms : List Pos) (ro : RO) (A : T V) (σ : St) : Option (T V × St × PS) := match wantG A ro.gd with
  | none => none
  | some false => some (putD A ro.dst (.tup []), σ, [])
  | some true => xfinP M ro A (xopP M call nms ro.op A σ)
noncomputable def runP (M : Mach) (call : CP) (nms : List Pos) (l : List RO) : T V → St → Option (T V × St × PS) := List.rec (motive := fun _ => T V → St → Option (T V × St × PS)) (fun A σ => some (A, σ, []))
  (fun ro _ ih A σ => match xstepP M call nms ro A σ with | none => none | some (A', σ', cs) => (match ih A' σ' with | none => none | some (A2, σ2, ds) => some (A2, σ2, lapp cs ds))) l
abbrev BP := T V → St → Option (XE × T V × St × PS)
noncomputable def loopP (b : BP) (n : Nat) : BP := Nat.rec (motive := fun _ => BP) (fun _ _ => none)
  (fun _ ih A σ => match b A σ with | none => none | some (x, A', σ', cs) => (match x with | .nrm => (match ih A' σ' with | none => none | some (y, A2, σ2, ds) => some (y, A2, σ2, lapp cs ds)) | x => some (x, A', σ', cs))) n
noncomputable def eRegP (M : Mach) (call : CP) (l : List RO) : BP := fun A σ => match runP M call [] l A σ with | none => none | some (A', σ', cs) => some (.nrm, A', σ', cs)
noncomputable def eRgdP (M : Mach) (call : CP) (k : Nat) (l : List RO) : BP := fun A σ => match namesOf k σ.nx with | (nms, nx) => (match runP M call nms l A ⟨σ.h, nx⟩ with | none => none | some (A', σ', cs) => some (.nrm, A', σ', cs))
noncomputable def eSeqP (fa fb : BP) : BP := fun A σ => match fa A σ with | none => none | some (x, A', σ', cs) => (match x with | .nrm => (match fb A' σ' with | none => none | some (y, A2, σ2, ds) => some (y, A2, σ2, lapp cs ds)) | x => some (x, A', σ', cs))
noncomputable def eCndP (c : Arg) (fa fb : BP) : BP := fun A σ => match ev A c with | .bool t => (match t with | true => fa A σ | false => fb A σ) | _ => none
noncomputable def eBlkP (i : Nat) (f : BP) : BP := fun A σ => match f A σ with | none => none | some (x, A', σ', cs) => (match x with | .ext j => (match Nat.beq j i with | true => some (.nrm, A', σ', cs) | false => some (.ext j, A', σ', cs)) | x => some (x, A', σ', cs))
noncomputable def execP (M : Mach) (call : CP) (n : Nat) (c : IR) : BP := IR.rec (motive := fun _ => BP)
  (fun A σ => some (.nrm, A, σ, []))
  (fun l => eRegP M call l)
  (fun k l => eRgdP M call k l)
  (fun _ _ iha ihb => eSeqP iha ihb)
  (fun c _ _ iha ihb => eCndP c iha ihb)
  (fun i _ ih => eBlkP i ih)
  (fun _ ih => loopP ih n)
  (fun i A σ => some (.ext i, A, σ, []))
  (fun A σ => some (.ret, A, σ, []))
  (fun _ _ => none) c
noncomputable def runFn1P (M : Mach) (call : CP) (n : Nat) (f : Pos) (vs : List V) (σ : St) : Option (V × St × PS) := match T.get f M.tab with
  | none => none
  | some (.spec s) => noP (M.spec s vs σ)
  | some (.code nt b res) => (match Nat.ble (llen vs) nt with
    | false => none
    | true => (match execP M call n b (frameOf vs .H .nil) σ with
      | none => none
      | some (x, A, σ', cs) => (match x with
        | .ext _ => none
        | _ => (match resF res A σ' with | some l => some (one l, σ', cs) | none => none))))
noncomputable def runFnP (M : Mach) (n : Nat) : CP := Nat.rec (motive := fun _ => CP) (fun _ _ _ => none) (fun n ih => runFn1P M ih n) n

def CallP (cp : CP) (call : Pos → List V → St → Option (V × St)) : Prop := ∀ f vs σ v σ' cs, cp f vs σ = some (v, σ', cs) → Good cs → call f vs σ = some (v, σ')
theorem noP_eq {r : Option (V × St)} {v : V} {σ : St} {cs : PS} (h : noP r = some (v, σ, cs)) : r = some (v, σ) := by
  unfold noP at h
  split at h
  · cases h
  · cases h; rfl
theorem xopP_ok {M : Mach} {cp : CP} {call : Pos → List V → St → Option (V × St)} (hc : CallP cp call) {nms : List Pos} {x : XOp} {A : T V} {σ σ' : St} {v : V} {cs : PS} (h : xopP M cp nms x A σ = some (v, σ', cs)) (g : Good cs) : xop M call nms x A σ = some (v, σ') := by
  cases x with
  | q o => exact noP_eq h
  | e o => exact noP_eq h
  | l o j => exact noP_eq h
  | call f l => exact hc _ _ _ _ _ _ h g
  | callv f l =>
    have h : (match ev A f with | .fn f x y => cp (natPos f) (lapp x (lapp (lmap (ev A) l) y)) σ | _ => none) = some (v, σ', cs) := h
    show (match ev A f with | .fn f x y => call (natPos f) (lapp x (lapp (lmap (ev A) l) y)) σ | _ => none) = some (v, σ')
    split at h
    · rename_i f2 x y hf
      exact hc _ _ _ _ _ _ h g
    · cases h
  | inv r name l =>
    have h : (match ev A r with | .iface t v => (match mtFind M.mt t name with | some f => cp f (v :: lmap (ev A) l) σ | none => none) | _ => none) = some (v, σ', cs) := h
    show (match ev A r with | .iface t v => (match mtFind M.mt t name with | some f => call f (v :: lmap (ev A) l) σ | none => none) | _ => none) = some (v, σ')
    split at h
    · rename_i t v2 hf
      split at h
      · rename_i f hm
        first | exact hc _ _ _ _ _ _ h g | rw [hm]
        try exact hc _ _ _ _ _ _ h g
      · cases h
    · cases h
  | bad => cases h
theorem xstepP_ok {M : Mach} {cp : CP} {call : Pos → List V → St → Option (V × St)} (hc : CallP cp call) {nms : List Pos} {ro : RO} {A A' : T V} {σ σ' : St} {cs : PS} (h : xstepP M cp nms ro A σ = some (A', σ', cs)) (g : Good cs) : xstep M call nms ro A σ = some (A', σ') := by
  unfold xstepP at h
  unfold xstep
  split at h
  · cases h
  · rename_i hw; rw [hw]; cases h; rfl
  · rename_i hw
    rw [hw]
    simp only
    unfold xfinP at h
    split at h
    · cases h
    · rename_i v σ1 cs1 hx
      split at h
      · rename_i ds hr
        cases h
        obtain ⟨g1, g2⟩ := good_app g
        rw [xopP_ok hc hx g1]
        unfold xfin
        simp only
        rw [rechkP_ok hr g2]
      · cases h
theorem runP_ok {M : Mach} {cp : CP} {call : Pos → List V → St → Option (V × St)} (hc : CallP cp call) {nms : List Pos} : ∀ {l : List RO} {A A' : T V} {σ σ' : St} {cs : PS}, runP M cp nms l A σ = some (A', σ', cs) → Good cs → runR M call nms l A σ = some (A', σ')
  | [], A, A', σ, σ', cs, h, g => by
    have h : some (A, σ, []) = some (A', σ', cs) := h
    cases h; rfl
  | ro :: l, A, A', σ, σ', cs, h, g => by
    have h : (match xstepP M cp nms ro A σ with | none => none | some (A', σ', cs) => (match runP M cp nms l A' σ' with | none => none | some (A2, σ2, ds) => some (A2, σ2, lapp cs ds))) = some (A', σ', cs) := h
    show (match xstep M call nms ro A σ with | none => none | some (A', σ') => runR M call nms l A' σ') = some (A', σ')
    split at h
    · cases h
    · rename_i A1 σ1 cs1 h1
      split at h
      · cases h
      · rename_i A2 σ2 ds h2
        cases h
        obtain ⟨g1, g2⟩ := good_app g
        rw [xstepP_ok hc h1 g1]
        exact runP_ok hc h2 g2
def BodyP (bp : BP) (b : T V → St → Option (XE × T V × St)) : Prop := ∀ A σ e A' σ' cs, bp A σ = some (e, A', σ', cs) → Good cs → b A σ = some (e, A', σ')
theorem loopP_ok {bp : BP} {b : T V → St → Option (XE × T V × St)} (hb : BodyP bp b) : ∀ n, BodyP (loopP bp n) (loopF b n)
  | 0 => fun A σ e A' σ' cs h g => by cases h
  | n + 1 => fun A σ e A' σ' cs h g => by
    have h : (match bp A σ with | none => none | some (x, A', σ', cs) => (match x with | .nrm => (match loopP bp n A' σ' with | none => none | some (y, A2, σ2, ds) => some (y, A2, σ2, lapp cs ds)) | x => some (x, A', σ', cs))) = some (e, A', σ', cs) := h
    show (match b A σ with | none => none | some (x, A', σ') => (match x with | .nrm => loopF b n A' σ' | x => some (x, A', σ'))) = some (e, A', σ')
    split at h
    · cases h
    · rename_i x A1 σ1 cs1 h1
      cases x with
      | nrm =>
        simp only at h
        split at h
        · cases h
        · rename_i y A2 σ2 ds h2
          cases h
          obtain ⟨g1, g2⟩ := good_app g
          rw [hb _ _ _ _ _ _ h1 g1]
          exact loopP_ok hb n _ _ _ _ _ _ h2 g2
      | ext i => cases h; rw [hb _ _ _ _ _ _ h1 g]
      | ret => cases h; rw [hb _ _ _ _ _ _ h1 g]
theorem execP_ok {M : Mach} {cp : CP} {call : Pos → List V → St → Option (V × St)} (hc : CallP cp call) (n : Nat) : ∀ c : IR, BodyP (execP M cp n c) (exec M call n c) := by
  intro c
  induction c with
  | skip =>
    intro A σ e A' σ' cs h g
    have h : some (XE.nrm, A, σ, []) = some (e, A', σ', cs) := h
    cases h; rfl
  | reg l =>
    intro A σ e A' σ' cs h g
    have h : (match runP M cp [] l A σ with | none => none | some (A', σ', cs) => some (XE.nrm, A', σ', cs)) = some (e, A', σ', cs) := h
    show (match runR M call [] l A σ with | none => none | some (A', σ') => some (XE.nrm, A', σ')) = some (e, A', σ')
    split at h
    · cases h
    · rename_i A1 σ1 cs1 h1
      cases h
      rw [runP_ok hc h1 g]
  | rgd k l =>
    intro A σ e A' σ' cs h g
    have h : (match runP M cp (namesOf k σ.nx).1 l A ⟨σ.h, (namesOf k σ.nx).2⟩ with | none => none | some (A', σ', cs) => some (XE.nrm, A', σ', cs)) = some (e, A', σ', cs) := h
    show (match runR M call (namesOf k σ.nx).1 l A ⟨σ.h, (namesOf k σ.nx).2⟩ with | none => none | some (A', σ') => some (XE.nrm, A', σ')) = some (e, A', σ')
    split at h
    · cases h
    · rename_i A1 σ1 cs1 h1
      cases h
      rw [runP_ok hc h1 g]
  | seq a b iha ihb =>
    intro A σ e A' σ' cs h g
    have h : (match execP M cp n a A σ with | none => none | some (x, A', σ', cs) => (match x with | .nrm => (match execP M cp n b A' σ' with | none => none | some (y, A2, σ2, ds) => some (y, A2, σ2, lapp cs ds)) | x => some (x, A', σ', cs))) = some (e, A', σ', cs) := h
    show (match exec M call n a A σ with | none => none | some (x, A', σ') => (match x with | .nrm => exec M call n b A' σ' | x => some (x, A', σ'))) = some (e, A', σ')
    split at h
    · cases h
    · rename_i x A1 σ1 cs1 h1
      cases x with
      | nrm =>
        simp only at h
        split at h
        · cases h
        · rename_i y A2 σ2 ds h2
          cases h
          obtain ⟨g1, g2⟩ := good_app g
          rw [iha _ _ _ _ _ _ h1 g1]
          exact ihb _ _ _ _ _ _ h2 g2
      | ext i => cases h; rw [iha _ _ _ _ _ _ h1 g]
      | ret => cases h; rw [iha _ _ _ _ _ _ h1 g]
  | cnd c a b iha ihb =>
    intro A σ e A' σ' cs h g
    have h : (match ev A c with | .bool t => (match t with | true => execP M cp n a A σ | false => execP M cp n b A σ) | _ => none) = some (e, A', σ', cs) := h
    show (match ev A c with | .bool t => (match t with | true => exec M call n a A σ | false => exec M call n b A σ) | _ => none) = some (e, A', σ')
    split at h
    · rename_i t ht
      cases t with
      | true => exact iha _ _ _ _ _ _ h g
      | false => exact ihb _ _ _ _ _ _ h g
    · cases h
  | blk i b ih =>
    intro A σ e A' σ' cs h g
    have h : (match execP M cp n b A σ with | none => none | some (x, A', σ', cs) => (match x with | .ext j => (match Nat.beq j i with | true => some (XE.nrm, A', σ', cs) | false => some (.ext j, A', σ', cs)) | x => some (x, A', σ', cs))) = some (e, A', σ', cs) := h
    show (match exec M call n b A σ with | none => none | some (x, A', σ') => (match x with | .ext j => (match Nat.beq j i with | true => some (XE.nrm, A', σ') | false => some (.ext j, A', σ')) | x => some (x, A', σ'))) = some (e, A', σ')
    split at h
    · cases h
    · rename_i x A1 σ1 cs1 h1
      cases x with
      | nrm => cases h; rw [ih _ _ _ _ _ _ h1 g]
      | ret => cases h; rw [ih _ _ _ _ _ _ h1 g]
      | ext j =>
        simp only at h
        split at h
        · rename_i hj; cases h; rw [ih _ _ _ _ _ _ h1 g]; simp only; rw [hj]
        · rename_i hj; cases h; rw [ih _ _ _ _ _ _ h1 g]; simp only; rw [hj]
  | loop b ih => exact loopP_ok ih n
  | exit i =>
    intro A σ e A' σ' cs h g
    have h : some (XE.ext i, A, σ, []) = some (e, A', σ', cs) := h
    cases h; rfl
  | ret =>
    intro A σ e A' σ' cs h g
    have h : some (XE.ret, A, σ, []) = some (e, A', σ', cs) := h
    cases h; rfl
  | bad => intro A σ e A' σ' cs h g; cases h
theorem runFnP_ok (M : Mach) : ∀ n, CallP (runFnP M n) (runFn M n)
  | 0 => fun f vs σ v σ' cs h g => by cases h
  | n + 1 => fun f vs σ v σ' cs h g => by
    have h : runFn1P M (runFnP M n) n f vs σ = some (v, σ', cs) := h
    show runFn1 M (runFn M n) n f vs σ = some (v, σ')
    unfold runFn1P at h
    unfold runFn1
    split at h
    · cases h
    · rename_i s hs
      rw [hs]
      exact noP_eq h
    · rename_i nt b res hb
      rw [hb]
      simp only
      split at h
      · cases h
      · rename_i hle
        rw [hle]
        simp only
        split at h
        · cases h
        · rename_i x A σ1 cs1 h1
          have hcs : cs1 = cs := by
            cases x with
            | ext i => cases h
            | nrm => simp only at h; split at h <;> cases h; rfl
            | ret => simp only at h; split at h <;> cases h; rfl
          subst hcs
          rw [execP_ok (runFnP_ok M n) n b _ _ _ _ _ _ h1 g]
          cases x with
          | ext i => cases h
          | nrm => simp only at h ⊢; split at h <;> cases h; rename_i l hl; rw [hl]
          | ret => simp only at h ⊢; split at h <;> cases h; rename_i l hl; rw [hl]
theorem good_of {cs : PS} (h : lmap (fun p => p.1) cs = lmap (fun p => p.2) cs) : Good cs := by
  rw [lmap_eq, lmap_eq] at h
  intro p hp
  obtain ⟨i, hi⟩ := List.getElem?_of_mem hp
  have h1 : (cs.map (fun p => p.1))[i]? = some p.1 := by rw [List.getElem?_map, hi]; rfl
  have h2 : (cs.map (fun p => p.2))[i]? = some p.2 := by rw [List.getElem?_map, hi]; rfl
  rw [h, h2] at h1
  exact (Option.some.inj h1).symm
end Go.Proofs.YtknhohgnilamcaaGreatDoor

/-
  Views: a state seen through other names, what is of no use forgotten; what may be said of a piece of the machine's code in a state whose numbers are not known. (Of no program.)
-/
namespace Go.Proofs.YtknhohgnilamcaaGreatDoor
set_option linter.unusedVariables false
set_option linter.unusedSimpArgs false
set_option linter.unusedSectionVars false
open Go Go.RowKit

/-- a value under new names; what has none is not spoken of -/
noncomputable def ren (ri : Pos → Option Pos) (v : V) : V := V.rec (motive_1 := fun _ => V) (motive_2 := fun _ => List V) .u (fun b => .bool b) (fun k n => .int k n) (fun l => .str l) .nilp
  (fun p o => match ri p with | some q => .ptr q o | none => .u) .nils (fun p o len cap esz => match ri p with | some q => .slice q o len cap esz | none => .u) .nilm (fun p => match ri p with | some q => .map q | none => .u)
  .nilf (fun f _ _ x y => .fn f x y) .nili (fun t _ x => .iface t x) (fun _ x => .agg x) (fun _ x => .tup x) [] (fun _ _ x xs => x :: xs) v
noncomputable def renL (ri : Pos → Option Pos) (l : List V) : List V := List.rec (motive := fun _ => List V) [] (fun v _ ih => ren ri v :: ih) l
theorem renL_eq (ri : Pos → Option Pos) : ∀ l, renL ri l = l.map (ren ri)
  | [] => rfl
  | v :: l => by show ren ri v :: renL ri l = _; rw [renL_eq ri l]; rfl
theorem ren_list (ri : Pos → Option Pos) : ∀ l : List V, (V.rec_1 (motive_1 := fun _ => V) (motive_2 := fun _ => List V) .u (fun b => .bool b) (fun k n => .int k n) (fun l => .str l) .nilp
  (fun p o => match ri p with | some q => .ptr q o | none => .u) .nils (fun p o len cap esz => match ri p with | some q => .slice q o len cap esz | none => .u) .nilm (fun p => match ri p with | some q => .map q | none => .u)
  .nilf (fun f _ _ x y => .fn f x y) .nili (fun t _ x => .iface t x) (fun _ x => .agg x) (fun _ x => .tup x) [] (fun _ _ x xs => x :: xs) l : List V) = l.map (ren ri)
  | [] => rfl
  | v :: l => by
    show ren ri v :: _ = _
    rw [ren_list ri l]
    rfl
theorem ren_agg (ri : Pos → Option Pos) (l : List V) : ren ri (.agg l) = .agg (l.map (ren ri)) := by
  rw [← ren_list]; rfl
theorem ren_tup (ri : Pos → Option Pos) (l : List V) : ren ri (.tup l) = .tup (l.map (ren ri)) := by
  rw [← ren_list]; rfl
theorem ren_fn (ri : Pos → Option Pos) (f : Nat) (x y : List V) : ren ri (.fn f x y) = .fn f (x.map (ren ri)) (y.map (ren ri)) := by
  rw [← ren_list, ← ren_list]; rfl
theorem VR.ren {ri : Pos → Option Pos} {ι ι2 : Nm} (h : ∀ p q, ri p = some q → ι2 q = ι p) {v : V} {y : Value} (hv : VR ι v y) : VR ι2 (ren ri v) y := by
  induction hv with
  | u v => exact .u v
  | bool b => exact .bool b
  | int k n hn => exact .int k n hn
  | str l s hs => exact .str l s hs
  | nilp => exact .nilp
  | ptr p o pl hp hk =>
    show VR ι2 (match ri p with | some q => .ptr q o | none => .u) _
    cases hr : ri p with
    | none => exact .u _
    | some q => exact .ptr q o pl ((h p q hr).trans hp) hk
  | nils => exact .nils
  | slice p o len cap esz pl a c hp hk hc hl ha hs =>
    show VR ι2 (match ri p with | some q => .slice q o len cap esz | none => .u) _
    cases hr : ri p with
    | none => exact .u _
    | some q => exact .slice q o len cap esz pl a c ((h p q hr).trans hp) hk hc hl ha hs
  | nilm => exact .nilm
  | map p pl hp hk =>
    show VR ι2 (match ri p with | some q => .map q | none => .u) _
    cases hr : ri p with
    | none => exact .u _
    | some q => exact .map q pl ((h p q hr).trans hp) hk
  | nilf => exact .nilf
  | fn f x y x' y' hx hy h1 h2 ih1 ih2 =>
    rw [ren_fn]
    refine .fn f _ _ x' y' (by simpa using hx) (by simpa using hy) (fun i a b ha hb => ?_) (fun i a b ha hb => ?_)
    · rw [List.getElem?_map] at ha
      cases hx : x[i]? with
      | none => rw [hx] at ha; cases ha
      | some z => rw [hx] at ha; cases ha; exact ih1 i z b hx hb
    · rw [List.getElem?_map] at ha
      cases hx : y[i]? with
      | none => rw [hx] at ha; cases ha
      | some z => rw [hx] at ha; cases ha; exact ih2 i z b hx hb
  | nili => exact .nili
  | iface t v v' hv ih => exact .iface t _ v' ih
  | agg l c hl hh ih =>
    rw [ren_agg]
    refine .agg _ c (by simpa using hl) (fun i a b ha hb => ?_)
    rw [List.getElem?_map] at ha
    cases hx : l[i]? with
    | none => rw [hx] at ha; cases ha
    | some z => rw [hx] at ha; cases ha; exact ih i z b hx hb
  | tup l c hl hh ih =>
    rw [ren_tup]
    refine .tup _ c (by simpa using hl) (fun i a b ha hb => ?_)
    rw [List.getElem?_map] at ha
    cases hx : l[i]? with
    | none => rw [hx] at ha; cases ha
    | some z => rw [hx] at ha; cases ha; exact ih i z b hx hb

/-! a view: new names and the old ones that they stand for -/
abbrev Vw := List (Pos × Pos)
noncomputable def bwd (l : Vw) (p : Pos) : Option Pos := List.rec (motive := fun _ => Option Pos) none (fun x _ ih => match x.2.beq p with | true => some x.1 | false => ih) l
noncomputable def fwd (l : Vw) (q : Pos) : Option Pos := List.rec (motive := fun _ => Option Pos) none (fun x _ ih => match x.1.beq q with | true => some x.2 | false => ih) l
theorem bwd_mem {p q : Pos} : ∀ {l : Vw}, bwd l p = some q → (q, p) ∈ l
  | [], h => by cases h
  | x :: l, h => by
    have h : (match x.2.beq p with | true => some x.1 | false => bwd l p) = some q := h
    split at h
    · rename_i hx
      rw [Pos.beq_eq] at hx
      have hx : x.2 = p := by simpa using hx
      cases h
      subst hx
      simp
    · exact List.mem_cons_of_mem _ (bwd_mem h)
theorem fwd_mem {p q : Pos} : ∀ {l : Vw}, fwd l q = some p → (q, p) ∈ l
  | [], h => by cases h
  | x :: l, h => by
    have h : (match x.1.beq q with | true => some x.2 | false => fwd l q) = some p := h
    split at h
    · rename_i hx
      rw [Pos.beq_eq] at hx
      have hx : x.1 = q := by simpa using hx
      cases h
      subst hx
      simp
    · exact List.mem_cons_of_mem _ (fwd_mem h)
noncomputable def isP (x : Option Pos) (p : Pos) : Bool := match x with | some q => q.beq p | none => false
theorem isP_eq {x : Option Pos} {p : Pos} (h : isP x p = true) : x = some p := by
  cases x with
  | none => cases h
  | some q =>
    have h : q.beq p = true := h
    rw [Pos.beq_eq] at h
    have : q = p := by simpa using h
    rw [this]
/-- the view's own check: names between N and nx, no two alike -/
noncomputable def vwOk (N : Nat) (nx : Pos) (l : Vw) : Bool := lall (fun x => isP (fwd l x.1) x.2 && isP (bwd l x.2) x.1 && Nat.ble N x.1.nat && Nat.blt x.1.nat nx.nat) l
noncomputable def meR (ri : Pos → Option Pos) (e : ME) : ME := ⟨ren ri e.k, ren ri e.v, e.b⟩
noncomputable def renO (ri : Pos → Option Pos) (o : Ob) : Ob := match o with
  | .cells l _ fz ro => .cells (renL ri l) [] fz ro
  | .map es ck ks => .map (lmap (meR ri) es) ck ks
  | .mit _ _ _ _ => .dead
  | .sit l n => .sit l n
  | .dead => .dead
/-- what of the blocks is asked: kin are left behind; a map's keys name nothing -/
noncomputable def bareB (v : V) : Bool := V.rec (motive_1 := fun _ => Bool) (motive_2 := fun _ => Bool) true (fun _ => true) (fun _ _ => true) (fun _ => true) true (fun _ _ => false) true (fun _ _ _ _ _ => false) true (fun _ => false) true (fun _ _ _ _ _ => false) true (fun _ _ ih => ih) (fun _ ih => ih) (fun _ ih => ih) true (fun _ _ a b => match a with | true => b | false => false) v
noncomputable def obVw (l : Vw) (o : Ob) : Bool := match o with
  | .cells _ kin _ _ => lall (fun p => match bwd l p with | none => true | some _ => false) kin
  | .map es _ _ => false
  | .mit _ _ _ _ => false
  | .sit _ _ => true
  | .dead => true
noncomputable def hView (l0 : Vw) (h : T Ob) (l : Vw) : T Ob := List.rec (motive := fun _ => T Ob) .nil (fun x _ ih => match T.get x.2 h with | some o => T.set (renO (bwd l0) o) x.1 ih | none => ih) l
noncomputable def hVwOk (l0 : Vw) (h : T Ob) (l : Vw) : Bool := lall (fun x => match T.get x.2 h with | some o => obVw l0 o | none => true) l
theorem hView_get {l0 : Vw} {h : T Ob} {q : Pos} {o : Ob} : ∀ {l : Vw}, T.get q (hView l0 h l) = some o → ∃ p o', (q, p) ∈ l ∧ T.get p h = some o' ∧ o = renO (bwd l0) o'
  | [], hq => by have hq : T.get q (.nil : T Ob) = some o := hq; rw [T.get_nil] at hq; cases hq
  | x :: l, hq => by
    have hq : T.get q (match T.get x.2 h with | some o => T.set (renO (bwd l0) o) x.1 (hView l0 h l) | none => hView l0 h l) = some o := hq
    split at hq
    · rename_i o1 ho
      rw [T.get_set] at hq
      split at hq
      · rename_i e
        cases hq
        exact ⟨x.2, o1, by rw [e]; simp, ho, rfl⟩
      · obtain ⟨p, o', h1, h2⟩ := hView_get hq
        exact ⟨p, o', List.mem_cons_of_mem _ h1, h2⟩
    · obtain ⟨p, o', h1, h2⟩ := hView_get hq
      exact ⟨p, o', List.mem_cons_of_mem _ h1, h2⟩
noncomputable def nmView (N : Nat) (l : Vw) (ι : Nm) : Nm := fun q => match fwd l q with | some p => ι p | none => if q.nat < N then ι q else none
theorem renO_wr {ri : Pos → Option Pos} {o : Ob} (h : (renO ri o).wr = true) : o.wr = true := by cases o <;> first | exact h | (cases h)
theorem renO_live {ri : Pos → Option Pos} {o : Ob} (h : (renO ri o).live = true) : o.live = true := by cases o <;> first | rfl | exact h | (cases h)
theorem renO_kin (ri : Pos → Option Pos) (o : Ob) : (renO ri o).kin = [] := by cases o <;> rfl
theorem renO_len {ri : Pos → Option Pos} {o : Ob} : (renO ri o).len = o.len := by
  cases o with
  | cells l kin fz ro => simp [renO, Ob.len, renL_eq]
  | _ => rfl
theorem renO_wr' {l0 : Vw} {ri : Pos → Option Pos} {o : Ob} (hb : obVw l0 o = true) (h : o.wr = false) : (renO ri o).wr = false := by
  cases o <;> first | exact h | rfl | (cases hb)

section
variable {P : Program}
theorem Rep.view {ι : Nm} {σ : St} {w : World} (R : Rep ι σ w) {N : Nat} {l : Vw} {nx : Pos} (hl : vwOk N nx l = true) (hN : N ≤ nx.nat) (hh : hVwOk l σ.h l = true) : Rep (nmView N l ι) ⟨hView l σ.h l, nx⟩ w := by
  have hok : ∀ q p, (q, p) ∈ l → fwd l q = some p ∧ bwd l p = some q ∧ N ≤ q.nat ∧ q.nat < nx.nat := fun q p h => by
    unfold vwOk at hl
    rw [lall_eq] at hl
    have := List.all_eq_true.1 hl (q, p) h
    simp only [Bool.and_eq_true] at this
    have h3 := this.1.2
    have h4 := this.2
    rw [blt_eq] at h4
    exact ⟨isP_eq this.1.1.1, isP_eq this.1.1.2, ble_le h3, by simpa using h4⟩
  have hob : ∀ q p o, (q, p) ∈ l → T.get p σ.h = some o → obVw l o = true := fun q p o h ho => by
    unfold hVwOk at hh
    rw [lall_eq] at hh
    have := List.all_eq_true.1 hh (q, p) h
    simp only [ho] at this
    exact this
  have hri : ∀ p q, bwd l p = some q → nmView N l ι q = ι p := fun p q h => by
    unfold nmView
    rw [(hok q p (bwd_mem h)).1]
  have hnm : ∀ q p, (q, p) ∈ l → nmView N l ι q = ι p := fun q p h => hri p q (hok q p h).2.1
  constructor
  · intro q o hq
    obtain ⟨p, o', h1, h2, rfl⟩ := hView_get hq
    have hr := R.ob p o' h2
    have hb := hob q p o' h1 h2
    cases o' with
    | cells c kin fz ro =>
      obtain ⟨pl, cc, e, k1, k2, k3, k4, k5, k6⟩ := hr
      refine ⟨pl, cc, e, (hnm q p h1).trans k1, k2, k3, k4, by rw [renL_eq]; simpa using k5, fun i x y hx hy => ?_⟩
      rw [renL_eq, List.getElem?_map] at hx
      cases hc : c[i]? with
      | none => rw [hc] at hx; cases hx
      | some z => rw [hc] at hx; cases hx; exact (k6 i z y hc hy).ren hri
    | map es ck ks => cases hb
    | mit m a b c => cases hb
    | sit s n =>
      obtain ⟨pl, ss, k1, k2, k3, k4⟩ := hr
      exact ⟨pl, ss, (hnm q p h1).trans k1, k2, k3, k4⟩
    | dead => trivial
  · intro q pl hq
    unfold nmView at hq
    split at hq
    · exact R.pl _ pl hq
    · split at hq
      · exact R.pl _ pl hq
      · cases hq
  · intro q pl hq
    unfold nmView at hq
    split at hq
    · rename_i p hp; exact (hok q p (fwd_mem hp)).2.2.2
    · split at hq
      · show q.nat < nx.nat; omega
      · cases hq
  · intro q o hq
    obtain ⟨p, o', h1, h2, rfl⟩ := hView_get hq
    exact (hok q p h1).2.2.2
  · intro q1 o1 q2 o2 a b g1 l1 g2 l2 i1 i2 hab hne
    obtain ⟨p1, o1', m1, t1, rfl⟩ := hView_get g1
    obtain ⟨p2, o2', m2, t2, rfl⟩ := hView_get g2
    rw [hnm q1 p1 m1] at i1
    rw [hnm q2 p2 m2] at i2
    have hpne : p2 ≠ p1 := fun e => by
      subst e
      have h1 := (hok q1 p2 m1).2.1
      have h2 := (hok q2 p2 m2).2.1
      rw [h1] at h2; cases h2
      exact hne rfl
    have nokin : ∀ q p o k, (q, p) ∈ l → T.get p σ.h = some o → k ∈ o.kin → bwd l k = none := fun q p o k h ho hk => by
      have hb := hob q p o h ho
      cases o with
      | cells c kin fz ro =>
        have hb : lall (fun p => match bwd l p with | none => true | some _ => false) kin = true := hb
        rw [lall_eq] at hb
        have := List.all_eq_true.1 hb k hk
        cases hbk : bwd l k with
        | none => rfl
        | some z => rw [hbk] at this; cases this
      | _ => cases hk
    rcases R.sep2 p1 o1' p2 o2' a b t1 (renO_live l1) t2 (renO_live l2) i1 i2 hab hpne with h | h | h
    · have := nokin q1 p1 o1' p2 m1 t1 h
      rw [(hok q2 p2 m2).2.1] at this; cases this
    · have := nokin q2 p2 o2' p1 m2 t2 h
      rw [(hok q1 p1 m1).2.1] at this; cases this
    · refine .inr (.inr ⟨renO_wr' (hob q1 p1 o1' m1 t1) h.1, renO_wr' (hob q2 p2 o2' m2 t2) h.2.1, ?_⟩)
      rw [renO_len, renO_len]
      exact h.2.2
  · intro q o q2 o2 hq hk
    obtain ⟨p, o', h1, h2, rfl⟩ := hView_get hq
    rw [renO_kin] at hk; cases hk
  · intro q o q2 hq hk
    obtain ⟨p, o', h1, h2, rfl⟩ := hView_get hq
    rw [renO_kin] at hk; cases hk
  · intro q o q2 o2 a b hq hw hk
    obtain ⟨p, o', h1, h2, rfl⟩ := hView_get hq
    rw [renO_kin] at hk; cases hk

/-- slots that are kept, under new names -/
noncomputable def fView (ri : Pos → Option Pos) (A : T V) (l : List Pos) : T V := List.rec (motive := fun _ => T V) .nil (fun p _ ih => match T.get p A with | some v => T.set (ren ri v) p ih | none => ih) l
theorem fView_get {ri : Pos → Option Pos} {A : T V} {p : Pos} {v : V} : ∀ {l : List Pos}, T.get p (fView ri A l) = some v → ∃ v', T.get p A = some v' ∧ v = ren ri v'
  | [], h => by have h : T.get p (.nil : T V) = some v := h; rw [T.get_nil] at h; cases h
  | x :: l, h => by
    have h : T.get p (match T.get x A with | some v => T.set (ren ri v) x (fView ri A l) | none => fView ri A l) = some v := h
    split at h
    · rename_i v1 h1
      rw [T.get_set] at h
      split at h
      · rename_i e; cases h; subst e; exact ⟨v1, h1, rfl⟩
      · exact fView_get h
    · exact fView_get h
theorem FR.view {n : Nat} {ι ι2 : Nm} {A : T V} {a : Act} (F : FR n ι A a) {ri : Pos → Option Pos} (h : ∀ p q, ri p = some q → ι2 q = ι p) (l : List Pos) : FR n ι2 (fView ri A l) a :=
  ⟨F.size, F.defers, fun p v t hp ht => by
    obtain ⟨v', h1, rfl⟩ := fView_get hp
    exact (F.at_ p v' t h1 ht).ren h⟩

/-- the machine is at (A, σ): of what was there when the call began nothing has turned -/
def At (ng : GS) (n : Nat) (w0 : World) (A : T V) (σ : St) (a : Act) (w : World) : Prop :=
  ∃ ι, FR n ι A a ∧ Gl ng ι ∧ Rep ι σ w ∧ (∀ p o pl, T.get p σ.h = some o → o.wr = true → ι p = some pl → w0.heap.size ≤ pl.blk) ∧ Below w0.heap.size w0 w
/-- it is there, seen so -/
theorem At.view {ng : GS} {n : Nat} {w0 : World} {A : T V} {σ : St} {a : Act} {w : World} (h : At ng n w0 A σ a w) {N : Nat} (hng : ∀ g ∈ ng, g + 1 < N) (l : Vw) (ks : List Pos) (nx : Pos) (hl : vwOk N nx l = true) (hN : N ≤ nx.nat) (hh : hVwOk l σ.h l = true)
    {B : T V} {τ : T Ob} (hB : fView (bwd l) A ks = B) (hτ : hView l σ.h l = τ) : At ng n w0 B ⟨τ, nx⟩ a w := by
  subst hB; subst hτ
  obtain ⟨ι, F, G, R, O, B⟩ := h
  have hok : ∀ q p, (q, p) ∈ l → fwd l q = some p ∧ bwd l p = some q ∧ N ≤ q.nat := fun q p h => by
    unfold vwOk at hl
    rw [lall_eq] at hl
    have := List.all_eq_true.1 hl (q, p) h
    simp only [Bool.and_eq_true] at this
    exact ⟨isP_eq this.1.1.1, isP_eq this.1.1.2, ble_le this.1.2⟩
  have hri : ∀ p q, bwd l p = some q → nmView N l ι q = ι p := fun p q h => by
    unfold nmView
    rw [(hok q p (bwd_mem h)).1]
  refine ⟨nmView N l ι, F.view hri ks, fun g p hg hp => ?_, R.view hl hN hh, ?_, B⟩
  · obtain ⟨pl, h1, h2⟩ := G g p hg hp
    refine ⟨pl, ?_, h2⟩
    unfold nmView
    have hlt := hng g hg
    cases hf : fwd l p with
    | some z => have := (hok p z (fwd_mem hf)).2.2; omega
    | none => simp only; rw [if_pos (by omega)]; exact h1
  · intro q o pl hq hw hi
    obtain ⟨p, o', h1, h2, rfl⟩ := hView_get hq
    rw [hri p q (hok q p h1).2.1] at hi
    exact O p o' pl h2 (renO_wr hw) hi
theorem At.less {ng : GS} {n : Nat} {w0 : World} {A B : T V} {σ : St} {a : Act} {w : World} (h : At ng n w0 A σ a w) (hs : ∀ p v, T.get p B = some v → T.get p A = some v) : At ng n w0 B σ a w :=
  let ⟨ι, F, h⟩ := h; ⟨ι, F.less hs, h⟩

def XE.to : XE → Exit | .nrm => .normal | .ext i => .exit i | .ret => .ret
theorem xq_to {e : XE} {Q : Exit → Act → World → Prop} {a : Act} {w : World} : XQ e Q a w = Q e.to a w := by cases e <;> rfl
/-- of a piece of the machine's code, whatever piece of the program it stands for -/
def Tri (P : Program) (E : Env P) (n : Nat) (c : IR) (I : Act → World → Prop) (Q : Exit → Act → World → Prop) : Prop := ∀ x, okC E n (okD E n) c x = true → ∀ a w, I a w → x.wp P Q a w
variable {E : Env P} {M : Mach} {n : Nat}
theorem Tri.pre {c : IR} {I J : Act → World → Prop} {Q : Exit → Act → World → Prop} (h : Tri P E n c J Q) (hi : ∀ a w, I a w → J a w) : Tri P E n c I Q := fun x hx a w h1 => h x hx a w (hi a w h1)
theorem Tri.run (K : MOk P E M (okD E)) {k fuel : Nat} {w0 : World} {A A' : T V} {σ σ' : St} {e : XE} {c : IR} (h : exec M (runFn M k) fuel c A σ = some (e, A', σ')) {Q : Exit → Act → World → Prop}
    (hq : ∀ a w, At E.ng n w0 A' σ' a w → Q e.to a w) : Tri P E n c (At E.ng n w0 A σ) Q := by
  intro x hx a w ⟨ι, F, L, R, O, B⟩
  refine exec_sound K.pt K.mt (run_sound K k) (K.rgd n) fuel c x hx h F L R ?_
  intro ι' a' w' F' R' G'
  rw [xq_to]
  refine hq a' w' ⟨ι', F', L.mono G'.ext, R', ?_, B.trans ⟨G'.os, G'.tape, G'.out, G'.size, fun r hr => G'.keep r (by have := B.size; omega) ?_⟩⟩
  · intro p o pl hp hw hi
    by_cases hlt : pl.blk < w.heap.size
    · obtain ⟨p2, o2, pl2, i1, i2, i3, i4⟩ := G'.img pl.blk hlt ⟨p, o, pl, hp, hw, hi, rfl⟩
      have := O p2 o2 pl2 i1 i2 i3
      omega
    · have := B.size; omega
  · rintro ⟨p2, o2, pl2, i1, i2, i3, i4⟩
    have := O p2 o2 pl2 i1 i2 i3
    omega
theorem Tri.seq {c1 c2 : IR} {I J : Act → World → Prop} {Q : Exit → Act → World → Prop} (h1 : Tri P E n c1 I (Exit.then J Q)) (h2 : Tri P E n c2 J Q) : Tri P E n (.seq c1 c2) I Q := by
  intro x hx a w hi
  cases x <;> simp only [okC, Bool.false_eq_true, Bool.and_eq_true] at hx
  refine wp_seq ?_
  have := h1 _ hx.1 a w hi
  refine wp_mono this ?_
  intro e a' w' hq
  cases e <;> first | exact h2 _ hx.2 a' w' hq | exact hq
theorem Tri.blk {i : Nat} {c : IR} {I : Act → World → Prop} {Q : Exit → Act → World → Prop} (h : Tri P E n c I (Exit.inBlock i Q)) : Tri P E n (.blk i c) I Q := by
  intro x hx a w hi
  cases x <;> simp only [okC, Bool.false_eq_true, Bool.and_eq_true, beq_iff_eq] at hx
  obtain ⟨rfl, hx⟩ := hx
  exact wp_block (h _ hx a w hi)
theorem Tri.cnd {z : Arg} {c1 c2 : IR} {w0 : World} {A : T V} {σ : St} {b : Bool} {Q : Exit → Act → World → Prop} (hb : ev A z = .bool b) (h1 : b = true → Tri P E n c1 (At E.ng n w0 A σ) Q) (h2 : b = false → Tri P E n c2 (At E.ng n w0 A σ) Q) : Tri P E n (.cnd z c1 c2) (At E.ng n w0 A σ) Q := by
  intro x hx a w hi
  cases x <;> simp only [okC, Bool.false_eq_true, Bool.and_eq_true] at hx
  obtain ⟨ι, F, L, R, O, B⟩ := hi
  have hv := (ev_as F L hx.1.1 hb).bool_inv
  cases b with
  | true => exact wp_cond_true hv (h1 rfl _ hx.1.2 a w ⟨ι, F, L, R, O, B⟩)
  | false => exact wp_cond_false hv (h2 rfl _ hx.2 a w ⟨ι, F, L, R, O, B⟩)
/-- so many rounds, and one that leaves -/
theorem Tri.loop {c : IR} {I : Nat → Act → World → Prop} {Q : Exit → Act → World → Prop} (N : Nat) (hstep : ∀ i, i < N → Tri P E n c (I i) (Exit.then (I (i + 1)) Q)) (hlast : Tri P E n c (I N) (Exit.then (fun _ _ => False) Q)) : Tri P E n (.loop c) (I 0) Q := by
  intro x hx a w hi
  cases x <;> simp only [okC, Bool.false_eq_true] at hx
  rename_i body
  refine LoopAt.wp ?_
  have key : ∀ (d i : Nat) (a : Act) (w : World), i + d = N → I i a w → LoopAt P body Q a w := by
    intro d
    induction d with
    | zero =>
      intro i a w hd hi
      have : i = N := by omega
      subst this
      refine LoopAt.round (wp_mono (hlast _ hx a w hi) ?_)
      intro e a' w' hq
      cases e <;> first | exact hq.elim | exact hq
    | succ d ih =>
      intro i a w hd hi
      refine LoopAt.round (wp_mono (hstep i (by omega) _ hx a w hi) ?_)
      intro e a' w' hq
      cases e <;> first | exact ih (i + 1) a' w' (by omega) hq | exact hq
  exact key N 0 a w (by omega) hi

/-- a function that only reads what was there: what it hands back, nothing else -/
theorem fn_pure (K : MOk P E M (okD E)) {f : Pos} {nt : Nat} {body : IR} {res : List RV} (hget : T.get f M.tab = some (.code nt body res)) {vs2 : List V} (hle : vs2.length ≤ nt) {s2 : St} {out : V} (hout : Bare out)
    {ι ι2 : Nm} {w : World} {args : Array Value} {σ : St} (R : Rep ι σ w) (hG : Gl E.ng ι2) (R2 : Rep ι2 s2 w) (hro : ∀ p o, T.get p s2.h = some o → o.wr = false) (hv : VRs ι2 vs2 args.toList)
    (h : Tri P E nt body (At E.ng nt w (frameOf vs2 .H .nil) s2) (fun e a' w' => e = .ret ∧ ∃ A' σ', At E.ng nt w A' σ' a' w' ∧ resF res A' σ' = some [out])) : Calls P (f.nat - 1) args w (Post ι σ w out σ) := by
  obtain ⟨fn, c, h1, h2, h3, h4, h5, h6⟩ := K.code f nt body res hget
  refine calls_of_wp h1 h2 ?_
  rw [h3]
  refine wp_mono (h c h5 _ w ⟨ι2, FR.enter hv hle, hG, R2, fun p o pl hp hw => (by rw [hro p o hp] at hw; cases hw), Below.refl _ _⟩) ?_
  rintro e a' w' ⟨rfl, A', σ', ⟨ι', F, L, R', O, B⟩, hr⟩
  obtain ⟨v', r1, r2⟩ := results_sound F L R' h6 hr
  refine ⟨F.defers, v', r1, ι, v', rfl, hout _ _ _ r2, R.stays B.block, ⟨.refl ι, fun _ _ => rfl, Nat.le_refl _, B.size, B.os, B.tape, B.output, fun r hr _ => B.block r hr, fun _ _ h => h, fun x y h1 h2 => by rw [h2] at h1; cases h1⟩⟩
abbrev RP := Option (XE × T V × St × PS)
noncomputable def xr (M : Mach) (k fuel : Nat) (c : IR) (A : T V) (σ : St) : RP := execP M (runFnP M k) fuel c A σ
noncomputable def rA (r : RP) : T V := match r with | some (_, A, _) => A | none => .nil
noncomputable def rS (r : RP) : St := match r with | some (_, _, σ, _) => σ | none => ⟨.nil, .H⟩
noncomputable def rC (r : RP) : PS := match r with | some (_, _, _, cs) => cs | none => []
/-- a run has come to its end so; what is asked of its view -/
noncomputable def isE (e x : XE) : Bool := match e with | .nrm => (match x with | .nrm => true | _ => false) | .ret => (match x with | .ret => true | _ => false) | .ext i => (match x with | .ext j => Nat.beq i j | _ => false)
theorem isE_eq {e x : XE} (h : isE e x = true) : x = e := by
  cases e <;> cases x <;> first | rfl | (cases h; done) | skip
  rename_i i j
  have h : Nat.beq i j = true := h
  rw [Nat.eq_of_beq_eq_true h]
noncomputable def isX (e : XE) (r : RP) : Bool := match r with | some (x, _) => isE e x | none => false
def Alike (cs : PS) : Prop := lmap (fun p => p.1) cs = lmap (fun p => p.2) cs
theorem isX_run {M : Mach} {k fuel : Nat} {c : IR} {A : T V} {σ : St} {e : XE} (h : isX e (xr M k fuel c A σ) = true) (hC : Alike (rC (xr M k fuel c A σ))) : exec M (runFn M k) fuel c A σ = some (e, rA (xr M k fuel c A σ), rS (xr M k fuel c A σ)) := by
  unfold xr at h hC ⊢
  cases hr : execP M (runFnP M k) fuel c A σ with
  | none => rw [hr] at h; cases h
  | some x =>
    obtain ⟨e1, A1, σ1, cs⟩ := x
    rw [hr] at h hC
    have h : isE e e1 = true := h
    rw [isE_eq h] at hr
    exact execP_ok (runFnP_ok M k) fuel c _ _ _ _ _ _ hr (good_of hC)
noncomputable def vOk (r : RP) (l : Vw) (N : Nat) (nx : Pos) : Bool := match r with
  | some (_, _, σ, _) => vwOk N nx l && hVwOk l σ.h l && Nat.ble N nx.nat
  | none => false
theorem vOk_run {r : RP} {l : Vw} {N : Nat} {nx : Pos} (h : vOk r l N nx = true) : vwOk N nx l = true ∧ hVwOk l (rS r).h l = true ∧ N ≤ nx.nat := by
  unfold vOk at h
  split at h
  · simp only [Bool.and_eq_true] at h
    exact ⟨h.1.1, h.1.2, ble_le h.2⟩
  · cases h
/-- a run to its end -/
theorem Tri.runX (K : MOk P E M (okD E)) {k fuel : Nat} {w0 : World} {A : T V} {σ : St} {c : IR} {e : XE} (h : isX e (xr M k fuel c A σ) = true) (hC : Alike (rC (xr M k fuel c A σ))) {Q : Exit → Act → World → Prop}
    (hq : ∀ a w, At E.ng n w0 (rA (xr M k fuel c A σ)) (rS (xr M k fuel c A σ)) a w → Q e.to a w) : Tri P E n c (At E.ng n w0 A σ) Q := Tri.run K (isX_run h hC) hq
theorem Tri.stepV (K : MOk P E M (okD E)) {k fuel : Nat} {w0 : World} {A B : T V} {σ : St} {τ : T Ob} {c : IR} {l : Vw} {ks : List Pos} {N : Nat} {nx : Pos} (hng : ∀ g ∈ E.ng, g + 1 < N) (h : isX .nrm (xr M k fuel c A σ) = true) (hC : Alike (rC (xr M k fuel c A σ))) (hv : vOk (xr M k fuel c A σ) l N nx = true)
    (hB : fView (bwd l) (rA (xr M k fuel c A σ)) ks = B) (hτ : hView l (rS (xr M k fuel c A σ)).h l = τ) {Q : Exit → Act → World → Prop} : Tri P E n c (At E.ng n w0 A σ) (Exit.then (At E.ng n w0 B ⟨τ, nx⟩) Q) := by
  obtain ⟨h2, h3, h4⟩ := vOk_run hv
  exact Tri.runX K h hC (fun a w ha => ha.view hng l ks nx h2 h4 h3 hB hτ)
theorem Tri.endV (K : MOk P E M (okD E)) {k fuel : Nat} {w0 : World} {A B : T V} {σ : St} {τ : T Ob} {c : IR} {l : Vw} {ks : List Pos} {N : Nat} {nx : Pos} (hng : ∀ g ∈ E.ng, g + 1 < N) (h : isX .nrm (xr M k fuel c A σ) = true) (hC : Alike (rC (xr M k fuel c A σ))) (hv : vOk (xr M k fuel c A σ) l N nx = true)
    (hB : fView (bwd l) (rA (xr M k fuel c A σ)) ks = B) (hτ : hView l (rS (xr M k fuel c A σ)).h l = τ) {Q : Exit → Act → World → Prop} (hq : ∀ a w, At E.ng n w0 B ⟨τ, nx⟩ a w → Q .normal a w) : Tri P E n c (At E.ng n w0 A σ) Q := by
  obtain ⟨h2, h3, h4⟩ := vOk_run hv
  exact Tri.runX K h hC (fun a w ha => hq a w (ha.view hng l ks nx h2 h4 h3 hB hτ))
/-- pieces, one behind another -/
noncomputable def seqL (l : List IR) (c : IR) : IR := List.rec (motive := fun _ => IR) c (fun a _ ih => .seq a ih) l
theorem exec_seq_nrm {M : Mach} {call : Pos → List V → St → Option (V × St)} {f : Nat} {a b : IR} {A A' : T V} {σ σ' : St} (h : exec M call f (.seq a b) A σ = some (.nrm, A', σ')) : ∃ A1 σ1, exec M call f a A σ = some (.nrm, A1, σ1) ∧ exec M call f b A1 σ1 = some (.nrm, A', σ') := by
  have h : (match exec M call f a A σ with | none => none | some (x, A', σ') => (match x with | .nrm => exec M call f b A' σ' | x => some (x, A', σ'))) = some (.nrm, A', σ') := h
  split at h
  · cases h
  · rename_i x A1 σ1 h1
    cases x with
    | nrm => exact ⟨A1, σ1, h1, h⟩
    | ext i => cases h
    | ret => cases h
theorem Tri.runs0 (K : MOk P E M (okD E)) {k fuel : Nat} {w0 : World} {c : IR} {Q : Exit → Act → World → Prop} {A' : T V} {σ' : St} (hc : Tri P E n c (At E.ng n w0 A' σ') Q) : ∀ (l : List IR) {A : T V} {σ : St}, exec M (runFn M k) fuel (seqL l .skip) A σ = some (.nrm, A', σ') → Tri P E n (seqL l c) (At E.ng n w0 A σ) Q
  | [], A, σ, h => by
    have h : some (XE.nrm, A, σ) = some (.nrm, A', σ') := h
    cases h
    exact hc
  | a :: l, A, σ, h => by
    obtain ⟨A1, σ1, h1, h2⟩ := exec_seq_nrm (a := a) (b := seqL l .skip) h
    exact Tri.seq (Tri.run K h1 (fun a w h => h)) (Tri.runs0 K hc l h2)
theorem Tri.runs (K : MOk P E M (okD E)) {k fuel : Nat} {w0 : World} {c : IR} {Q : Exit → Act → World → Prop} {l : List IR} {A B : T V} {σ : St} {τ : T Ob} {v : Vw} {ks : List Pos} {N : Nat} {nx : Pos} (hng : ∀ g ∈ E.ng, g + 1 < N)
    (h : isX .nrm (xr M k fuel (seqL l .skip) A σ) = true) (hC : Alike (rC (xr M k fuel (seqL l .skip) A σ))) (hv : vOk (xr M k fuel (seqL l .skip) A σ) v N nx = true)
    (hB : fView (bwd v) (rA (xr M k fuel (seqL l .skip) A σ)) ks = B) (hτ : hView v (rS (xr M k fuel (seqL l .skip) A σ)).h v = τ) (hc : Tri P E n c (At E.ng n w0 B ⟨τ, nx⟩) Q) : Tri P E n (seqL l c) (At E.ng n w0 A σ) Q := by
  obtain ⟨h2, h3, h4⟩ := vOk_run hv
  exact Tri.runs0 K (hc.pre (fun a w ha => ha.view hng v ks nx h2 h4 h3 hB hτ)) l (isX_run h hC)
theorem Tri.lastV (K : MOk P E M (okD E)) {k fuel i : Nat} {w0 : World} {A B : T V} {σ : St} {τ : T Ob} {c : IR} {l : Vw} {ks : List Pos} {N : Nat} {nx : Pos} (hng : ∀ g ∈ E.ng, g + 1 < N) (h : isX (.ext i) (xr M k fuel c A σ) = true) (hC : Alike (rC (xr M k fuel c A σ))) (hv : vOk (xr M k fuel c A σ) l N nx = true)
    (hB : fView (bwd l) (rA (xr M k fuel c A σ)) ks = B) (hτ : hView l (rS (xr M k fuel c A σ)).h l = τ) {J F : Act → World → Prop} {Q : Exit → Act → World → Prop} (hJ : ∀ a w, At E.ng n w0 B ⟨τ, nx⟩ a w → J a w) :
    Tri P E n c (At E.ng n w0 A σ) (Exit.then F (Exit.inBlock i (Exit.then J Q))) := by
  obtain ⟨h2, h3, h4⟩ := vOk_run hv
  refine Tri.runX K h hC (fun a w ha => ?_)
  show (if i = i then Exit.then J Q .normal a w else _)
  rw [if_pos rfl]
  exact hJ a w (ha.view hng l ks nx h2 h4 h3 hB hτ)
theorem Tri.retV (K : MOk P E M (okD E)) {k fuel : Nat} {w0 : World} {A : T V} {σ : St} {c : IR} (h : isX .ret (xr M k fuel c A σ) = true) (hC : Alike (rC (xr M k fuel c A σ))) {res : List RV} {out : V} (hr : resF res (rA (xr M k fuel c A σ)) (rS (xr M k fuel c A σ)) = some [out]) :
    Tri P E n c (At E.ng n w0 A σ) (fun e a' w' => e = .ret ∧ ∃ A' σ', At E.ng n w0 A' σ' a' w' ∧ resF res A' σ' = some [out]) :=
  Tri.runX K h hC (fun a w ha => ⟨rfl, _, _, ha, hr⟩)
/-- a row of bytes (or of what names nothing) among what is handed over, seen alone -/
theorem win_view {ng : GS} {ι : Nm} {w : World} {σ : St} (hG : Gl ng ι) (R : Rep ι σ w) {p q : Pos} {o n : Nat} {cap : Option Nat} {L l : List V} {kin : List Pos} {fz ro : Bool} (hq : ∀ g ∈ ng, g + 1 < q.nat) (h0 : 0 < n) (hn : l.length = n) (hl : ∀ x ∈ l, Bare x)
    (hp : T.get p σ.h = some (.cells L kin fz ro)) (hL : (L.drop o).take n = l) {y : Value} (hv : VR ι (.slice p o n cap 1) y) :
    ∃ ι2, Gl ng ι2 ∧ Rep ι2 ⟨T.set (Ob.cells l [] false true) q .nil, q.succ⟩ w ∧ VR ι2 (.slice q 0 n none 1) y := by
  obtain ⟨pl, a, c, s1, s2, s3, s4, s5, s6, s7⟩ := hv.slice_inv
  obtain ⟨pl', cc, e, j1, j2, j3, j4, j5, j6⟩ := R.ob p _ hp
  rw [s1] at j1; cases j1
  have hon : o + n ≤ L.length := by
    have : ((L.drop o).take n).length = n := by rw [hL, hn]
    simp at this
    omega
  let ι2 : Nm := fun x => if x = q then some ⟨pl.blk, pl.st + o, pl.sz, 0⟩ else if x.nat < q.nat then ι x else none
  have hι2q : ι2 q = some ⟨pl.blk, pl.st + o, pl.sz, 0⟩ := by simp [ι2]
  have hι2 : ∀ x y, ι2 x = some y → x = q ∧ y = ⟨pl.blk, pl.st + o, pl.sz, 0⟩ ∨ x ≠ q ∧ x.nat < q.nat ∧ ι x = some y := fun x y h => by
    simp only [ι2] at h
    split at h
    · rename_i hx; cases h; exact .inl ⟨hx, rfl⟩
    · rename_i hx
      split at h
      · rename_i hle; exact .inr ⟨hx, hle, h⟩
      · cases h
  have hget : ∀ x ob, T.get x (T.set (Ob.cells l [] false true) q .nil) = some ob → x = q ∧ ob = Ob.cells l [] false true := fun x ob h => by
    rw [T.get_set] at h
    split at h
    · rename_i hx; cases h; exact ⟨hx, rfl⟩
    · rw [T.get_nil] at h; cases h
  refine ⟨ι2, fun g x hg hx => ?_, ?_, ?_⟩
  · have hgq := hq g hg
    have hne : x ≠ q := fun h => by subst h; omega
    have : ι2 x = ι x := by simp only [ι2, if_neg hne]; rw [if_pos (by omega)]
    rw [this]; exact hG g x hg hx
  · constructor
    · intro x ob h
      obtain ⟨rfl, rfl⟩ := hget x ob h
      refine ⟨_, cc, e, hι2q, rfl, j3, j4, by show pl.st + o + l.length ≤ cc.size; omega, fun i y z hy hz => ?_⟩
      have hy' : L[o + i]? = some y := by
        rw [← hL, List.getElem?_take] at hy
        split at hy
        · rw [List.getElem?_drop] at hy; exact hy
        · cases hy
      exact hl y (List.mem_of_getElem? hy) ι _ z (j6 (o + i) y z hy' (by rw [← Nat.add_assoc]; exact hz))
    · intro x y h
      rcases hι2 x y h with ⟨rfl, rfl⟩ | ⟨_, _, h⟩
      · exact ⟨fun _ => ⟨cc, e, j3, j4⟩, (fun h => by cases h), (fun h => by cases h), (fun h => by cases h), Nat.zero_le _⟩
      · exact R.pl x y h
    · intro x y h
      show x.nat < q.succ.nat
      rw [Pos.succ_nat]
      rcases hι2 x y h with ⟨rfl, _⟩ | ⟨_, h, _⟩ <;> omega
    · intro x ob h
      obtain ⟨rfl, _⟩ := hget x ob h
      show x.nat < x.succ.nat
      rw [Pos.succ_nat]; omega
    · intro x ob y ob' a1 b1 h1 _ h2 _ _ _ _ hne
      obtain ⟨rfl, _⟩ := hget x ob h1
      obtain ⟨rfl, _⟩ := hget y ob' h2
      exact absurd rfl hne
    · intro x ob y ob' h1 h2
      obtain ⟨rfl, rfl⟩ := hget x ob h1
      cases h2
    · intro x ob y h1 h2
      obtain ⟨rfl, rfl⟩ := hget x ob h1
      cases h2
    · intro x ob y ob' a1 b1 h1 h2
      obtain ⟨rfl, rfl⟩ := hget x ob h1
      cases h2
  · rw [s7]
    exact .slice q 0 n none 1 ⟨pl.blk, pl.st + o, pl.sz, 0⟩ a c hι2q rfl (fun _ h => by cases h) s4 (fun h => by rw [s5 h]; rfl) (by show pl.st + o + 0 + c * 1 ≤ pl.sz; omega)
/-! parts of a function's code -/
noncomputable def bodyI (e : FnE) : IR := match e with | .code _ b _ => b | .spec _ => .skip
noncomputable def resI (e : FnE) : List RV := match e with | .code _ _ r => r | .spec _ => []
noncomputable def fstI (c : IR) : IR := match c with | .seq a _ => a | c => c
noncomputable def sndI (c : IR) : IR := match c with | .seq _ b => b | c => c
noncomputable def blkI (c : IR) : IR := match c with | .blk _ b => b | c => c
noncomputable def lopI (c : IR) : IR := match c with | .loop b => b | c => c
/-! tables, contract by contract -/
def TabIs (E : Env P) (t : T FnE) : Prop := ∀ p e, T.get p t = some e → fnOk E (p.nat - 1) e = true
theorem tabIs_of {E : Env P} {t : T FnE} (h : tabOk E t id = true) : TabIs E t := fun p e hp => tabOk_spec E t id h p e hp
theorem TabIs.set {E : Env P} {t : T FnE} (h : TabIs E t) {e : FnE} {p : Pos} (he : fnOk E (p.nat - 1) e = true) : TabIs E (T.set e p t) := by
  intro q x hq
  rw [T.get_set] at hq
  split at hq
  · rename_i e1; cases hq; subst e1; exact he
  · exact h q x hq
theorem mok_of2 {E : Env P} {M : Mach} (hpt : M.pt = E.pt) (hmt : MtOk P M.mt) (hm : P.follows .mixedOrders = true) (ht : TabIs E M.tab)
    (hs : ∀ f s, T.get f M.tab = some (.spec s) → ∀ vs σ v σ', M.spec s vs σ = some (v, σ') → ∀ (ι : Nm) (w : World) (args : Array Value), Gl E.ng ι → Rep ι σ w → VRs ι vs args.toList → Calls P (f.nat - 1) args w (Post ι σ w v σ')) :
    MOk P E M (okD E) where
  pt := hpt
  mt := hmt
  rgd n := rgd_sound hpt hmt hm n
  code f n b res hf := by
    obtain ⟨fn, c, h1, h2, h3, h4⟩ := fnOk_is (ht f _ hf)
    obtain ⟨h5, h6, h7⟩ := h4 n b res rfl
    exact ⟨fn, c, h1, h2, h5, h3, h6, h7⟩
  spec f s hf := by
    obtain ⟨fn, c, h1, h2, h3, h4⟩ := fnOk_is (ht f _ hf)
    exact ⟨⟨fn, h1, by rw [h2]; rfl, h3⟩, hs f s hf⟩
end
end Go.Proofs.YtknhohgnilamcaaGreatDoor
