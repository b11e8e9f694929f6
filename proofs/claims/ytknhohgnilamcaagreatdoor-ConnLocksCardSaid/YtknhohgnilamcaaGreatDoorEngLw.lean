/-
  For laws: a row of hashes as a table, a call done once in the beginning's memory, a law's closing. (Of no program.)
-/
import Derived.Test.YtknhohgnilamcaaGreatDoorEngSk
import Derived.Below
namespace Go.Proofs.YtknhohgnilamcaaGreatDoor
set_option linter.unusedVariables false
set_option linter.unusedSimpArgs false
set_option linter.unusedSectionVars false
open Go Go.RowKit

noncomputable def okV (r : Option (V × St)) (v : V) : Bool := match r with | some (w, _) => veq w v | none => false
theorem okV_run {r : Option (V × St)} {v : V} (h : okV r v = true) : ∃ σ2, r = some (v, σ2) := by
  unfold okV at h
  split at h
  · rename_i w σ2
    exact ⟨σ2, by rw [veq_eq h]⟩
  · cases h
noncomputable def bs (l : List Nat) : List V := lmap (fun n => V.int .u8 (.ofNat n)) l
theorem bs_bare (l : List Nat) : ∀ x ∈ bs l, Bare x := by
  intro x hx
  unfold bs at hx
  rw [lmap_eq, List.mem_map] at hx
  obtain ⟨n, _, rfl⟩ := hx
  exact bare_int _ _

/-! hashes -/
noncomputable def look (l : List V) (t : List (List V × V)) : Option V := List.rec (motive := fun _ => Option V) none (fun x _ ih => match veqL veq0 x.1 l with | true => some x.2 | false => ih) t
theorem look_mem {l : List V} : ∀ {t : List (List V × V)} {v : V}, look l t = some v → (l, v) ∈ t
  | [], v, h => by cases h
  | x :: t, v, h => by
    have h : (match veqL veq0 x.1 l with | true => some x.2 | false => look l t) = some v := h
    split at h
    · rename_i hx
      cases h
      rw [← veqL_eq (fun _ _ h => veq0_eq h) hx]
      simp
    · exact List.mem_cons_of_mem _ (look_mem h)
noncomputable def hashSpec (t : List (List V × V)) (z : Option V) (vs : List V) (σ : St) : Option (V × St) := match vs with
  | [.slice p o len _ 1] => (match T.get p σ.h with | some (.cells l _ _ _) => (match look (ltake (ldrop l o) len) t with | some v => (match Nat.beq (llen (ltake (ldrop l o) len)) len with | true => some (v, σ) | false => none) | none => none) | _ => none)
  | [.nils] => (match z with | some v => some (v, σ) | none => none)
  | _ => none
section
variable {P : Program}
theorem hash_sound {ng : GS} {call : Pos → List V → St → Option (V × St)} (hc : CallOK P ng call) {f q : Pos} (hq : ∀ g ∈ ng, g + 1 < q.nat) {t : List (List V × V)} {z : Option V}
    (ht : ∀ x ∈ t, 0 < x.1.length ∧ (∀ y ∈ x.1, Bare y) ∧ Bare x.2 ∧ ∃ σ2, call f [.slice q 0 x.1.length none 1] ⟨T.set (Ob.cells x.1 [] false true) q .nil, q.succ⟩ = some (x.2, σ2))
    (hz : ∀ v, z = some v → Bare v ∧ ∃ σ2, call f [.nils] ⟨.nil, q⟩ = some (v, σ2))
    {vs : List V} {σ : St} {v : V} {σ' : St} (h : hashSpec t z vs σ = some (v, σ')) {ι : Nm} {w : World} {args : Array Value} (hG : Gl ng ι) (R : Rep ι σ w) (hv : VRs ι vs args.toList) : Calls P (f.nat - 1) args w (Post ι σ w v σ') := by
  unfold hashSpec at h
  split at h
  · rename_i p o len cap
    split at h
    · rename_i l kin fz ro hp
      split at h
      · rename_i v1 hl
        split at h
        · rename_i hlen
          cases h
          obtain ⟨h1, h2, h3, σ2, h4⟩ := ht _ (look_mem hl)
          have hlen := Nat.eq_of_beq_eq_true hlen
          rw [llen_eq] at hlen
          simp only [hlen] at h4 h1
          exact call_bytes hc hq h1 hlen h2 h4 h3 hG R hp (by rw [ltake_eq, ldrop_eq]) hv
        · cases h
      · cases h
    · cases h
  · split at h
    · rename_i v1 hz1
      cases h
      obtain ⟨h3, σ2, h4⟩ := hz _ rfl
      refine call_forget hc (s2 := ⟨.nil, q⟩) (σ2 := σ2) (fun g hg => by have := hq g hg; exact this) (fun p o h => by rw [T.get_nil] at h; cases h) h4 h3 hG R (fun p o h => by rw [T.get_nil] at h; cases h) ?_
      refine ⟨hv.1, fun i a b ha hb => ?_⟩
      have := hv.2 i a b ha hb
      cases i with
      | zero => simp at ha; subst ha; cases this; exact .nils
      | succ i => simp at ha
    · cases h
  · cases h

/-! what is read-only, name by name -/
noncomputable def nmB (m : Nat) (v : V) : Bool := V.rec (motive_1 := fun _ => Bool) (motive_2 := fun _ => Bool) true (fun _ => true) (fun _ _ => true) (fun _ => true) true (fun p _ => Nat.blt p.nat m) true (fun _ _ _ _ _ => false) true (fun _ => false) true (fun _ _ _ _ _ => false) true (fun _ _ ih => ih) (fun _ _ => false) (fun _ _ => false) true (fun _ _ _ _ => true) v
theorem nmB_vr {m : Nat} {ι ι2 : Nm} (h2 : ∀ x : Pos, x.nat < m → ι2 x = ι x) {v : V} {y : Value} (h : VR ι v y) : nmB m v = true → VR ι2 v y := by
  induction h with
  | u v => exact fun _ => .u v
  | bool b => exact fun _ => .bool b
  | int k n hn => exact fun _ => .int k n hn
  | str l s hs => exact fun _ => .str l s hs
  | nilp => exact fun _ => .nilp
  | ptr p o pl hp hk =>
    intro hb
    have hb : Nat.blt p.nat m = true := hb
    rw [blt_eq] at hb
    exact .ptr p o pl ((h2 p (by simpa using hb)).trans hp) hk
  | nils => exact fun _ => .nils
  | slice p o len cap esz pl a c hp hk hc hl ha hs => exact fun hb => by cases hb
  | nilm => exact fun _ => .nilm
  | map p pl hp hk => exact fun hb => by cases hb
  | nilf => exact fun _ => .nilf
  | fn f x y x' y' hx hy h1 h2 ih1 ih2 => exact fun hb => by cases hb
  | nili => exact fun _ => .nili
  | iface t v v' hv ih => exact fun hb => .iface t v v' (ih hb)
  | agg l c hl hh ih => exact fun hb => by cases hb
  | tup l c hl hh ih => exact fun hb => by cases hb
noncomputable def roO (m : Nat) (p : Pos) (ob : Ob) : Bool := match ob with | .cells l kin fz ro => (match kin with | [] => Nat.blt p.nat m && ro && lall (nmB m) l | _ :: _ => false) | _ => false
def optB (v : Option Ob) (f : Ob → Bool) : Bool := match v with | none => true | some o => f o
noncomputable def roT (m : Nat) (t : T Ob) : (Pos → Pos) → Bool := T.rec (motive := fun _ => (Pos → Pos) → Bool) (fun _ => true)
  (fun _ v _ ihl ihr k => optB v (roO m (k .H)) && ihl (fun p => k (.O p)) && ihr (fun p => k (.I p))) t
theorem roT_spec (m : Nat) : ∀ (t : T Ob) (k : Pos → Pos), roT m t k = true → ∀ p o, T.get p t = some o → roO m (k p) o = true := by
  intro t
  induction t with
  | nil => intro k h p o hp; rw [T.get_nil] at hp; cases hp
  | node l v r ihl ihr =>
    intro k h p o hp
    have h : (optB v (roO m (k .H)) && roT m l (fun p => k (.O p)) && roT m r (fun p => k (.I p))) = true := h
    simp only [Bool.and_eq_true] at h
    cases p with
    | H =>
      have hp : v = some o := hp
      rw [hp] at h
      exact h.1.1
    | O p => exact ihl _ h.1.2 p o hp
    | I p => exact ihr _ h.2 p o hp
noncomputable def veqU (x y : V) : Bool := match x with | .u => (match y with | .u => true | _ => false) | x => veq x y
theorem veqU_eq (x y : V) (h : veqU x y = true) : x = y := by
  unfold veqU at h
  split at h
  · cases y <;> first | rfl | cases h
  · exact veq_eq h
noncomputable def obeq (a b : Ob) : Bool := match a with
  | .cells l kin fz ro => (match b with | .cells l' kin' fz' ro' => (match kin with | [] => (match kin' with | [] => veqL veqU l l' && (fz == fz') && (ro == ro') | _ :: _ => false) | _ :: _ => false) | _ => false)
  | _ => false
theorem obeq_eq {a b : Ob} (h : obeq a b = true) : a = b := by
  cases a <;> try (cases h; done)
  cases b <;> try (cases h; done)
  rename_i l kin fz ro l' kin' fz' ro'
  cases kin <;> try (cases h; done)
  cases kin' <;> try (cases h; done)
  have h : (veqL veqU l l' && (fz == fz') && (ro == ro')) = true := h
  simp only [Bool.and_eq_true, beq_iff_eq] at h
  rw [veqL_eq veqU_eq h.1.1, h.1.2, h.2]
noncomputable def obeqO (v v' : Option Ob) : Bool := match v with | none => (match v' with | none => true | some _ => false) | some x => (match v' with | none => false | some y => obeq x y)
noncomputable def teq (a : T Ob) : T Ob → Bool := T.rec (motive := fun _ => T Ob → Bool) (fun b => match b with | .nil => true | .node _ _ _ => false)
  (fun _ v _ ihl ihr b => match b with | .nil => false | .node l v' r => obeqO v v' && ihl l && ihr r) a
theorem teq_eq : ∀ {a b : T Ob}, teq a b = true → a = b := by
  intro a
  induction a with
  | nil => intro b h; cases b with | nil => rfl | node l v r => cases h
  | node l v r ihl ihr =>
    intro b h
    cases b with
    | nil => cases h
    | node l' v' r' =>
      have h : (obeqO v v' && teq l l' && teq r r') = true := h
      simp only [Bool.and_eq_true] at h
      rw [ihl h.1.2, ihr h.2]
      have hv := h.1.1
      congr 1
      cases v <;> cases v' <;> simp only [obeqO, Bool.false_eq_true] at hv
      · rfl
      · rw [obeq_eq hv]
/-- a function of no arguments, run once in the beginning's memory -/
noncomputable def onceSpec (s0 : St) (out : V) (vs : List V) (σ : St) : Option (V × St) := match vs with | [] => (match teq s0.h σ.h with | true => some (out, σ) | false => none) | _ => none
theorem once_sound {ng : GS} {call : Pos → List V → St → Option (V × St)} (hc : CallOK P ng call) {f : Pos} {s0 : St} (hng : ∀ g ∈ ng, g + 1 < s0.nx.nat) (hro : roT s0.nx.nat s0.h id = true) {out : V} (hb : Bare out) (hrun : ∃ σ2, call f [] s0 = some (out, σ2))
    {vs : List V} {σ : St} {v : V} {σ' : St} (h : onceSpec s0 out vs σ = some (v, σ')) {ι : Nm} {w : World} {args : Array Value} (hG : Gl ng ι) (R : Rep ι σ w) (hv : VRs ι vs args.toList) : Calls P (f.nat - 1) args w (Post ι σ w v σ') := by
  unfold onceSpec at h
  split at h
  · split at h
    · rename_i ht
      cases h
      obtain ⟨σ2, hrun⟩ := hrun
      have he := teq_eq ht
      have hall : ∀ p o, T.get p s0.h = some o → ∃ l fz, o = .cells l [] fz true ∧ p.nat < s0.nx.nat ∧ ∀ x ∈ l, nmB s0.nx.nat x = true := fun p o hp => by
        have h1 := roT_spec _ _ id hro p o hp
        unfold roO at h1
        split at h1
        · rename_i l kin fz ro
          cases kin with
          | cons _ _ => cases h1
          | nil =>
            simp only [Bool.and_eq_true, blt_eq, decide_eq_true_eq] at h1
            rw [lall_eq] at h1
            refine ⟨l, fz, by rw [h1.1.2], h1.1.1, fun x hx => ?_⟩
            exact List.all_eq_true.1 h1.2 x hx
        · cases h1
      refine call_forget hc (s2 := s0) (σ2 := σ2) hng ?_ hrun hb hG R ?_ (by
        have : args.toList = [] := List.eq_nil_of_length_eq_zero (by rw [← hv.1]; rfl)
        rw [this]; exact .nil)
      · intro p o hp
        obtain ⟨l, fz, rfl, h1, h2⟩ := hall p o hp
        exact ⟨by simp [Ob.wr], rfl, h1⟩
      · intro p o hp
        obtain ⟨l, fz, rfl, h1, h2⟩ := hall p o hp
        refine ⟨by rw [← he]; exact hp, ?_⟩
        obtain ⟨pl, c, e, k1, k2, k3, k4, k5, k6⟩ := R.ob p _ (by rw [← he]; exact hp)
        refine ⟨pl, c, e, by show (if p.nat < s0.nx.nat then ι p else none) = _; rw [if_pos h1]; exact k1, k2, k3, k4, k5, fun i x y hx hy => ?_⟩
        exact nmB_vr (fun z hz => by show (if z.nat < s0.nx.nat then ι z else none) = _; rw [if_pos hz]) (k6 i x y hx hy) (h2 x (List.mem_of_getElem? hx))
    · cases h
  · cases h

/-- a whole number turned into one of a range -/
noncomputable def numSpec (vs : List V) (σ : St) : Option (V × St) := match vs with
  | [.int .i64 n, .int .i64 b] => (match ilt (.ofNat 0) b with | true => (match ilt b (.ofNat 1000001) with | true => some (.int .i64 (Int.emod n b), σ) | false => none) | false => none)
  | _ => none
theorem num_sound {f : Pos} (hnum : ∀ (n b : Int), 1 ≤ b → b ≤ 1000000 → -9223372036854775808 ≤ n → n ≤ 9223372036854775807 → ∀ w, Calls P (f.nat - 1) #[.int .i64 n, .int .i64 b] w fun e w' => e = .returned (.int .i64 (n % b)) ∧ w = w')
    {vs : List V} {σ : St} {v : V} {σ' : St} (h : numSpec vs σ = some (v, σ')) {ι : Nm} {w : World} {args : Array Value} (R : Rep ι σ w) (hv : VRs ι vs args.toList) : Calls P (f.nat - 1) args w (Post ι σ w v σ') := by
  unfold numSpec at h
  split at h
  · rename_i n b
    split at h
    · rename_i h1
      split at h
      · rename_i h2
        cases h
        rw [ilt_eq] at h1 h2
        have h1 : (0 : Int) < b := by simpa using h1
        have h2 : b < (1000001 : Int) := by simpa using h2
        obtain ⟨l⟩ := args
        have hl : 2 = l.length := hv.1
        match l, hl, hv with
        | [x, y], _, hv =>
          have e1 := hv.2 0 _ x rfl rfl
          have e2 := hv.2 1 _ y rfl rfl
          cases e1 with
          | int _ _ hn =>
            cases e2 with
            | int _ _ hb =>
              refine (hnum n b (by omega) (by omega) hn.1 hn.2 w).mono ?_
              rintro e w' ⟨rfl, rfl⟩
              have hlo := Int.emod_nonneg n (show b ≠ 0 by omega)
              have hhi := Int.emod_lt_of_pos n (show 0 < b by omega)
              refine ⟨ι, _, rfl, .int _ _ ⟨?_, ?_⟩, R, .refl _ _ _ _⟩
              · show (-9223372036854775808 : Int) ≤ n % b; omega
              · show n % b ≤ (9223372036854775807 : Int); omega
      · cases h
    · cases h
  · cases h

/-! a run's steps -/
theorem ex_seq {M : Mach} {call : Pos → List V → St → Option (V × St)} {f : Nat} {a b : IR} {A A1 : T V} {σ σ1 : St} (h : exec M call f a A σ = some (.nrm, A1, σ1)) : exec M call f (.seq a b) A σ = exec M call f b A1 σ1 := by
  show (match exec M call f a A σ with | none => none | some (x, A', σ') => (match x with | .nrm => exec M call f b A' σ' | x => some (x, A', σ'))) = _
  rw [h]
/-- a function's end -/
noncomputable def finR (res : List RV) (r : Option (XE × T V × St)) : Option (V × St) := match r with
  | none => none
  | some (x, A', σ') => (match x with | .ext _ => none | .nrm => (match resF res A' σ' with | some l => some (one l, σ') | none => none) | .ret => (match resF res A' σ' with | some l => some (one l, σ') | none => none))
theorem run_fin {M : Mach} {k : Nat} {f : Pos} {n : Nat} {b : IR} {res : List RV} (h : T.get f M.tab = some (.code n b res)) {vs : List V} (hle : Nat.ble (llen vs) n = true) (σ : St) :
    runFn M (k + 1) f vs σ = finR res (exec M (runFn M k) k b (frameOf vs .H .nil) σ) := by
  show runFn1 M (runFn M k) k f vs σ = _
  unfold runFn1
  rw [h]
  simp only [hle]
  unfold finR
  cases exec M (runFn M k) k b (frameOf vs .H .nil) σ with
  | none => rfl
  | some r => obtain ⟨x, A', σ'⟩ := r; cases x <;> rfl

/-- a table without named contracts -/
def codeO (v : Option FnE) : Bool := match v with | none => true | some e => (match e with | .code _ _ _ => true | .spec _ => false)
noncomputable def noSpec (t : T FnE) : Bool := T.rec (motive := fun _ => Bool) true (fun _ v _ ihl ihr => codeO v && ihl && ihr) t
theorem noSpec_get : ∀ {t : T FnE}, noSpec t = true → ∀ p s, T.get p t ≠ some (.spec s) := by
  intro t
  induction t with
  | nil => intro _ p s h; rw [T.get_nil] at h; cases h
  | node l v r ihl ihr =>
    intro h p s hp
    have h : (codeO v && noSpec l && noSpec r) = true := h
    simp only [Bool.and_eq_true] at h
    cases p with
    | H =>
      have hp : v = some (.spec s) := hp
      rw [hp] at h
      exact absurd h.1.1 (by simp [codeO])
    | O p => exact ihl h.1.2 p s hp
    | I p => exact ihr h.2 p s hp
/-- a law's run, out of a beginning where nothing may be written -/
theorem law_calls {E : Env P} {M : Mach} {okD : Nat → Nat → List RO → Array Oper → Bool} (K : MOk P E M okD) {k : Nat} {f : Pos} {vs : List V} {s0 σ' : St} {v : V} (hro : roT s0.nx.nat s0.h id = true) (hrun : runFn M k f vs s0 = some (v, σ'))
    {ι : Nm} {w : World} {args : Array Value} (hG : Gl E.ng ι) (R : Rep ι s0 w) (hv : VRs ι vs args.toList) : Calls P (f.nat - 1) args w fun e w' => ∃ v', e = .returned v' ∧ (∃ ι', VR ι' v v') ∧ Below w.heap.size w w' := by
  refine ((run_sound K k f vs s0 v σ' hrun).2 ι w args hG R hv).mono ?_
  rintro e w' ⟨ι', v', rfl, h1, h2, h3⟩
  refine ⟨v', rfl, ⟨ι', h1⟩, ⟨h3.os, h3.tape, h3.out, h3.size, fun r hr => h3.keep r hr ?_⟩⟩
  rintro ⟨p, o, pl, i1, i2, i3, i4⟩
  have h1 := roT_spec _ _ id hro p o i1
  unfold roO at h1
  split at h1
  · rename_i l kin fz ro
    cases kin with
    | cons _ _ => cases h1
    | nil =>
      simp only [Bool.and_eq_true] at h1
      rw [h1.1.2] at i2
      simp [Ob.wr] at i2
  · cases h1
end
end Go.Proofs.YtknhohgnilamcaaGreatDoor
