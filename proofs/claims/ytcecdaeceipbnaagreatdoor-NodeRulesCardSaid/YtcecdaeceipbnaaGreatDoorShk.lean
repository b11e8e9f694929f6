/-
  SHA-256, as the kernel reckons it quickest: on bare natural numbers; and that it is the same. (Of no program; written by a program.)
-/
import Derived.Test.YtcecdaeceipbnaaGreatDoorEnThree
namespace Go.Proofs.YtcecdaeceipbnaaGreatDoor.Shk
set_option linter.unusedVariables false
set_option maxRecDepth 100000
open Go Go.Proofs.YtcecdaeceipbnaaGreatDoor

structure W16 where
  w0 : Nat
  w1 : Nat
  w2 : Nat
  w3 : Nat
  w4 : Nat
  w5 : Nat
  w6 : Nat
  w7 : Nat
  w8 : Nat
  w9 : Nat
  w10 : Nat
  w11 : Nat
  w12 : Nat
  w13 : Nat
  w14 : Nat
  w15 : Nat
def dbl (x : Nat) : Nat := Nat.mul x 4294967297
def S1K (e : Nat) : Nat := (fun X => Nat.mod (Nat.xor (Nat.xor (Nat.div X 64) (Nat.div X 2048)) (Nat.div X 33554432)) 4294967296) (dbl e)
def S0K (a : Nat) : Nat := (fun X => Nat.mod (Nat.xor (Nat.xor (Nat.div X 4) (Nat.div X 8192)) (Nat.div X 4194304)) 4294967296) (dbl a)
def s0K (y : Nat) : Nat := (fun X => Nat.xor (Nat.mod (Nat.xor (Nat.div X 128) (Nat.div X 262144)) 4294967296) (Nat.div y 8)) (dbl y)
def s1K (x : Nat) : Nat := (fun X => Nat.xor (Nat.mod (Nat.xor (Nat.div X 131072) (Nat.div X 524288)) 4294967296) (Nat.div x 1024)) (dbl x)
def chK (e f g : Nat) : Nat := Nat.xor (Nat.land e f) (Nat.land (Nat.xor 4294967295 e) g)
def mjK (a b c : Nat) : Nat := Nat.xor (Nat.xor (Nat.land a b) (Nat.land a c)) (Nat.land b c)
def t1K (e f g h k w : Nat) : Nat := Nat.add (Nat.add (Nat.add (Nat.add h (S1K e)) (chK e f g)) k) w
def wnK (w14 w9 w1 w0 : Nat) : Nat := Nat.mod (Nat.add (Nat.add (Nat.add (s1K w14) w9) (s0K w1)) w0) 4294967296
abbrev R := List Nat
noncomputable def rdK (k : Nat) (x : H8) (W : W16) (K : H8 → W16 → R) : R := H8.rec (motive := fun _ => R) (fun a b c d e f g h => W16.rec (motive := fun _ => R) (fun w0 w1 w2 w3 w4 w5 w6 w7 w8 w9 w10 w11 w12 w13 w14 w15 =>
  (fun t1 => strN (Nat.mod (Nat.add t1 (Nat.add (S0K a) (mjK a b c))) 4294967296) fun a' => strN (Nat.mod (Nat.add d t1) 4294967296) fun e' => strN (wnK w14 w9 w1 w0) fun w' => K ⟨a', a, b, c, e', e, f, g⟩ ⟨w1, w2, w3, w4, w5, w6, w7, w8, w9, w10, w11, w12, w13, w14, w15, w'⟩) (t1K e f g h k w0)) W) x
noncomputable def rdsK (ks : List Nat) : H8 → W16 → (H8 → R) → R := List.rec (motive := fun _ => H8 → W16 → (H8 → R) → R) (fun x _ K => K x) (fun k _ ih x W K => rdK k x W fun x' W' => ih x' W' K) ks
def wd4 (a b c d : Nat) : Nat := Nat.add (Nat.mul (Nat.add (Nat.mul (Nat.add (Nat.mul a 256) b) 256) c) 256) d
noncomputable def nx4 (L : List Nat) (k : Nat → List Nat → R) : R := List.rec (motive := fun _ => R) [] (fun a l _ => List.rec (motive := fun _ => R) [] (fun b l _ => List.rec (motive := fun _ => R) [] (fun c l _ => List.rec (motive := fun _ => R) [] (fun d l _ => strN (wd4 a b c d) fun w => k w l) l) l) l) L
noncomputable def rd16 (L : List Nat) (k : W16 → List Nat → R) : R := nx4 L fun w0 l0 => nx4 l0 fun w1 l1 => nx4 l1 fun w2 l2 => nx4 l2 fun w3 l3 => nx4 l3 fun w4 l4 => nx4 l4 fun w5 l5 => nx4 l5 fun w6 l6 => nx4 l6 fun w7 l7 => nx4 l7 fun w8 l8 => nx4 l8 fun w9 l9 => nx4 l9 fun w10 l10 => nx4 l10 fun w11 l11 => nx4 l11 fun w12 l12 => nx4 l12 fun w13 l13 => nx4 l13 fun w14 l14 => nx4 l14 fun w15 l15 => k ⟨w0, w1, w2, w3, w4, w5, w6, w7, w8, w9, w10, w11, w12, w13, w14, w15⟩ l15
noncomputable def mixK (s : H8) (L : List Nat) (K : H8 → List Nat → R) : R := rd16 L fun W L' => rdsK kW s W fun x => strH (addH s x) fun y => K y L'
noncomputable def hK (nb : Nat) : List Nat → H8 → R := Nat.rec (motive := fun _ => List Nat → H8 → R) (fun _ s => forceL (outL s)) (fun _ ih L s => mixK s L fun s' L' => ih L' s') nb
noncomputable def okL (n nb : Nat) (bl P : List Nat) : Bool := lall (fun b => Nat.blt b 256) P && (Nat.beq (llen bl) n && Nat.beq (Nat.mul 64 nb) (llen P))
noncomputable def shaK (n nb : Nat) (bl : List Nat) : List Nat := (fun P => Bool.rec (motive := fun _ => List Nat) (shaQ n nb bl) (hK nb P h8zero) (okL n nb bl P)) (lapp bl (tailL n))

theorem uxor_eq (a b : Nat) : uxor a b = (a % m32 ^^^ b % m32) % m32 := rfl
theorem uand_eq (a b : Nat) : uand a b = (a % m32 &&& b % m32) % m32 := rfl
theorem uor_eq (a b : Nat) : uor a b = (a % m32 ||| b % m32) % m32 := rfl
theorem uinv_eq (a : Nat) : uinv a = (4294967295 ^^^ a % m32) % m32 := rfl
theorem ushl_eq (a p : Nat) : ushl a p = (a * p) % m32 := rfl
theorem ushr_eq (a p : Nat) : ushr a p = (a / p) % m32 := by
  cases a with
  | zero => show toU 4294967296 (Int.fdiv 0 (.ofNat p)) = _; rw [Nat.zero_div]; cases p <;> rfl
  | succ a => rfl
theorem ucvt_eq (a : Nat) : ucvt a = a % m32 := rfl
theorem xlt {a b : Nat} (ha : a < m32) (hb : b < m32) : a ^^^ b < m32 := Nat.xor_lt_two_pow (n := 32) ha hb
theorem alt {a b : Nat} (ha : a < m32) : a &&& b < m32 := Nat.lt_of_le_of_lt Nat.and_le_left ha
theorem ml {a : Nat} (h : a < m32) : a % m32 = a := Nat.mod_eq_of_lt h
theorem mm (a : Nat) : a % m32 < m32 := Nat.mod_lt _ m32_pos
theorem uxor_b {a b : Nat} (ha : a < m32) (hb : b < m32) : uxor a b = a ^^^ b := by rw [uxor_eq, ml ha, ml hb, ml (xlt ha hb)]
theorem uand_b {a b : Nat} (ha : a < m32) (hb : b < m32) : uand a b = a &&& b := by rw [uand_eq, ml ha, ml hb, ml (alt ha)]
theorem xmod (a b : Nat) : (a ^^^ b) % m32 = (a % m32) ^^^ (b % m32) := Nat.xor_mod_two_pow (n := 32)
theorem rot_lt (x p q : Nat) : rotD x p q < m32 := mm _
theorem rotK (x k : Nat) (hk : k ≤ 32) (hx : x < m32) : (x * 4294967297 / 2 ^ (32 - k)) % m32 = rotD x (2 ^ (32 - k)) (2 ^ k) := by
  have hpq : 2 ^ (32 - k) * 2 ^ k = m32 := by rw [← Nat.pow_add, Nat.sub_add_cancel hk]
  have hp : 0 < 2 ^ (32 - k) := Nat.two_pow_pos _
  have hq : 0 < 2 ^ k := Nat.two_pow_pos _
  have hxq : x / 2 ^ (32 - k) < 2 ^ k := by rw [Nat.div_lt_iff_lt_mul hp, Nat.mul_comm, hpq]; exact hx
  have hlt : x / 2 ^ (32 - k) < m32 := Nat.lt_of_le_of_lt (Nat.div_le_self _ _) hx
  have h1 : x * 4294967297 / 2 ^ (32 - k) = x * 2 ^ k + x / 2 ^ (32 - k) := by
    have e : x * 4294967297 = 2 ^ (32 - k) * (x * 2 ^ k) + x := by
      have : (4294967297 : Nat) = 2 ^ (32 - k) * 2 ^ k + 1 := by rw [hpq]
      rw [this, Nat.mul_add, Nat.mul_one, Nat.mul_left_comm]
    rw [e, Nat.mul_add_div hp]
  have h2 : x * 2 ^ k % m32 = (x % 2 ^ (32 - k)) * 2 ^ k := by rw [← hpq, Nat.mul_mod_mul_right]
  have h3 : (x % 2 ^ (32 - k)) * 2 ^ k + x / 2 ^ (32 - k) < m32 := by
    have : x % 2 ^ (32 - k) + 1 ≤ 2 ^ (32 - k) := Nat.mod_lt _ hp
    calc (x % 2 ^ (32 - k)) * 2 ^ k + x / 2 ^ (32 - k) < (x % 2 ^ (32 - k)) * 2 ^ k + 2 ^ k := by omega
      _ = (x % 2 ^ (32 - k) + 1) * 2 ^ k := by rw [Nat.add_mul, Nat.one_mul]
      _ ≤ 2 ^ (32 - k) * 2 ^ k := Nat.mul_le_mul_right _ this
      _ = m32 := hpq
  rw [h1]
  unfold rotD
  rw [uor_eq, ushl_eq, ushr_eq, ml (mm _), ml hlt, ml hlt, h2]
  have h4 : (x % 2 ^ (32 - k)) * 2 ^ k ||| x / 2 ^ (32 - k) = (x % 2 ^ (32 - k)) * 2 ^ k + x / 2 ^ (32 - k) := by
    rw [Nat.mul_comm]
    exact (Nat.two_pow_add_eq_or_of_lt hxq _).symm
  rw [h4, ml h3, Nat.add_mod, h2, ml hlt, ml h3]
theorem S1K_eq {x : Nat} (hx : x < m32) : S1K x = ep1 x := by
  have r0 : (x * 4294967297 / 64) % m32 = rotD x 64 67108864 := rotK x 26 (by omega) hx
  have r1 : (x * 4294967297 / 2048) % m32 = rotD x 2048 2097152 := rotK x 21 (by omega) hx
  have r2 : (x * 4294967297 / 33554432) % m32 = rotD x 33554432 128 := rotK x 7 (by omega) hx
  unfold S1K ep1 dbl
  show ((x * 4294967297 / 64) ^^^ (x * 4294967297 / 2048) ^^^ (x * 4294967297 / 33554432)) % m32 = _
  rw [xmod, xmod, r0, r1, r2, uxor_b (rot_lt _ _ _) (rot_lt _ _ _), uxor_b (xlt (rot_lt _ _ _) (rot_lt _ _ _)) (rot_lt _ _ _)]
theorem S0K_eq {x : Nat} (hx : x < m32) : S0K x = ep0 x := by
  have r0 : (x * 4294967297 / 4) % m32 = rotD x 4 1073741824 := rotK x 30 (by omega) hx
  have r1 : (x * 4294967297 / 8192) % m32 = rotD x 8192 524288 := rotK x 19 (by omega) hx
  have r2 : (x * 4294967297 / 4194304) % m32 = rotD x 4194304 1024 := rotK x 10 (by omega) hx
  unfold S0K ep0 dbl
  show ((x * 4294967297 / 4) ^^^ (x * 4294967297 / 8192) ^^^ (x * 4294967297 / 4194304)) % m32 = _
  rw [xmod, xmod, r0, r1, r2, uxor_b (rot_lt _ _ _) (rot_lt _ _ _), uxor_b (xlt (rot_lt _ _ _) (rot_lt _ _ _)) (rot_lt _ _ _)]
theorem s0K_eq {x : Nat} (hx : x < m32) : s0K x = sg0 x := by
  have r0 : (x * 4294967297 / 128) % m32 = rotD x 128 33554432 := rotK x 25 (by omega) hx
  have r1 : (x * 4294967297 / 262144) % m32 = rotD x 262144 16384 := rotK x 14 (by omega) hx
  have hs : x / 8 < m32 := Nat.lt_of_le_of_lt (Nat.div_le_self _ _) hx
  unfold s0K sg0 dbl
  show ((x * 4294967297 / 128) ^^^ (x * 4294967297 / 262144)) % m32 ^^^ (x / 8) = _
  rw [xmod, r0, r1, uxor_b (rot_lt _ _ _) (rot_lt _ _ _), ushr_eq, ml hs, uxor_b (xlt (rot_lt _ _ _) (rot_lt _ _ _)) hs]
theorem s1K_eq {x : Nat} (hx : x < m32) : s1K x = sg1 x := by
  have r0 : (x * 4294967297 / 131072) % m32 = rotD x 131072 32768 := rotK x 15 (by omega) hx
  have r1 : (x * 4294967297 / 524288) % m32 = rotD x 524288 8192 := rotK x 13 (by omega) hx
  have hs : x / 1024 < m32 := Nat.lt_of_le_of_lt (Nat.div_le_self _ _) hx
  unfold s1K sg1 dbl
  show ((x * 4294967297 / 131072) ^^^ (x * 4294967297 / 524288)) % m32 ^^^ (x / 1024) = _
  rw [xmod, r0, r1, uxor_b (rot_lt _ _ _) (rot_lt _ _ _), ushr_eq, ml hs, uxor_b (xlt (rot_lt _ _ _) (rot_lt _ _ _)) hs]
theorem chK_eq {e f g : Nat} (he : e < m32) (hf : f < m32) (hg : g < m32) : chK e f g = chF e f g := by
  have hi : uinv e = 4294967295 ^^^ e := by rw [uinv_eq, ml he, ml (xlt (by decide) he)]
  have hl : 4294967295 ^^^ e < m32 := xlt (by decide) he
  unfold chF
  rw [hi, uand_b he hf, uand_b hl hg, uxor_b (alt he) (alt hl)]
  rfl
theorem mjK_eq {a b c : Nat} (ha : a < m32) (hb : b < m32) (hc : c < m32) : mjK a b c = mjF a b c := by
  unfold mjF
  rw [uand_b ha hb, uand_b ha hc, uand_b hb hc, uxor_b (alt ha) (alt ha), uxor_b (xlt (alt ha) (alt ha)) (alt hb)]
  rfl
def Bd (x : H8) : Prop := x.a < m32 ∧ x.b < m32 ∧ x.c < m32 ∧ x.d < m32 ∧ x.e < m32 ∧ x.f < m32 ∧ x.g < m32 ∧ x.h < m32
theorem wnK_eq {a b c d : Nat} (ha : a < m32) (hc : c < m32) : wnK a b c d = wnext a b c d := by
  unfold wnK wnext
  rw [s1K_eq ha, s0K_eq hc]
  simp only [uadd_eq]
  generalize sg1 a = x
  generalize sg0 c = y
  show (x + b + y + d) % 4294967296 = (((x + b) % 4294967296 + y) % 4294967296 + d) % 4294967296
  omega
theorem rdK_eq {k : Nat} {x : H8} {W : W16} (hx : Bd x) (h1 : W.w1 < m32) (h14 : W.w14 < m32) (K : H8 → W16 → R) : rdK k x W K = K (rnd k W.w0 x) ⟨W.w1, W.w2, W.w3, W.w4, W.w5, W.w6, W.w7, W.w8, W.w9, W.w10, W.w11, W.w12, W.w13, W.w14, W.w15, wnext W.w14 W.w9 W.w1 W.w0⟩ := by
  obtain ⟨a, b, c, d, e, f, g, h⟩ := x
  obtain ⟨w0, w1, w2, w3, w4, w5, w6, w7, w8, w9, w10, w11, w12, w13, w14, w15⟩ := W
  obtain ⟨ha, hb, hc, hd, he, hf, hg, hh⟩ := hx
  simp only at ha hb hc hd he hf hg hh h1 h14
  unfold rdK
  dsimp only
  simp only [strN_eq]
  rw [wnK_eq h14 h1]
  unfold t1K
  rw [S0K_eq ha, mjK_eq ha hb hc, S1K_eq he, chK_eq he hf hg]
  unfold rnd t1F t2F
  simp only [uadd_eq]
  generalize ep1 e = x1
  generalize chF e f g = x2
  generalize ep0 a = x3
  generalize mjF a b c = x4
  have e1 : Nat.mod (Nat.add (Nat.add (Nat.add (Nat.add (Nat.add h x1) x2) k) w0) (Nat.add x3 x4)) 4294967296 = (((((h + x1) % m32 + x2) % m32 + k) % m32 + w0) % m32 + (x3 + x4) % m32) % m32 := by
    show (h + x1 + x2 + k + w0 + (x3 + x4)) % 4294967296 = (((((h + x1) % 4294967296 + x2) % 4294967296 + k) % 4294967296 + w0) % 4294967296 + (x3 + x4) % 4294967296) % 4294967296
    omega
  have e2 : Nat.mod (Nat.add d (Nat.add (Nat.add (Nat.add (Nat.add h x1) x2) k) w0)) 4294967296 = (d + ((((h + x1) % m32 + x2) % m32 + k) % m32 + w0) % m32) % m32 := by
    show (d + (h + x1 + x2 + k + w0)) % 4294967296 = (d + ((((h + x1) % 4294967296 + x2) % 4294967296 + k) % 4294967296 + w0) % 4294967296) % 4294967296
    omega
  rw [e1, e2]
theorem rnd_bd {k w : Nat} {x : H8} (hx : Bd x) : Bd (rnd k w x) := ⟨mm _, hx.1, hx.2.1, hx.2.2.1, mm _, hx.2.2.2.2.1, hx.2.2.2.2.2.1, hx.2.2.2.2.2.2.1⟩
theorem rnds_bd {W : Nat → Nat} {x : H8} (hx : Bd x) : ∀ t, Bd (rnds W x t)
  | 0 => hx
  | t + 1 => rnd_bd (rnds_bd hx t)
/-! the words -/
noncomputable def Wd (B : Nat → Nat) (t : Nat) : Nat := getN (accW B (t + 1)) 0
theorem acc_get (B : Nat → Nat) : ∀ n j, j < n → getN (accW B n) j = Wd B (n - 1 - j)
  | 0, j, h => by omega
  | n + 1, 0, h => rfl
  | n + 1, j + 1, h => by
    rw [accW_succ, getN_succ, acc_get B n j (by omega)]
    congr 1; omega
theorem Wd_lo (B : Nat → Nat) {t : Nat} (h : t < 16) : Wd B t = be B t := by
  unfold Wd
  rw [accW_succ, getN_zero]
  have : Nat.blt t 16 = true := by rw [blt_eq]; simp [h]
  rw [this]
theorem Wd_hi (B : Nat → Nat) (t : Nat) : Wd B (t + 16) = wnext (Wd B (t + 14)) (Wd B (t + 9)) (Wd B (t + 1)) (Wd B t) := by
  rw [show Wd B (t + 16) = getN (accW B (t + 16 + 1)) 0 from rfl, accW_succ, getN_zero]
  have : Nat.blt (t + 16) 16 = false := by rw [blt_eq]; simp
  rw [this]
  show wnext (getN (accW B (t + 16)) 1) (getN (accW B (t + 16)) 6) (getN (accW B (t + 16)) 14) (getN (accW B (t + 16)) 15) = _
  rw [acc_get _ _ _ (by omega), acc_get _ _ _ (by omega), acc_get _ _ _ (by omega), acc_get _ _ _ (by omega)]
  congr 2 <;> omega
theorem Wd_lt (B : Nat → Nat) (t : Nat) : Wd B t < m32 := by
  by_cases h : t < 16
  · rw [Wd_lo B h]; exact mm _
  · obtain ⟨s, rfl⟩ : ∃ s, t = s + 16 := ⟨t - 16, by omega⟩
    rw [Wd_hi]; exact mm _
theorem wAt_Wd (B : Nat → Nat) {t : Nat} (h : t < 64) : wAt B 64 t = Wd B t := by
  unfold wAt
  have hb : Nat.blt t 64 = true := by rw [blt_eq]; simp [h]
  simp only [hb]
  rw [acc_get B 64 _ (by show 64 - 1 - t < 64; omega)]
  congr 1
  show 64 - 1 - (64 - 1 - t) = t
  omega
noncomputable def win (B : Nat → Nat) (t : Nat) : W16 := ⟨Wd B t, Wd B (t + 1), Wd B (t + 2), Wd B (t + 3), Wd B (t + 4), Wd B (t + 5), Wd B (t + 6), Wd B (t + 7), Wd B (t + 8), Wd B (t + 9), Wd B (t + 10), Wd B (t + 11), Wd B (t + 12), Wd B (t + 13), Wd B (t + 14), Wd B (t + 15)⟩
theorem drop_getN : ∀ (l : List Nat) (t : Nat), t < l.length → l.drop t = getN l t :: l.drop (t + 1)
  | [], t, h => absurd h (Nat.not_lt_zero _)
  | x :: l, 0, h => rfl
  | x :: l, t + 1, h => by
    rw [getN_succ, List.drop_succ_cons, List.drop_succ_cons]
    exact drop_getN l t (Nat.lt_of_succ_lt_succ h)
theorem kW_len : kW.length = 64 := rfl
theorem win_step (B : Nat → Nat) (t : Nat) : (⟨(win B t).w1, (win B t).w2, (win B t).w3, (win B t).w4, (win B t).w5, (win B t).w6, (win B t).w7, (win B t).w8, (win B t).w9, (win B t).w10, (win B t).w11, (win B t).w12, (win B t).w13, (win B t).w14, (win B t).w15, wnext (win B t).w14 (win B t).w9 (win B t).w1 (win B t).w0⟩ : W16) = win B (t + 1) := by
  have hw : wnext (win B t).w14 (win B t).w9 (win B t).w1 (win B t).w0 = Wd B (t + 16) := (Wd_hi B t).symm
  rw [hw]
  unfold win
  dsimp only
theorem rdsK_cons (k : Nat) (ks : List Nat) (x : H8) (W : W16) (K : H8 → R) : rdsK (k :: ks) x W K = rdK k x W fun x' W' => rdsK ks x' W' K := rfl
theorem win_0 (B : Nat → Nat) (t : Nat) : (win B t).w0 = Wd B t := rfl
theorem win_1 (B : Nat → Nat) (t : Nat) : (win B t).w1 < m32 := by
  unfold win
  dsimp only
  exact Wd_lt B (t + 1)
theorem win_14 (B : Nat → Nat) (t : Nat) : (win B t).w14 < m32 := by
  unfold win
  dsimp only
  exact Wd_lt B (t + 14)
theorem rds_step (B : Nat → Nat) (s : H8) (hs : Bd s) (K : H8 → R) (t : Nat) (h : t < 64) : rdsK (kW.drop t) (rnds (wAt B 64) s t) (win B t) K = rdsK (kW.drop (t + 1)) (rnds (wAt B 64) s (t + 1)) (win B (t + 1)) K := by
  rw [drop_getN kW t (by rw [kW_len]; exact h), rdsK_cons, rdK_eq (rnds_bd hs t) (win_1 B t) (win_14 B t), win_step, win_0, ← wAt_Wd B h, ← rnds_succ]
theorem kW_end : kW.drop 64 = [] := by decide
theorem rds_eq (B : Nat → Nat) (s : H8) (hs : Bd s) (K : H8 → R) : ∀ m t, t + m = 64 → rdsK (kW.drop t) (rnds (wAt B 64) s t) (win B t) K = K (rnds (wAt B 64) s 64) := by
  intro m
  induction m with
  | zero =>
    intro t h
    obtain rfl : t = 64 := h
    rw [kW_end]
    have e : ∀ x W, rdsK [] x W K = K x := fun _ _ => rfl
    rw [e]
  | succ m ih =>
    intro t h
    rw [rds_step B s hs K t (by omega)]
    exact ih (t + 1) (by omega)
/-! a block's bytes -/
theorem or_add {a b : Nat} (k : Nat) (h : b < 2 ^ k) : (2 ^ k * a) ||| b = 2 ^ k * a + b := (Nat.two_pow_add_eq_or_of_lt h a).symm
theorem be_wd4 (B : Nat → Nat) (t : Nat) (h0 : B (4 * t) < 256) (h1 : B (4 * t + 1) < 256) (h2 : B (4 * t + 2) < 256) (h3 : B (4 * t + 3) < 256) : be B t = wd4 (B (4 * t)) (B (4 * t + 1)) (B (4 * t + 2)) (B (4 * t + 3)) := by
  unfold be wd4
  generalize B (4 * t) = a at *
  generalize B (4 * t + 1) = b at *
  generalize B (4 * t + 2) = c at *
  generalize B (4 * t + 3) = d at *
  have m256 : ∀ x, x < 256 → x % m32 = x := fun x hx => ml (Nat.lt_trans hx (by decide))
  simp only [ucvt_eq, m256 a h0, m256 b h1, m256 c h2, m256 d h3, ushl_eq]
  have ka : a * 16777216 % m32 = 2 ^ 24 * a := by rw [ml (show a * 16777216 < 4294967296 by omega)]; omega
  have kb : b * 65536 % m32 = b * 65536 := ml (show b * 65536 < 4294967296 by omega)
  have kc : c * 256 % m32 = c * 256 := ml (show c * 256 < 4294967296 by omega)
  rw [ka, kb, kc]
  have g1 : uor (2 ^ 24 * a) (b * 65536) = 2 ^ 16 * (256 * a + b) := by
    rw [uor_eq, ml (show 2 ^ 24 * a < 4294967296 by omega), ml (show b * 65536 < 4294967296 by omega), or_add 24 (by omega), ml (show 2 ^ 24 * a + b * 65536 < 4294967296 by omega)]
    omega
  have g2 : uor (2 ^ 16 * (256 * a + b)) (c * 256) = 2 ^ 8 * (65536 * a + 256 * b + c) := by
    rw [uor_eq, ml (show 2 ^ 16 * (256 * a + b) < 4294967296 by omega), ml (show c * 256 < 4294967296 by omega), or_add 16 (by omega), ml (show 2 ^ 16 * (256 * a + b) + c * 256 < 4294967296 by omega)]
    omega
  rw [g1, g2, uor_eq, ml (show 2 ^ 8 * (65536 * a + 256 * b + c) < 4294967296 by omega), ml (show d < 4294967296 by omega), or_add 8 (by omega), ml (show 2 ^ 8 * (65536 * a + 256 * b + c) + d < 4294967296 by omega)]
  show _ = ((a * 256 + b) * 256 + c) * 256 + d
  omega
theorem nx4_eq (L : List Nat) (k : Nat → List Nat → R) (h : 4 ≤ L.length) : nx4 L k = k (wd4 (getN L 0) (getN L 1) (getN L 2) (getN L 3)) (L.drop 4) := by
  match L, h with
  | a :: b :: c :: d :: l, _ =>
    unfold nx4
    dsimp only
    rw [strN_eq]
    rfl
noncomputable def wdA (L : List Nat) (t : Nat) : Nat := wd4 (getN (L.drop (4 * t)) 0) (getN (L.drop (4 * t)) 1) (getN (L.drop (4 * t)) 2) (getN (L.drop (4 * t)) 3)
theorem rd16_eq (L : List Nat) (k : W16 → List Nat → R) (h : 64 ≤ L.length) : rd16 L k = k ⟨wdA L 0, wdA L 1, wdA L 2, wdA L 3, wdA L 4, wdA L 5, wdA L 6, wdA L 7, wdA L 8, wdA L 9, wdA L 10, wdA L 11, wdA L 12, wdA L 13, wdA L 14, wdA L 15⟩ (L.drop 64) := by
  unfold rd16
  rw [nx4_eq _ _ (by first | omega | (simp only [List.length_drop]; omega))]
  rw [nx4_eq _ _ (by first | omega | (simp only [List.length_drop]; omega))]
  rw [nx4_eq _ _ (by first | omega | (simp only [List.length_drop]; omega))]
  rw [nx4_eq _ _ (by first | omega | (simp only [List.length_drop]; omega))]
  rw [nx4_eq _ _ (by first | omega | (simp only [List.length_drop]; omega))]
  rw [nx4_eq _ _ (by first | omega | (simp only [List.length_drop]; omega))]
  rw [nx4_eq _ _ (by first | omega | (simp only [List.length_drop]; omega))]
  rw [nx4_eq _ _ (by first | omega | (simp only [List.length_drop]; omega))]
  rw [nx4_eq _ _ (by first | omega | (simp only [List.length_drop]; omega))]
  rw [nx4_eq _ _ (by first | omega | (simp only [List.length_drop]; omega))]
  rw [nx4_eq _ _ (by first | omega | (simp only [List.length_drop]; omega))]
  rw [nx4_eq _ _ (by first | omega | (simp only [List.length_drop]; omega))]
  rw [nx4_eq _ _ (by first | omega | (simp only [List.length_drop]; omega))]
  rw [nx4_eq _ _ (by first | omega | (simp only [List.length_drop]; omega))]
  rw [nx4_eq _ _ (by first | omega | (simp only [List.length_drop]; omega))]
  rw [nx4_eq _ _ (by first | omega | (simp only [List.length_drop]; omega))]
  simp only [List.drop_drop]
  rfl
theorem getN_drop (L : List Nat) (i j : Nat) : getN (L.drop i) j = getN L (i + j) := by rw [getN_lget, getN_lget, List.getElem?_drop]
theorem wdA_be (L : List Nat) (hL : ∀ i, getN L i < 256) (t : Nat) (ht : t < 16) : wdA L t = be (getN (blkL L 0)) t := by
  have hb : ∀ i, i < 64 → getN (blkL L 0) i = getN L i := fun i hi => by
    unfold blkL
    rw [getN_lget, getN_lget, ltake_eq, ldrop_eq, List.getElem?_take, if_pos hi]
    rfl
  rw [be_wd4 _ _ (by rw [hb _ (by omega)]; exact hL _) (by rw [hb _ (by omega)]; exact hL _) (by rw [hb _ (by omega)]; exact hL _) (by rw [hb _ (by omega)]; exact hL _)]
  unfold wdA
  simp only [getN_drop]
  rw [hb _ (by omega), hb _ (by omega), hb _ (by omega), hb _ (by omega)]
  rfl
theorem mixK_eq (s : H8) (hs : Bd s) (L : List Nat) (h : 64 ≤ L.length) (hL : ∀ i, getN L i < 256) (K : H8 → List Nat → R) : mixK s L K = K (mixF s (getN (blkL L 0))) (L.drop 64) := by
  unfold mixK
  rw [rd16_eq L _ h]
  have e : (⟨wdA L 0, wdA L 1, wdA L 2, wdA L 3, wdA L 4, wdA L 5, wdA L 6, wdA L 7, wdA L 8, wdA L 9, wdA L 10, wdA L 11, wdA L 12, wdA L 13, wdA L 14, wdA L 15⟩ : W16) = win (getN (blkL L 0)) 0 := by
    unfold win
    congr 1 <;> (rw [Wd_lo _ (by omega)]; exact wdA_be L hL _ (by omega))
  rw [e]
  have := rds_eq (getN (blkL L 0)) s hs (fun x => strH (addH s x) fun y => K y (L.drop 64)) 64 0 rfl
  have e0 : kW.drop 0 = kW := rfl
  rw [e0] at this
  show rdsK kW (rnds (wAt (getN (blkL L 0)) 64) s 0) _ _ = _
  rw [this, strH_eq]
  rfl
theorem addH_bd (s x : H8) : Bd (addH s x) := ⟨mm _, mm _, mm _, mm _, mm _, mm _, mm _, mm _⟩
theorem hDt_bd (P : List Nat) : ∀ j, Bd (hDt P j)
  | 0 => by show Bd h8zero; unfold Bd; decide
  | j + 1 => addH_bd _ _
theorem hK_eq (P : List Nat) (hP : ∀ i, getN P i < 256) : ∀ m j, 64 * (j + m) ≤ P.length → hK m (P.drop (64 * j)) (hDt P j) = outL (hDt P (j + m))
  | 0, j, h => by
    have e : ∀ L s, hK 0 L s = forceL (outL s) := fun _ _ => rfl
    rw [e, forceL_eq]
    rfl
  | m + 1, j, h => by
    have e : hK (m + 1) (P.drop (64 * j)) (hDt P j) = mixK (hDt P j) (P.drop (64 * j)) fun s' L' => hK m L' s' := rfl
    rw [e, mixK_eq _ (hDt_bd P j) _ (by rw [List.length_drop]; omega) (fun i => by rw [getN_drop]; exact hP _)]
    have e2 : (P.drop (64 * j)).drop 64 = P.drop (64 * (j + 1)) := by rw [List.drop_drop]; congr 1
    have e3 : mixF (hDt P j) (getN (blkL (P.drop (64 * j)) 0)) = hDt P (j + 1) := by
      show _ = mixF (hDt P j) (getN (blkL P j))
      refine mixF_ext (fun i hi => ?_) _
      unfold blkL
      rw [getN_lget, getN_lget, ltake_eq, ldrop_eq, ltake_eq, ldrop_eq, List.getElem?_take, if_pos hi, List.getElem?_take, if_pos hi, List.getElem?_drop, List.getElem?_drop, List.getElem?_drop]
      congr 2
      show 64 * j + (64 * 0 + i) = 64 * j + i
      omega
    rw [e2, e3, hK_eq P hP m (j + 1) (by omega)]
    congr 2; omega
theorem lmap_iota {bl : List Nat} {n : Nat} (h : bl.length = n) : lmap (getN bl) (iota n 0) = bl := by
  rw [lmap_eq]
  refine List.ext_getElem? (fun i => ?_)
  rw [List.getElem?_map]
  by_cases hi : i < n
  · rw [iota_get n 0 i hi]
    simp only [Option.map_some, Nat.zero_add]
    rw [List.getElem?_eq_getElem (by omega), getN_eq (List.getElem?_eq_getElem (by omega))]
  · have h1 : bl[i]? = none := List.getElem?_eq_none (by omega)
    have h2 : (iota n 0)[i]? = none := List.getElem?_eq_none (by rw [iota_len]; omega)
    rw [h1, h2]
    rfl
theorem shaK_eq (n nb : Nat) (bl : List Nat) : shaK n nb bl = shaQ n nb bl := by
  have e : shaK n nb bl = Bool.rec (motive := fun _ => List Nat) (shaQ n nb bl) (hK nb (lapp bl (tailL n)) h8zero) (okL n nb bl (lapp bl (tailL n))) := rfl
  rw [e]
  cases h : okL n nb bl (lapp bl (tailL n)) with
  | false => rfl
  | true =>
    show hK nb (lapp bl (tailL n)) h8zero = _
    unfold okL at h
    rw [Bool.and_eq_true, Bool.and_eq_true] at h
    obtain ⟨h1, h2, h3⟩ := h
    have h2 := Nat.eq_of_beq_eq_true h2
    have h3 := Nat.eq_of_beq_eq_true h3
    rw [llen_eq] at h2 h3
    rw [lall_eq] at h1
    rw [shaQ_eq]
    unfold shaF
    rw [← hDt_eq]
    have hp : padL n (getN bl) = lapp bl (tailL n) := by unfold padL; rw [lmap_iota h2]
    rw [hp]
    have hP : ∀ i, getN (lapp bl (tailL n)) i < 256 := fun i => by
      rw [getN_lget]
      cases hi : (lapp bl (tailL n))[i]? with
      | none => show 0 < 256; omega
      | some x =>
        have := List.all_eq_true.1 h1 x (List.mem_of_getElem? hi)
        rw [blt_eq] at this
        simpa using this
    have := hK_eq (lapp bl (tailL n)) hP nb 0 (by rw [Nat.zero_add]; exact Nat.le_of_eq h3)
    rw [Nat.zero_add] at this
    exact this
end Go.Proofs.YtcecdaeceipbnaaGreatDoor.Shk
