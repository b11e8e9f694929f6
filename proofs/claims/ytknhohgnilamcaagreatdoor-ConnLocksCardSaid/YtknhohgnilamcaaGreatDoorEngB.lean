/-
  The abstract machine's values, blocks, and what they stand for in a world. (Of no program.)
-/
import Derived.Test.YtknhohgnilamcaaGreatDoorEngA
import Derived.Test.YtknhohgnilamcaaGreatDoorEngMem
namespace Go.Proofs.YtknhohgnilamcaaGreatDoor
set_option linter.unusedVariables false
set_option linter.unusedSimpArgs false
open Go

/-- values -/
inductive V where
  | u | bool (b : Bool) | int (k : IntKind) (n : Int) | str (l : List Nat)
  | nilp | ptr (p : Pos) (o : Nat)
  | nils | slice (p : Pos) (o len : Nat) (cap : Option Nat) (esz : Nat)
  | nilm | map (p : Pos)
  | nilf | fn (f : Nat) (first cap : List V)
  | nili | iface (t : Nat) (v : V)
  | agg (l : List V) | tup (l : List V)
  deriving Inhabited

/-- an entry of a map -/
structure ME where
  k : V
  v : V
  b : Nat
  deriving Inhabited

/-- what a map's keys are -/
inductive KSh where
  | cells (l : List IntKind) | int (k : IntKind) | str
  deriving Inhabited, DecidableEq
def Shaped : KSh → Value → Prop
  | .cells sh, v => ∃ c : Array Value, v = .agg c ∧ c.size = sh.length ∧ ∀ (i : Nat) k x, sh[i]? = some k → c[i]? = some x → ∃ n, x = .int k n ∧ k.has n
  | .int k, v => ∃ n, v = .int k n ∧ k.has n
  | .str, v => ∃ s, v = .string s

/-- blocks: cells (who may share them; appended to; not to be written), maps, iterators -/
inductive Ob where
  | cells (l : List V) (kin : List Pos) (fz ro : Bool)
  | map (es : List ME) (ck : Nat) (ks : KSh)
  | mit (m : Option Pos) (since : Nat) (seen : List Nat) (stepped : Nat)
  | sit (l : List Nat) (at_ : Nat)
  | dead
  deriving Inhabited

def beqK (a b : IntKind) : Bool := match a, b with
  | .i8, .i8 | .i16, .i16 | .i32, .i32 | .i64, .i64 | .u8, .u8 | .u16, .u16 | .u32, .u32 | .u64, .u64 => true | _, _ => false
noncomputable def shaped (sh : List IntKind) : List V → Bool :=
  List.rec (motive := fun _ => List V → Bool) (fun m => match m with | [] => true | _ :: _ => false)
    (fun k _ ih m => match m with | [] => false | y :: m => (match y with | .int k' _ => (match beqK k k' with | true => ih m | false => false) | _ => false)) sh
/-- the shape of a key, as a value -/
noncomputable def keyShaped (ks : KSh) (v : V) : Bool := match ks with
  | .cells sh => (match v with | .agg l => shaped sh l | _ => false)
  | .int k => (match v with | .int k' _ => beqK k k' | _ => false)
  | .str => (match v with | .str _ => true | _ => false)

structure St where
  h : T Ob
  nx : Pos
  deriving Inhabited

/-- where a block lies -/
structure Pl where
  blk : Nat
  st : Nat
  sz : Nat
  kd : Nat
abbrev Nm := Pos → Option Pl

/-- a value stands for a value -/
inductive VR (ι : Nm) : V → Value → Prop where
  | u (v : Value) : VR ι .u v
  | bool (b : Bool) : VR ι (.bool b) (.bool b)
  | int (k : IntKind) (n : Int) (h : k.has n) : VR ι (.int k n) (.int k n)
  | str (l : List Nat) (s : ByteArray) (h : s.data.toList.map (·.toNat) = l) : VR ι (.str l) (.string s)
  | nilp : VR ι .nilp (.pointer none)
  | ptr (p : Pos) (o : Nat) (pl : Pl) (h : ι p = some pl) (hk : pl.kd = 0) : VR ι (.ptr p o) (.pointer (some ⟨pl.blk, pl.st + o, none⟩))
  | nils : VR ι .nils (.slice none 0 0)
  | slice (p : Pos) (o len : Nat) (cap : Option Nat) (esz : Nat) (pl : Pl) (a : Addr) (c : Nat) (h : ι p = some pl) (hk : pl.kd = 0) (hc : ∀ n, cap = some n → c = n) (hl : len ≤ c)
      (ha : c ≠ 0 → a = ⟨pl.blk, pl.st + o, none⟩) (hs : pl.st + o + c * esz ≤ pl.sz) : VR ι (.slice p o len cap esz) (.slice (some a) len c)
  | nilm : VR ι .nilm (.map none)
  | map (p : Pos) (pl : Pl) (h : ι p = some pl) (hk : pl.kd = 1) : VR ι (.map p) (.map (some pl.blk))
  | nilf : VR ι .nilf .nilFunc
  | fn (f : Nat) (x y : List V) (x' y' : Array Value) (hx : x.length = x'.size) (hy : y.length = y'.size)
      (h1 : ∀ (i : Nat) a b, x[i]? = some a → x'[i]? = some b → VR ι a b) (h2 : ∀ (i : Nat) a b, y[i]? = some a → y'[i]? = some b → VR ι a b) : VR ι (.fn f x y) (.func (.func f) x' y')
  | nili : VR ι .nili .nilIface
  | iface (t : Nat) (v : V) (v' : Value) (h : VR ι v v') : VR ι (.iface t v) (.iface t v')
  | agg (l : List V) (c : Array Value) (hl : l.length = c.size) (h : ∀ (i : Nat) a b, l[i]? = some a → c[i]? = some b → VR ι a b) : VR ι (.agg l) (.agg c)
  | tup (l : List V) (c : Array Value) (hl : l.length = c.size) (h : ∀ (i : Nat) a b, l[i]? = some a → c[i]? = some b → VR ι a b) : VR ι (.tup l) (.tuple c)

def Ext (ι ι' : Nm) : Prop := ∀ p pl, ι p = some pl → ι' p = some pl
theorem Ext.refl (ι : Nm) : Ext ι ι := fun _ _ h => h
theorem Ext.trans {a b c : Nm} (h : Ext a b) (k : Ext b c) : Ext a c := fun p pl x => k p pl (h p pl x)
theorem VR.mono {ι ι' : Nm} (h : Ext ι ι') {x : V} {y : Value} (v : VR ι x y) : VR ι' x y := by
  induction v with
  | u v => exact .u v
  | bool b => exact .bool b
  | int k n hn => exact .int k n hn
  | str l s hs => exact .str l s hs
  | nilp => exact .nilp
  | ptr p o pl hp hk => exact .ptr p o pl (h _ _ hp) hk
  | nils => exact .nils
  | slice p o len cap esz pl a c hp hk hc hl ha hs => exact .slice p o len cap esz pl a c (h _ _ hp) hk hc hl ha hs
  | nilm => exact .nilm
  | map p pl hp hk => exact .map p pl (h _ _ hp) hk
  | nilf => exact .nilf
  | fn f x y x' y' hx hy h1 h2 ih1 ih2 => exact .fn f x y x' y' hx hy ih1 ih2
  | nili => exact .nili
  | iface t v v' hv ih => exact .iface t v v' ih
  | agg l c hl hh ih => exact .agg l c hl ih
  | tup l c hl hh ih => exact .tup l c hl ih

/-- rows of values -/
def VRs (ι : Nm) (l : List V) (c : List Value) : Prop := l.length = c.length ∧ ∀ (i : Nat) a b, l[i]? = some a → c[i]? = some b → VR ι a b
theorem VRs.mono {ι ι' : Nm} (h : Ext ι ι') {l : List V} {c : List Value} (v : VRs ι l c) : VRs ι' l c := ⟨v.1, fun i a b ha hb => (v.2 i a b ha hb).mono h⟩
theorem VRs.nil {ι : Nm} : VRs ι [] [] := ⟨rfl, fun i a b h => by simp at h⟩
theorem VRs.cons {ι : Nm} {x : V} {y : Value} {l : List V} {c : List Value} (h : VR ι x y) (hs : VRs ι l c) : VRs ι (x :: l) (y :: c) := by
  refine ⟨by simp [hs.1], fun i a b ha hb => ?_⟩
  cases i with
  | zero => simp at ha hb; subst ha; subst hb; exact h
  | succ i => simp at ha hb; exact hs.2 i a b ha hb
theorem VRs.head {ι : Nm} {x : V} {y : Value} {l : List V} {c : List Value} (h : VRs ι (x :: l) (y :: c)) : VR ι x y := h.2 0 x y rfl rfl
theorem VRs.tail {ι : Nm} {x : V} {y : Value} {l : List V} {c : List Value} (h : VRs ι (x :: l) (y :: c)) : VRs ι l c :=
  ⟨by have := h.1; simpa using this, fun i a b ha hb => h.2 (i + 1) a b (by simpa using ha) (by simpa using hb)⟩
theorem VRs.append {ι : Nm} {l l' : List V} {c c' : List Value} (h : VRs ι l c) (h' : VRs ι l' c') : VRs ι (l ++ l') (c ++ c') := by
  refine ⟨by simp [h.1, h'.1], fun i a b ha hb => ?_⟩
  by_cases hi : i < l.length
  · rw [List.getElem?_append_left hi] at ha
    rw [List.getElem?_append_left (by rw [← h.1]; exact hi)] at hb
    exact h.2 i a b ha hb
  · rw [List.getElem?_append_right (by omega)] at ha
    rw [List.getElem?_append_right (by rw [← h.1]; omega)] at hb
    exact h'.2 _ a b ha (by rw [h.1]; exact hb)
theorem VRs.take {ι : Nm} {l : List V} {c : List Value} (h : VRs ι l c) (n : Nat) : VRs ι (l.take n) (c.take n) := by
  refine ⟨by simp [h.1], fun i a b ha hb => ?_⟩
  rw [List.getElem?_take] at ha hb
  split at ha
  · rename_i hi; rw [if_pos hi] at hb; exact h.2 i a b ha hb
  · cases ha
theorem VRs.drop {ι : Nm} {l : List V} {c : List Value} (h : VRs ι l c) (n : Nat) : VRs ι (l.drop n) (c.drop n) := by
  refine ⟨by simp [h.1], fun i a b ha hb => ?_⟩
  rw [List.getElem?_drop] at ha hb
  exact h.2 _ a b ha hb
theorem VR.of_agg {ι : Nm} {l : List V} {y : Value} (h : VR ι (.agg l) y) : ∃ c, y = .agg c ∧ VRs ι l c.toList := by
  cases h with
  | agg l c hl h => exact ⟨c, rfl, by simpa using hl, fun i a b ha hb => h i a b ha (by simpa using hb)⟩
theorem VR.mk_agg {ι : Nm} {l : List V} {c : Array Value} (h : VRs ι l c.toList) : VR ι (.agg l) (.agg c) :=
  .agg l c (by simpa using h.1) (fun i a b ha hb => h.2 i a b ha (by simpa using hb))
theorem VR.of_tup {ι : Nm} {l : List V} {y : Value} (h : VR ι (.tup l) y) : ∃ c, y = .tuple c ∧ VRs ι l c.toList := by
  cases h with
  | tup l c hl h => exact ⟨c, rfl, by simpa using hl, fun i a b ha hb => h i a b ha (by simpa using hb)⟩
theorem VR.mk_tup {ι : Nm} {l : List V} {c : Array Value} (h : VRs ι l c.toList) : VR ι (.tup l) (.tuple c) :=
  .tup l c (by simpa using h.1) (fun i a b ha hb => h.2 i a b ha (by simpa using hb))

/-- the real block of a place is there -/
def PlOk (w : World) (pl : Pl) : Prop :=
  (pl.kd = 0 → ∃ c e, w.heap[pl.blk]? = some (.cells c e) ∧ c.size = pl.sz) ∧
  (pl.kd = 1 → ∃ es ck, w.heap[pl.blk]? = some (.map es ck)) ∧
  (pl.kd = 2 → ∃ m s n st, w.heap[pl.blk]? = some (.mapIter m s n st)) ∧ (pl.kd = 3 → ∃ s n, w.heap[pl.blk]? = some (.stringIter s n)) ∧ pl.kd ≤ 3

def MER (ι : Nm) (x : ME) (y : MapEntry) : Prop := VR ι x.k y.key ∧ VR ι x.v y.val ∧ x.b = y.born
/-- a block stands for a block -/
def ObR (ι : Nm) (w : World) (p : Pos) : Ob → Prop
  | .cells l _ _ _ => ∃ pl c e, ι p = some pl ∧ pl.kd = 0 ∧ w.heap[pl.blk]? = some (.cells c e) ∧ c.size = pl.sz ∧ pl.st + l.length ≤ c.size ∧ ∀ (i : Nat) x y, l[i]? = some x → c[pl.st + i]? = some y → VR ι x y
  | .map es ck ks => ∃ pl es', ι p = some pl ∧ pl.kd = 1 ∧ w.heap[pl.blk]? = some (.map es' ck) ∧ es.length = es'.size ∧ (∀ (i : Nat) x y, es[i]? = some x → es'[i]? = some y → MER ι x y) ∧
      (∀ (i : Nat) x, es[i]? = some x → keyShaped ks x.k = true) ∧ ∀ (i j : Nat) x y, es[i]? = some x → es[j]? = some y → x.k = y.k → i = j
  | .mit m since seen stepped => ∃ pl m', ι p = some pl ∧ pl.kd = 2 ∧ w.heap[pl.blk]? = some (.mapIter m' since seen.toArray stepped) ∧
      (match m with | none => m' = none | some q => ∃ pq, ι q = some pq ∧ pq.kd = 1 ∧ m' = some pq.blk)
  | .sit l n => ∃ pl s, ι p = some pl ∧ pl.kd = 3 ∧ w.heap[pl.blk]? = some (.stringIter s n) ∧ s.data.toList.map (·.toNat) = l
  | .dead => True

/-- what may be written -/
def Ob.wr : Ob → Bool
  | .cells _ _ fz ro => !fz && !ro
  | .map .. | .mit .. | .sit .. => true
  | .dead => false
def Ob.live : Ob → Bool | .dead => false | _ => true
def Ob.kin : Ob → List Pos | .cells _ kin _ _ => kin | _ => []
def Ob.len : Ob → Nat | .cells l _ _ _ => l.length | _ => 0

structure Rep (ι : Nm) (σ : St) (w : World) : Prop where
  ob : ∀ p o, T.get p σ.h = some o → ObR ι w p o
  pl : ∀ p pl, ι p = some pl → PlOk w pl
  dom : ∀ p pl, ι p = some pl → p.nat < σ.nx.nat
  hdom : ∀ p o, T.get p σ.h = some o → p.nat < σ.nx.nat
  sep2 : ∀ p o q o' a b, T.get p σ.h = some o → o.live = true → T.get q σ.h = some o' → o'.live = true → ι p = some a → ι q = some b → a.blk = b.blk → q ≠ p → q ∈ o.kin ∨ p ∈ o'.kin ∨ (o.wr = false ∧ o'.wr = false ∧ (a.st + o.len ≤ b.st ∨ b.st + o'.len ≤ a.st))
  kin : ∀ p o q o', T.get p σ.h = some o → q ∈ o.kin → T.get q σ.h = some o' → o'.wr = false
  kpres : ∀ p o q, T.get p σ.h = some o → q ∈ o.kin → ∃ o', T.get q σ.h = some o'
  fin : ∀ p o q o' a b, T.get p σ.h = some o → o.wr = true → q ∈ o.kin → T.get q σ.h = some o' → o'.live = true → ι p = some a → ι q = some b → a.blk = b.blk → b.st + o'.len ≤ a.st + o.len

theorem Ob.wr_live {o : Ob} (h : o.wr = true) : o.live = true := by cases o <;> first | rfl | cases h
theorem Rep.sep {ι : Nm} {σ : St} {w : World} (R : Rep ι σ w) : ∀ p o q o' a b, T.get p σ.h = some o → o.wr = true → T.get q σ.h = some o' → o'.live = true → ι p = some a → ι q = some b → a.blk = b.blk → q ≠ p → q ∈ o.kin := by
  intro p o q o' a b hp hw hq hl ha hb hab hqp
  rcases R.sep2 p o q o' a b hp (Ob.wr_live hw) hq hl ha hb hab hqp with h | h | h
  · exact h
  · have := R.kin q o' p o hq h hp
    rw [hw] at this; cases this
  · rw [hw] at h; cases h.1

/-- the real blocks that may be written -/
def Img (ι : Nm) (σ : St) (r : Nat) : Prop := ∃ p o pl, T.get p σ.h = some o ∧ o.wr = true ∧ ι p = some pl ∧ pl.blk = r

/-- what has become of all else -/
structure G (N : Nat) (ι : Nm) (σ : St) (w : World) (ι' : Nm) (σ' : St) (w' : World) : Prop where
  ext : Ext ι ι'
  old : ∀ p : Pos, p.nat < N → ι' p = ι p
  nx : σ.nx.nat ≤ σ'.nx.nat
  size : w.heap.size ≤ w'.heap.size
  os : w'.os = w.os
  tape : w'.tape = w.tape
  out : w'.output = w.output
  keep : ∀ r, r < w.heap.size → ¬ Img ι σ r → w'.heap[r]? = w.heap[r]?
  img : ∀ r, r < w.heap.size → Img ι' σ' r → Img ι σ r
  new : ∀ q pl, ι' q = some pl → ι q = none → pl.blk < w.heap.size → Img ι σ pl.blk
theorem G.refl (N : Nat) (ι : Nm) (σ : St) (w : World) : G N ι σ w ι σ w := ⟨.refl ι, fun _ _ => rfl, Nat.le_refl _, Nat.le_refl _, rfl, rfl, rfl, fun _ _ _ => rfl, fun _ _ h => h, fun q pl h1 h2 => by rw [h2] at h1; cases h1⟩
theorem G.trans {N N' : Nat} {ι ι1 ι2 : Nm} {σ σ1 σ2 : St} {w w1 w2 : World} (h : G N ι σ w ι1 σ1 w1) (hN : N ≤ N') (k : G N' ι1 σ1 w1 ι2 σ2 w2) : G N ι σ w ι2 σ2 w2 where
  ext := h.ext.trans k.ext
  old p hp := (k.old p (Nat.lt_of_lt_of_le hp hN)).trans (h.old p hp)
  nx := Nat.le_trans h.nx k.nx
  size := Nat.le_trans h.size k.size
  os := k.os.trans h.os
  tape := k.tape.trans h.tape
  out := k.out.trans h.out
  keep r hr hi := (k.keep r (Nat.lt_of_lt_of_le hr h.size) (fun x => hi (h.img r hr x))).trans (h.keep r hr hi)
  img r hr x := h.img r hr (k.img r (Nat.lt_of_lt_of_le hr h.size) x)
  new q pl h1 h2 h3 := by
    cases hq : ι1 q with
    | none => exact h.img _ h3 (k.new q pl h1 hq (Nat.lt_of_lt_of_le h3 h.size))
    | some p1 =>
      have := k.ext q p1 hq
      rw [h1] at this; cases this
      exact h.new q pl hq h2 h3
theorem G.less {N N' : Nat} {ι ι1 : Nm} {σ σ1 : St} {w w1 : World} (h : G N' ι σ w ι1 σ1 w1) (hN : N ≤ N') : G N ι σ w ι1 σ1 w1 :=
  { h with old := fun p hp => h.old p (Nat.lt_of_lt_of_le hp hN) }

theorem PlOk.lt {w : World} {pl : Pl} (h : PlOk w pl) : pl.blk < w.heap.size := by
  obtain ⟨h0, h1, h2, h4, h3⟩ := h
  have : pl.kd = 0 ∨ pl.kd = 1 ∨ pl.kd = 2 ∨ pl.kd = 3 := by omega
  rcases this with e | e | e | e
  · obtain ⟨c, t, h, _⟩ := h0 e; exact (Array.getElem?_eq_some_iff.1 h).1
  · obtain ⟨c, t, h⟩ := h1 e; exact (Array.getElem?_eq_some_iff.1 h).1
  · obtain ⟨c, t, x, y, h⟩ := h2 e; exact (Array.getElem?_eq_some_iff.1 h).1
  · obtain ⟨c, t, h⟩ := h4 e; exact (Array.getElem?_eq_some_iff.1 h).1

/-! what becomes of it -/
noncomputable def kill (ps : List Pos) (h : T Ob) : T Ob := List.rec (motive := fun _ => T Ob) h (fun p _ ih => T.set .dead p ih) ps
theorem get_kill (ps : List Pos) (h : T Ob) (q : Pos) : T.get q (kill ps h) = if q ∈ ps then some .dead else T.get q h := by
  induction ps with
  | nil => simp; rfl
  | cons p l ih =>
    show T.get q (T.set .dead p (kill l h)) = _
    rw [T.get_set, ih]
    by_cases e : q = p
    · simp [e]
    · simp [e]

section
variable {ι : Nm} {σ : St} {w : World}
theorem PlOk.heap {w w' : World} (h : ∀ r, r < w.heap.size → ∀ o, w.heap[r]? = some o → w'.heap[r]? = some o) {pl : Pl} (k : PlOk w pl) : PlOk w' pl := by
  have hl := k.lt
  obtain ⟨h0, h1, h2, h4, h3⟩ := k
  refine ⟨fun e => ?_, fun e => ?_, fun e => ?_, fun e => ?_, h3⟩
  · obtain ⟨c, t, x, y⟩ := h0 e; exact ⟨c, t, h _ hl _ x, y⟩
  · obtain ⟨c, t, x⟩ := h1 e; exact ⟨c, t, h _ hl _ x⟩
  · obtain ⟨c, t, a, b, x⟩ := h2 e; exact ⟨c, t, a, b, h _ hl _ x⟩
  · obtain ⟨c, t, x⟩ := h4 e; exact ⟨c, t, h _ hl _ x⟩
/-- a block whose own real block did not turn -/
theorem ObR.keep {ι ι' : Nm} (hx : Ext ι ι') {w w' : World} {p : Pos} {o : Ob} (h : ObR ι w p o) (hk : ∀ pl, ι p = some pl → o.live = true → w'.heap[pl.blk]? = w.heap[pl.blk]?) : ObR ι' w' p o := by
  cases o with
  | cells l kin fz ro =>
    obtain ⟨pl, c, e, h1, h2, h3, h4, h5, h6⟩ := h
    exact ⟨pl, c, e, hx _ _ h1, h2, (hk pl h1 rfl).trans h3, h4, h5, fun i x y a b => (h6 i x y a b).mono hx⟩
  | map es ck ro =>
    obtain ⟨pl, es', h1, h2, h3, h4, h5, h6⟩ := h
    exact ⟨pl, es', hx _ _ h1, h2, (hk pl h1 rfl).trans h3, h4, (fun i x y a b => ⟨(h5 i x y a b).1.mono hx, (h5 i x y a b).2.1.mono hx, (h5 i x y a b).2.2⟩), h6⟩
  | mit m s n st =>
    obtain ⟨pl, m', h1, h2, h3, h4⟩ := h
    refine ⟨pl, m', hx _ _ h1, h2, (hk pl h1 rfl).trans h3, ?_⟩
    cases m with
    | none => exact h4
    | some q => obtain ⟨pq, a, b, c⟩ := h4; exact ⟨pq, hx _ _ a, b, c⟩
  | sit l n =>
    obtain ⟨pl, s, h1, h2, h3, h4⟩ := h
    exact ⟨pl, s, hx _ _ h1, h2, (hk pl h1 rfl).trans h3, h4⟩
  | dead => trivial
theorem ObR.place {w : World} {p : Pos} {o : Ob} (h : ObR ι w p o) (hl : o.live = true) : ∃ pl, ι p = some pl := by
  cases o with
  | cells l kin fz ro => obtain ⟨pl, c, e, h1, _⟩ := h; exact ⟨pl, h1⟩
  | map es ck ro => obtain ⟨pl, es', h1, _⟩ := h; exact ⟨pl, h1⟩
  | mit m s n st => obtain ⟨pl, m', h1, _⟩ := h; exact ⟨pl, h1⟩
  | sit l n => obtain ⟨pl, s, h1, _⟩ := h; exact ⟨pl, h1⟩
  | dead => cases hl

/-- the heap alone counts -/
theorem Rep.heap {w' : World} (R : Rep ι σ w) (h : w'.heap = w.heap) : Rep ι σ w' where
  ob p o hp := (R.ob p o hp).keep (.refl ι) (fun _ _ _ => by rw [h])
  pl p pl hp := (R.pl p pl hp).heap (fun r _ o k => by rw [h]; exact k)
  dom := R.dom
  hdom := R.hdom
  sep2 := R.sep2
  kin := R.kin
  kpres := R.kpres
  fin := R.fin
theorem G.drew (N : Nat) (ι : Nm) (σ : St) (w : World) : G N ι σ w ι σ w.drew := ⟨.refl ι, fun _ _ => rfl, Nat.le_refl _, Nat.le_refl _, rfl, rfl, rfl, fun _ _ _ => rfl, fun _ _ h => h, fun q pl h1 h2 => by rw [h2] at h1; cases h1⟩
theorem Rep.drew (R : Rep ι σ w) : Rep ι σ w.drew := R.heap rfl
theorem Rep.nx (R : Rep ι σ w) {n : Pos} (h : σ.nx.nat ≤ n.nat) : Rep ι { σ with nx := n } w where
  ob := R.ob
  pl := R.pl
  dom p pl hp := Nat.lt_of_lt_of_le (R.dom p pl hp) h
  hdom p o hp := Nat.lt_of_lt_of_le (R.hdom p o hp) h
  sep2 := R.sep2
  kin := R.kin
  kpres := R.kpres
  fin := R.fin

def nmSet (ι : Nm) (p : Pos) (pl : Pl) : Nm := fun q => if q = p then some pl else ι q
theorem nmSet_ext {p : Pos} {pl : Pl} (h : ι p = none) : Ext ι (nmSet ι p pl) := fun q x hq => by
  unfold nmSet
  split
  · rename_i e; subst e; rw [h] at hq; cases hq
  · exact hq
theorem nmSet_self (ι : Nm) (p : Pos) (pl : Pl) : nmSet ι p pl p = some pl := by simp [nmSet]

/-- a new block -/
theorem Rep.push (R : Rep ι σ w) {p nx : Pos} (hp : ι p = none) (hh : T.get p σ.h = none) (h1 : σ.nx.nat ≤ nx.nat) (h2 : p.nat < nx.nat) {ob : Ob} {ro : Obj} {sz kd : Nat} (hk : ∀ q ∈ ob.kin, ∃ o, T.get q σ.h = some o ∧ o.wr = false)
    (ho : ObR (nmSet ι p ⟨w.heap.size, 0, sz, kd⟩) (w.alloc ro) p ob) (hpl : PlOk (w.alloc ro) ⟨w.heap.size, 0, sz, kd⟩) {N : Nat} (hN : N ≤ p.nat) :
    Rep (nmSet ι p ⟨w.heap.size, 0, sz, kd⟩) ⟨T.set ob p σ.h, nx⟩ (w.alloc ro) ∧ G N ι σ w (nmSet ι p ⟨w.heap.size, 0, sz, kd⟩) ⟨T.set ob p σ.h, nx⟩ (w.alloc ro) := by
  have hx : Ext ι (nmSet ι p ⟨w.heap.size, 0, sz, kd⟩) := nmSet_ext hp
  have hold : ∀ r, r < w.heap.size → (w.alloc ro).heap[r]? = w.heap[r]? := fun r hr => by rw [heap_alloc_if, if_neg (by omega)]
  have hne : ∀ q o, T.get q σ.h = some o → q ≠ p := fun q o hq e => by rw [e, hh] at hq; cases hq
  have hι : ∀ q, q ≠ p → nmSet ι p ⟨w.heap.size, 0, sz, kd⟩ q = ι q := fun q hq => by simp [nmSet, hq]
  have hlt : ∀ q pl, ι q = some pl → pl.blk < w.heap.size := fun q pl hq => (R.pl q pl hq).lt
  constructor
  · constructor
    · intro q o hq
      rw [T.get_set] at hq
      split at hq
      · rename_i e; subst e; cases hq; exact ho
      · exact (R.ob q o hq).keep hx fun pl h3 _ => hold _ (hlt q pl h3)
    · intro q pl hq
      by_cases e : q = p
      · subst e; rw [nmSet_self] at hq; cases hq; exact hpl
      · rw [hι q e] at hq
        exact (R.pl q pl hq).heap fun r hr o k => (hold r hr).trans k
    · intro q pl hq
      by_cases e : q = p
      · subst e; exact h2
      · rw [hι q e] at hq; exact Nat.lt_of_lt_of_le (R.dom q pl hq) h1
    · intro q o hq
      rw [T.get_set] at hq
      split at hq
      · rename_i e; subst e; exact h2
      · exact Nat.lt_of_lt_of_le (R.hdom q o hq) h1
    · intro q o q' o' a b hq hw hq' hl ha hb hab hqq
      by_cases e : q = p
      · subst e
        rw [nmSet_self] at ha; cases ha
        rw [hι q' hqq] at hb
        have := hlt q' b hb
        simp only at hab
        omega
      · rw [hι q e] at ha
        by_cases e' : q' = p
        · subst e'
          rw [nmSet_self] at hb; cases hb
          have := hlt q a ha
          simp only at hab
          omega
        · rw [hι q' e'] at hb
          rw [T.get_set, if_neg e] at hq
          rw [T.get_set, if_neg e'] at hq'
          exact R.sep2 q o q' o' a b hq hw hq' hl ha hb hab hqq
    · intro q o q' o' hq hk' hq'
      rw [T.get_set] at hq
      split at hq
      · cases hq
        obtain ⟨o2, h3, h4⟩ := hk q' hk'
        rw [T.get_set, if_neg (hne q' o2 h3), h3] at hq'
        cases hq'; exact h4
      · rw [T.get_set] at hq'
        split at hq'
        · rename_i e1 e; subst e
          obtain ⟨o2, h3⟩ := R.kpres q o q' hq hk'
          rw [hh] at h3; cases h3
        · exact R.kin q o q' o' hq hk' hq'
    · intro q o q' hq hk'
      rw [T.get_set] at hq
      split at hq
      · cases hq
        obtain ⟨o2, h3, h4⟩ := hk q' hk'
        exact ⟨o2, by rw [T.get_set, if_neg (hne q' o2 h3)]; exact h3⟩
      · obtain ⟨o2, h3⟩ := R.kpres q o q' hq hk'
        exact ⟨o2, by rw [T.get_set, if_neg (hne q' o2 h3)]; exact h3⟩
    · intro q o q' o' a b hq hw hk' hq' hl ha hb hab
      rw [T.get_set] at hq
      split at hq
      · rename_i e; subst e
        cases hq
        obtain ⟨o2, h3, h4⟩ := hk q' hk'
        rw [nmSet_self] at ha; cases ha
        rw [hι q' (hne q' o2 h3)] at hb
        have := hlt q' b hb
        simp only at hab
        omega
      · rename_i e
        rw [hι q e] at ha
        rw [T.get_set] at hq'
        split at hq'
        · rename_i e'; subst e'
          rw [nmSet_self] at hb; cases hb
          have := hlt q a ha
          simp only at hab
          omega
        · rename_i e'
          rw [hι q' e'] at hb
          exact R.fin q o q' o' a b hq hw hk' hq' hl ha hb hab
  · refine ⟨hx, fun q hq => hι q (fun e => by subst e; omega), h1, by rw [World.size_alloc]; omega, rfl, rfl, rfl, fun r hr _ => hold r hr, ?_, fun q pl h3 h4 h5 => by
      by_cases e : q = p
      · subst e; rw [nmSet_self] at h3; cases h3; simp only at h5; omega
      · rw [hι q e, h4] at h3; cases h3⟩
    rintro r hr ⟨q, o, pl, hq, hw, hpl', rfl⟩
    by_cases e : q = p
    · subst e; rw [nmSet_self] at hpl'; cases hpl'; simp only at hr; omega
    · rw [T.get_set, if_neg e] at hq
      rw [hι q e] at hpl'
      exact ⟨q, o, pl, hq, hw, hpl', rfl⟩

/-- cells are written -/
theorem Rep.store (R : Rep ι σ w) {p : Pos} {l : List V} {kin : List Pos} (hp : T.get p σ.h = some (.cells l kin false false)) {pl : Pl} (hpl : ι p = some pl) {l' : List V} {f : Array Value → Array Value}
    (hl : l'.length ≤ l.length) (hf : ∀ c : Array Value, c.size = pl.sz → (f c).size = c.size)
    (hv : ∀ (c : Array Value), c.size = pl.sz → pl.st + l.length ≤ c.size → (∀ (i : Nat) x y, l[i]? = some x → c[pl.st + i]? = some y → VR ι x y) → ∀ (i : Nat) x y, l'[i]? = some x → (f c)[pl.st + i]? = some y → VR ι x y) {N : Nat} :
    Rep ι ⟨T.set (.cells l' [] false false) p (kill kin σ.h), σ.nx⟩ (upd w pl.blk f) ∧ G N ι σ w ι ⟨T.set (.cells l' [] false false) p (kill kin σ.h), σ.nx⟩ (upd w pl.blk f) := by
  have hpk : p ∉ kin := fun hk => by have := R.kin p _ p _ hp hk hp; cases this
  have hnew : ∀ q o, T.get q (T.set (Ob.cells l' [] false false) p (kill kin σ.h)) = some o → q ≠ p → o.live = true → T.get q σ.h = some o ∧ q ∉ kin := fun q o hq hne hlive => by
    rw [T.get_set, if_neg hne, get_kill] at hq
    split at hq
    · cases hq; cases hlive
    · rename_i h; exact ⟨hq, h⟩
  have hbk : ∀ q o pq, T.get q σ.h = some o → o.live = true → q ≠ p → q ∉ kin → ι q = some pq → pl.blk ≠ pq.blk := fun q o pq hq hlive hne hk hpq e =>
    hk (R.sep p _ q o pl pq hp rfl hq hlive hpl hpq e hne)
  obtain ⟨pl0, c, e, g1, g2, g3, g4, g5, g6⟩ := R.ob p _ hp
  rw [hpl] at g1; cases g1
  have hu : (upd w pl.blk f).heap[pl.blk]? = some (.cells (f c) e) := heap_upd_same g3 f
  constructor
  · constructor
    · intro q o hq
      by_cases hqp : q = p
      · subst hqp
        rw [T.get_set, if_pos rfl] at hq; cases hq
        exact ⟨pl, f c, e, hpl, g2, hu, (hf c g4).trans g4, by rw [hf c g4]; omega, hv c g4 g5 g6⟩
      · cases hlive : o.live with
        | false => cases o <;> first | trivial | cases hlive
        | true =>
          obtain ⟨h1, h2⟩ := hnew q o hq hqp hlive
          refine (R.ob q o h1).keep (.refl ι) fun pq hpq _ => ?_
          exact heap_upd_other w (hbk q o pq h1 hlive hqp h2 hpq) f
    · intro q pq hq
      obtain ⟨k0, k1, k2, k4, k3⟩ := R.pl q pq hq
      by_cases hb : pl.blk = pq.blk
      · refine ⟨fun h0 => ?_, fun h0 => ?_, fun h0 => ?_, fun h0 => ?_, k3⟩
        · obtain ⟨c', e', j1, j2⟩ := k0 h0
          rw [← hb, g3] at j1; cases j1
          rw [← hb]
          exact ⟨_, _, hu, (hf c g4).trans j2⟩
        · obtain ⟨c', e', j1⟩ := k1 h0
          rw [← hb, g3] at j1; cases j1
        · obtain ⟨c', e', x, y, j1⟩ := k2 h0
          rw [← hb, g3] at j1; cases j1
        · obtain ⟨c', e', j1⟩ := k4 h0
          rw [← hb, g3] at j1; cases j1
      · rw [PlOk, heap_upd_other w hb f]
        exact ⟨k0, k1, k2, k4, k3⟩
    · exact R.dom
    · intro q o hq
      rw [T.get_set] at hq
      split at hq
      · rename_i h; subst h; exact R.hdom q _ hp
      · rw [get_kill] at hq
        split at hq
        · rename_i h
          obtain ⟨o2, h3⟩ := R.kpres p _ q hp h
          exact R.hdom q o2 h3
        · exact R.hdom q o hq
    · intro q o q' o' a b hq hw2 hq' hlv ha hb hab hqq
      by_cases e1 : q = p
      · subst e1
        obtain ⟨j1, j2⟩ := hnew q' o' hq' hqq hlv
        rw [hpl] at ha; cases ha
        exact absurd hab (hbk q' o' b j1 hlv hqq j2 hb)
      · obtain ⟨j1, j2⟩ := hnew q o hq e1 hw2
        by_cases e2 : q' = p
        · subst e2
          rw [hpl] at hb; cases hb
          exact absurd hab.symm (hbk q o a j1 hw2 e1 j2 ha)
        · obtain ⟨j3, j4⟩ := hnew q' o' hq' e2 hlv
          exact R.sep2 q o q' o' a b j1 hw2 j3 hlv ha hb hab hqq
    · intro q o q' o' hq hk' hq'
      by_cases e1 : q = p
      · subst e1
        rw [T.get_set, if_pos rfl] at hq; cases hq; cases hk'
      · rw [T.get_set, if_neg e1, get_kill] at hq
        split at hq
        · cases hq; cases hk'
        · by_cases e2 : q' = p
          · subst e2
            have := R.kin q o q' _ hq hk' hp
            cases this
          · rw [T.get_set, if_neg e2, get_kill] at hq'
            split at hq'
            · cases hq'; rfl
            · exact R.kin q o q' o' hq hk' hq'
    · intro q o q' hq hk'
      by_cases e1 : q = p
      · subst e1
        rw [T.get_set, if_pos rfl] at hq; cases hq; cases hk'
      · rw [T.get_set, if_neg e1, get_kill] at hq
        split at hq
        · cases hq; cases hk'
        · rw [T.get_set, get_kill]
          split
          · exact ⟨_, rfl⟩
          · split
            · exact ⟨_, rfl⟩
            · exact R.kpres q o q' hq hk'
    · intro q o q' o' a b hq hw hk' hq' hlv ha hb hab
      have hw2 : o.live = true := Ob.wr_live hw
      by_cases e1 : q = p
      · subst e1
        rw [T.get_set, if_pos rfl] at hq; cases hq; cases hk'
      · obtain ⟨j1, j2⟩ := hnew q o hq e1 hw2
        by_cases e2 : q' = p
        · subst e2
          have := R.kin q o q' _ j1 hk' hp
          cases this
        · obtain ⟨j3, j4⟩ := hnew q' o' hq' e2 hlv
          exact R.fin q o q' o' a b j1 hw hk' j3 hlv ha hb hab
  · refine ⟨.refl ι, fun _ _ => rfl, Nat.le_refl _, by rw [size_upd]; exact Nat.le_refl _, rfl, rfl, rfl, fun r hr hi => ?_, ?_, fun q pl h1 h2 => by rw [h2] at h1; cases h1⟩
    · refine heap_upd_other w (fun h => hi ⟨p, _, pl, hp, rfl, hpl, h⟩) f
    · rintro r hr ⟨q, o, pq, hq, hw, hpq, rfl⟩
      by_cases e1 : q = p
      · subst e1
        rw [hpl] at hpq; cases hpq
        exact ⟨q, _, pl, hp, rfl, hpl, rfl⟩
      · obtain ⟨j1, j2⟩ := hnew q o hq e1 (Ob.wr_live hw)
        exact ⟨q, o, pq, j1, hw, hpq, rfl⟩

theorem upd_id (w : World) (b : Nat) : upd w b id = w := by
  have e1 : w.heap.modify b (oupd id) = w.heap := by
    apply Array.ext
    · simp
    · intro k h1 h2
      simp only [Array.getElem_modify]
      split
      · cases w.heap[k] <;> rfl
      · rfl
  simp only [upd, e1]

/-- less is known of a block, and it is not written any more -/
theorem Rep.weaken (R : Rep ι σ w) {p : Pos} {o ob : Ob} (hp : T.get p σ.h = some o) (hw : ob.wr = false) (hl : ob.live = true → o.live = true) (hk : ob.kin = o.kin) (hn : ob.len ≤ o.len) (ho : ObR ι w p ob) :
    Rep ι ⟨T.set ob p σ.h, σ.nx⟩ w where
  ob q x hq := by
    rw [T.get_set] at hq
    split at hq
    · rename_i e; subst e; cases hq; exact ho
    · exact R.ob q x hq
  pl := R.pl
  dom := R.dom
  hdom q x hq := by
    rw [T.get_set] at hq
    split at hq
    · rename_i e; subst e; exact R.hdom q o hp
    · exact R.hdom q x hq
  sep2 q x q' x' a b hq hw' hq' hl' ha hb hab hqq := by
    rw [T.get_set] at hq
    split at hq
    · rename_i e; subst e; cases hq
      rw [T.get_set, if_neg hqq] at hq'
      rw [hk]
      exact (R.sep2 q o q' x' a b hp (hl hw') hq' hl' ha hb hab hqq).imp id (Or.imp id (fun h => ⟨hw, h.2.1, by have := h.2.2; omega⟩))
    · rw [T.get_set] at hq'
      split at hq'
      · rename_i e; subst e; cases hq'
        rw [hk]
        exact (R.sep2 q x q' o a b hq hw' hp (hl hl') ha hb hab hqq).imp id (Or.imp id (fun h => ⟨h.1, hw, by have := h.2.2; omega⟩))
      · exact R.sep2 q x q' x' a b hq hw' hq' hl' ha hb hab hqq
  kin q x q' x' hq hk' hq' := by
    rw [T.get_set] at hq'
    split at hq'
    · cases hq'; exact hw
    · rw [T.get_set] at hq
      split at hq
      · rename_i e; subst e; cases hq
        rw [hk] at hk'
        exact R.kin q o q' x' hp hk' hq'
      · exact R.kin q x q' x' hq hk' hq'
  kpres q x q' hq hk' := by
    rw [T.get_set]
    split
    · exact ⟨_, rfl⟩
    · rw [T.get_set] at hq
      split at hq
      · rename_i e; subst e; cases hq
        rw [hk] at hk'
        exact R.kpres q o q' hp hk'
      · exact R.kpres q x q' hq hk'
  fin q x q' x' a b hq hw' hk' hq' hl' ha hb hab := by
    rw [T.get_set] at hq
    split at hq
    · cases hq; rw [hw] at hw'; cases hw'
    · rw [T.get_set] at hq'
      split at hq'
      · rename_i e; subst e; cases hq'
        have := R.fin q x q' o a b hq hw' hk' hp (hl hl') ha hb hab
        omega
      · exact R.fin q x q' x' a b hq hw' hk' hq' hl' ha hb hab

/-- appended in place: behind the last cell that is known -/
theorem Rep.appendIn (R : Rep ι σ w) {p : Pos} {l : List V} {kin : List Pos} (hp : T.get p σ.h = some (.cells l kin false false)) {pl : Pl} (hpl : ι p = some pl) {o : Nat} (hol : o ≤ l.length) {vs : List V} {cs : List Value}
    (hvs : VRs ι vs cs) (hroom : pl.st + l.length + vs.length ≤ pl.sz) {p' : Pos} (hi : ι p' = none) (hh : T.get p' σ.h = none) {nx : Pos} (h1 : σ.nx.nat ≤ nx.nat) (h2 : p'.nat < nx.nat) {N : Nat} (hN : N ≤ p'.nat) :
    Rep (nmSet ι p' ⟨pl.blk, pl.st + o, pl.sz, 0⟩) ⟨T.set (.cells (l.drop o ++ vs) (p :: kin) false false) p' (T.set (.cells l kin true false) p σ.h), nx⟩ (upd w pl.blk fun c => splice c (pl.st + l.length) cs.toArray) ∧
    G N ι σ w (nmSet ι p' ⟨pl.blk, pl.st + o, pl.sz, 0⟩) ⟨T.set (.cells (l.drop o ++ vs) (p :: kin) false false) p' (T.set (.cells l kin true false) p σ.h), nx⟩ (upd w pl.blk fun c => splice c (pl.st + l.length) cs.toArray) := by
  have hx : Ext ι (nmSet ι p' ⟨pl.blk, pl.st + o, pl.sz, 0⟩) := nmSet_ext hi
  have hι : ∀ q, q ≠ p' → nmSet ι p' ⟨pl.blk, pl.st + o, pl.sz, 0⟩ q = ι q := fun q hq => by simp [nmSet, hq]
  have hne : ∀ q x, T.get q σ.h = some x → q ≠ p' := fun q x hq e => by rw [e, hh] at hq; cases hq
  have hpp : p ≠ p' := hne p _ hp
  obtain ⟨pl0, c, e, g1, g2, g3, g4, g5, g6⟩ := R.ob p _ hp
  rw [hpl] at g1; cases g1
  have hcs : cs.length = vs.length := hvs.1.symm
  have hsz : (splice c (pl.st + l.length) cs.toArray).size = c.size := splice_size _ _ _ (by simp; omega)
  have hu : (upd w pl.blk fun c => splice c (pl.st + l.length) cs.toArray).heap[pl.blk]? = some (.cells (splice c (pl.st + l.length) cs.toArray) e) := heap_upd_same g3 _
  have hlow : ∀ i, i < pl.st + l.length → (splice c (pl.st + l.length) cs.toArray)[i]? = c[i]? := fun i hi => by
    rw [splice_get _ _ _ (by simp; omega), if_neg (by omega)]
  -- what is live and lies in the same block
  have hsame : ∀ q x pq, T.get q σ.h = some x → x.live = true → q ≠ p → ι q = some pq → pl.blk = pq.blk → q ∈ kin ∧ pq.st + x.len ≤ pl.st + l.length := fun q x pq hq hlv hqp hpq hb => by
    have hk := R.sep p _ q x pl pq hp rfl hq hlv hpl hpq hb hqp
    exact ⟨hk, R.fin p _ q x pl pq hp rfl hk hq hlv hpl hpq hb⟩
  have hobj : ∀ q x, T.get q σ.h = some x → ∀ x', (x'.live = true → x.live = true) → (x' = x ∨ (∃ l2 k2 f r l3 k3 f3 r3, x' = .cells l2 k2 f r ∧ x = .cells l3 k3 f3 r3 ∧ l2 = l3)) → ObR (nmSet ι p' ⟨pl.blk, pl.st + o, pl.sz, 0⟩) (upd w pl.blk fun c => splice c (pl.st + l.length) cs.toArray) q x' := by
    intro q x hq x' hlv hxx
    have h0 : ObR (nmSet ι p' ⟨pl.blk, pl.st + o, pl.sz, 0⟩) (upd w pl.blk fun c => splice c (pl.st + l.length) cs.toArray) q x := by
      by_cases hb : ∃ pq, ι q = some pq ∧ pq.blk = pl.blk ∧ x.live = true
      · obtain ⟨pq, hpq, hbb, hlive⟩ := hb
        have hend : pq.st + x.len ≤ pl.st + l.length := by
          by_cases hqp : q = p
          · subst hqp
            rw [hpl] at hpq; cases hpq
            rw [hp] at hq; cases hq
            exact Nat.le_refl _
          · exact (hsame q x pq hq hlive hqp hpq hbb.symm).2
        have hO := R.ob q x hq
        cases x with
        | cells l3 k3 f3 r3 =>
          obtain ⟨pl3, c3, e3, j1, j2, j3, j4, j5, j6⟩ := hO
          rw [hpq] at j1; cases j1
          rw [hbb, g3] at j3; cases j3
          refine ⟨pq, _, e, hx _ _ hpq, j2, by rw [hbb]; exact hu, hsz.trans j4, by rw [hsz]; exact j5, fun i x y hix hiy => ?_⟩
          have hil : i < l3.length := (List.getElem?_eq_some_iff.1 hix).1
          simp only [Ob.len] at hend
          rw [hlow _ (by omega)] at hiy
          exact (j6 i x y hix hiy).mono hx
        | map es ck ro =>
          obtain ⟨pl3, es3, j1, j2, j3, _⟩ := hO
          rw [hpq] at j1; cases j1
          rw [hbb, g3] at j3; cases j3
        | mit m s n st =>
          obtain ⟨pl3, es3, j1, j2, j3, _⟩ := hO
          rw [hpq] at j1; cases j1
          rw [hbb, g3] at j3; cases j3
        | sit m s =>
          obtain ⟨pl3, es3, j1, j2, j3, _⟩ := hO
          rw [hpq] at j1; cases j1
          rw [hbb, g3] at j3; cases j3
        | dead => cases hlive
      · refine (R.ob q x hq).keep hx fun pq hpq hlive => ?_
        exact heap_upd_other w (fun e => hb ⟨pq, hpq, e.symm, hlive⟩) _
    rcases hxx with rfl | ⟨l2, k2, f, r, l3, k3, f3, r3, rfl, rfl, rfl⟩
    · exact h0
    · exact h0
  constructor
  · constructor
    · intro q x hq
      rw [T.get_set] at hq
      split at hq
      · rename_i e1; subst e1; cases hq
        refine ⟨_, _, e, nmSet_self _ _ _, rfl, hu, hsz.trans g4, ?_, ?_⟩
        · simp only [List.length_append, List.length_drop]; rw [hsz]; omega
        · intro i x y hix hiy
          simp only at hiy
          by_cases hi2 : i < l.length - o
          · rw [List.getElem?_append_left (by simpa using hi2), List.getElem?_drop] at hix
            rw [hlow _ (by omega), Nat.add_assoc] at hiy
            exact (g6 _ x y hix hiy).mono hx
          · rw [List.getElem?_append_right (by simpa using hi2), List.length_drop] at hix
            have hiv : i - (l.length - o) < vs.length := (List.getElem?_eq_some_iff.1 hix).1
            rw [splice_get _ _ _ (by simp; omega), if_pos (by simp; omega)] at hiy
            have e2 : pl.st + o + i - (pl.st + l.length) = i - (l.length - o) := by omega
            rw [e2] at hiy
            exact (hvs.2 _ x y hix (by simpa using hiy)).mono hx
      · rw [T.get_set] at hq
        split at hq
        · rename_i e1; subst e1; cases hq
          exact hobj q _ hp _ (fun _ => rfl) (Or.inr ⟨_, _, _, _, _, _, _, _, rfl, rfl, rfl⟩)
        · exact hobj q x hq x id (Or.inl rfl)
    · intro q pq hq
      by_cases e1 : q = p'
      · subst e1; rw [nmSet_self] at hq; cases hq
        exact ⟨fun _ => ⟨_, _, hu, hsz.trans g4⟩, (fun h => by cases h), (fun h => by cases h), (fun h => by cases h), Nat.zero_le _⟩
      · rw [hι q e1] at hq
        obtain ⟨k0, k1, k2, k4, k3⟩ := R.pl q pq hq
        by_cases hb : pl.blk = pq.blk
        · refine ⟨fun h0 => ?_, fun h0 => ?_, fun h0 => ?_, fun h0 => ?_, k3⟩
          · obtain ⟨c', e', j1, j2⟩ := k0 h0
            rw [← hb, g3] at j1; cases j1
            rw [← hb]
            exact ⟨_, _, hu, hsz.trans j2⟩
          · obtain ⟨c', e', j1⟩ := k1 h0
            rw [← hb, g3] at j1; cases j1
          · obtain ⟨c', e', x, y, j1⟩ := k2 h0
            rw [← hb, g3] at j1; cases j1
          · obtain ⟨c', e', j1⟩ := k4 h0
            rw [← hb, g3] at j1; cases j1
        · rw [PlOk, heap_upd_other w hb _]
          exact ⟨k0, k1, k2, k4, k3⟩
    · intro q pq hq
      by_cases e1 : q = p'
      · subst e1; exact h2
      · rw [hι q e1] at hq; exact Nat.lt_of_lt_of_le (R.dom q pq hq) h1
    · intro q x hq
      rw [T.get_set] at hq
      split at hq
      · rename_i e1; subst e1; exact h2
      · rw [T.get_set] at hq
        split at hq
        · rename_i e1; subst e1; exact Nat.lt_of_lt_of_le (R.hdom q _ hp) h1
        · exact Nat.lt_of_lt_of_le (R.hdom q x hq) h1
    · have hone : ∀ q' x' b, T.get q' (T.set (Ob.cells l kin true false) p σ.h) = some x' → x'.live = true → ι q' = some b → pl.blk = b.blk → q' ∈ p :: kin := by
        intro q' x' b hq' hlv hb hab
        rw [T.get_set] at hq'
        split at hq'
        · rename_i e2; subst e2; simp
        · rename_i e2
          have := (hsame q' x' b hq' hlv e2 hb hab).1
          simp [this]
      intro q x q' x' a b hq hw hq' hlv ha hb hab hqq
      by_cases e1 : q = p'
      · subst e1
        rw [T.get_set, if_pos rfl] at hq; cases hq
        rw [nmSet_self] at ha; cases ha
        rw [hι q' hqq] at hb
        rw [T.get_set, if_neg hqq] at hq'
        exact Or.inl (hone q' x' b hq' hlv hb hab)
      · rw [hι q e1] at ha
        rw [T.get_set, if_neg e1] at hq
        by_cases e3 : q' = p'
        · subst e3
          rw [T.get_set, if_pos rfl] at hq'; cases hq'
          rw [nmSet_self] at hb; cases hb
          exact Or.inr (Or.inl (hone q x a hq hw ha hab.symm))
        · rw [hι q' e3] at hb
          rw [T.get_set, if_neg e3] at hq'
          rw [T.get_set] at hq hq'
          have hold : ∀ z zo, (if z = p then some (Ob.cells l kin true false) else T.get z σ.h) = some zo → zo.live = true → ∃ zo', T.get z σ.h = some zo' ∧ zo'.live = true ∧ zo'.kin = zo.kin ∧ (zo'.wr = false → zo.wr = false) ∧ zo.len = zo'.len := by
            intro z zo hz hzl
            split at hz
            · rename_i e4; subst e4; cases hz
              exact ⟨_, hp, rfl, rfl, fun _ => rfl, rfl⟩
            · exact ⟨zo, hz, hzl, rfl, id, rfl⟩
          obtain ⟨x1, j1, j2, j3, y1, y2⟩ := hold q x hq hw
          obtain ⟨x2, j4, j5, j6, y3, y4⟩ := hold q' x' hq' hlv
          rw [← j3, ← j6, y2, y4]
          exact (R.sep2 q x1 q' x2 a b j1 j2 j4 j5 ha hb hab hqq).imp id (Or.imp id (fun h => ⟨y1 h.1, y3 h.2.1, h.2.2⟩))
    · intro q x q' x' hq hk' hq'
      rw [T.get_set] at hq
      split at hq
      · rename_i e1; subst e1; cases hq
        simp only [Ob.kin, List.mem_cons] at hk'
        rcases hk' with rfl | hk'
        · rw [T.get_set, if_neg hpp, T.get_set, if_pos rfl] at hq'; cases hq'; rfl
        · obtain ⟨o2, h3⟩ := R.kpres p _ q' hp hk'
          rw [T.get_set, if_neg (hne q' o2 h3), T.get_set] at hq'
          split at hq'
          · cases hq'; rfl
          · exact R.kin p _ q' x' hp hk' hq'
      · rw [T.get_set] at hq
        have hk2 : ∃ x2, T.get q σ.h = some x2 ∧ q' ∈ x2.kin := by
          split at hq
          · rename_i e2; subst e2; cases hq; exact ⟨_, hp, hk'⟩
          · exact ⟨x, hq, hk'⟩
        obtain ⟨x2, h3, h4⟩ := hk2
        obtain ⟨o2, h5⟩ := R.kpres q x2 q' h3 h4
        rw [T.get_set, if_neg (hne q' o2 h5), T.get_set] at hq'
        split at hq'
        · cases hq'; rfl
        · exact R.kin q x2 q' x' h3 h4 hq'
    · intro q x q' hq hk'
      have hk2 : q' = p ∨ ∃ x2 q2, T.get q2 σ.h = some x2 ∧ q' ∈ x2.kin := by
        rw [T.get_set] at hq
        split at hq
        · cases hq
          simp only [Ob.kin, List.mem_cons] at hk'
          rcases hk' with rfl | hk'
          · exact Or.inl rfl
          · exact Or.inr ⟨_, p, hp, hk'⟩
        · rw [T.get_set] at hq
          split at hq
          · cases hq; exact Or.inr ⟨_, p, hp, hk'⟩
          · exact Or.inr ⟨x, q, hq, hk'⟩
      rw [T.get_set]
      split
      · exact ⟨_, rfl⟩
      · rw [T.get_set]
        split
        · exact ⟨_, rfl⟩
        · rename_i e1 e2
          rcases hk2 with h | ⟨x2, q2, h3, h4⟩
          · exact absurd h e2
          · exact R.kpres q2 x2 q' h3 h4
    · intro q x q' x' a b hq hw hk' hq' hlv ha hb hab
      rw [T.get_set] at hq
      split at hq
      · rename_i e1; subst e1; cases hq
        rw [nmSet_self] at ha; cases ha
        simp only [Ob.len, List.length_append, List.length_drop]
        simp only [Ob.kin, List.mem_cons] at hk'
        rcases hk' with rfl | hk'
        · rw [T.get_set, if_neg hpp, T.get_set, if_pos rfl] at hq'; cases hq'
          rw [hι _ hpp, hpl] at hb; cases hb
          simp only [Ob.len]; omega
        · obtain ⟨o2, h3⟩ := R.kpres p _ q' hp hk'
          have hq3 := hne q' o2 h3
          rw [hι _ hq3] at hb
          rw [T.get_set, if_neg hq3, T.get_set] at hq'
          split at hq'
          · rename_i e2; subst e2; cases hq'
            rw [hpl] at hb; cases hb
            simp only [Ob.len]; omega
          · rename_i e2
            have := (hsame q' x' b hq' hlv e2 hb hab).2
            show b.st + x'.len ≤ pl.st + o + (l.length - o + vs.length)
            omega
      · rename_i e1
        rw [hι q e1] at ha
        rw [T.get_set] at hq
        split at hq
        · cases hq; cases hw
        · rename_i e2
          obtain ⟨o2, h3⟩ := R.kpres q x q' hq hk'
          have hq3 := hne q' o2 h3
          rw [hι _ hq3] at hb
          rw [T.get_set, if_neg hq3, T.get_set] at hq'
          split at hq'
          · rename_i e4; subst e4; cases hq'
            exact (R.fin q x q' (.cells l kin false false) a b hq hw hk' hp rfl ha hb hab : _)
          · exact R.fin q x q' x' a b hq hw hk' hq' hlv ha hb hab
  · refine ⟨hx, fun q hq => hι q (fun e => by subst e; omega), h1, by rw [size_upd]; exact Nat.le_refl _, rfl, rfl, rfl, fun r hr hi2 => ?_, ?_, fun q pq h3 h4 h5 => by
      by_cases e : q = p'
      · subst e; rw [nmSet_self] at h3; cases h3; exact ⟨p, _, pl, hp, rfl, hpl, rfl⟩
      · rw [hι q e, h4] at h3; cases h3⟩
    · exact heap_upd_other w (fun h => hi2 ⟨p, _, pl, hp, rfl, hpl, h⟩) _
    · rintro r hr ⟨q, x, pq, hq, hw, hpq, rfl⟩
      rw [T.get_set] at hq
      split at hq
      · rename_i e1; subst e1
        rw [nmSet_self] at hpq; cases hpq
        exact ⟨p, _, pl, hp, rfl, hpl, rfl⟩
      · rename_i e1
        rw [hι q e1] at hpq
        rw [T.get_set] at hq
        split at hq
        · rename_i e2; subst e2
          exact ⟨q, _, pq, hp, rfl, hpq, rfl⟩
        · exact ⟨q, x, pq, hq, hw, hpq, rfl⟩

/-- a block that is no row of cells is laid anew -/
theorem Rep.setOb (R : Rep ι σ w) {p : Pos} {o ob : Ob} (hp : T.get p σ.h = some o) (hw : o.wr = true) (hk : o.kin = []) (hl : ob.live = true) (hk' : ob.kin = []) {pl : Pl} (hpl : ι p = some pl) {ro : Obj}
    (ho : ObR ι { w with heap := w.heap.setIfInBounds pl.blk ro } p ob) (hkind : ∀ pq : Pl, pq.blk = pl.blk → PlOk w pq → PlOk { w with heap := w.heap.setIfInBounds pl.blk ro } pq) {N : Nat} :
    Rep ι ⟨T.set ob p σ.h, σ.nx⟩ { w with heap := w.heap.setIfInBounds pl.blk ro } ∧ G N ι σ w ι ⟨T.set ob p σ.h, σ.nx⟩ { w with heap := w.heap.setIfInBounds pl.blk ro } := by
  have hoth : ∀ r, r ≠ pl.blk → ({ w with heap := w.heap.setIfInBounds pl.blk ro } : World).heap[r]? = w.heap[r]? := fun r hr => by
    simp only [Array.getElem?_setIfInBounds]
    rw [if_neg (fun e => hr e.symm)]
  have hfar : ∀ q x pq, T.get q σ.h = some x → x.live = true → q ≠ p → ι q = some pq → pl.blk ≠ pq.blk := fun q x pq hq hlv hqp hpq e => by
    have := R.sep p o q x pl pq hp hw hq hlv hpl hpq e hqp
    rw [hk] at this; cases this
  constructor
  · constructor
    · intro q x hq
      rw [T.get_set] at hq
      split at hq
      · rename_i e; subst e; cases hq; exact ho
      · rename_i e
        refine (R.ob q x hq).keep (.refl ι) fun pq hpq hlv => hoth _ (hfar q x pq hq hlv e hpq).symm
    · intro q pq hq
      by_cases e : pq.blk = pl.blk
      · exact hkind pq e (R.pl q pq hq)
      · have := R.pl q pq hq
        rw [PlOk, hoth _ e]
        exact this
    · exact R.dom
    · intro q x hq
      rw [T.get_set] at hq
      split at hq
      · rename_i e; subst e; exact R.hdom q o hp
      · exact R.hdom q x hq
    · intro q x q' x' a b hq hw' hq' hlv ha hb hab hqq
      rw [T.get_set] at hq
      split at hq
      · rename_i e; subst e; cases hq
        rw [hpl] at ha; cases ha
        rw [T.get_set, if_neg hqq] at hq'
        exact absurd hab (hfar q' x' b hq' hlv hqq hb)
      · rename_i e
        rw [T.get_set] at hq'
        split at hq'
        · rename_i e2; subst e2
          rw [hpl] at hb; cases hb
          exact absurd hab.symm (hfar q x a hq hw' e ha)
        · exact R.sep2 q x q' x' a b hq hw' hq' hlv ha hb hab hqq
    · intro q x q' x' hq hkk hq'
      rw [T.get_set] at hq
      split at hq
      · cases hq; rw [hk'] at hkk; cases hkk
      · rw [T.get_set] at hq'
        split at hq'
        · rename_i e2; subst e2
          have := R.kin q x q' o hq hkk hp
          rw [hw] at this; cases this
        · exact R.kin q x q' x' hq hkk hq'
    · intro q x q' hq hkk
      rw [T.get_set]
      split
      · exact ⟨_, rfl⟩
      · rw [T.get_set] at hq
        split at hq
        · cases hq; rw [hk'] at hkk; cases hkk
        · exact R.kpres q x q' hq hkk
    · intro q x q' x' a b hq hw' hkk hq' hlv ha hb hab
      rw [T.get_set] at hq
      split at hq
      · cases hq; rw [hk'] at hkk; cases hkk
      · rw [T.get_set] at hq'
        split at hq'
        · rename_i e2; subst e2
          have := R.kin q x q' o hq hkk hp
          rw [hw] at this; cases this
        · exact R.fin q x q' x' a b hq hw' hkk hq' hlv ha hb hab
  · refine ⟨.refl ι, fun _ _ => rfl, Nat.le_refl _, by simp, rfl, rfl, rfl, fun r hr hi => ?_, ?_, fun q pl h1 h2 => by rw [h2] at h1; cases h1⟩
    · exact hoth r (fun e => hi ⟨p, o, pl, hp, hw, hpl, e.symm⟩)
    · rintro r hr ⟨q, x, pq, hq, hw', hpq, rfl⟩
      by_cases e : q = p
      · subst e
        exact ⟨q, o, pq, hp, hw, hpq, rfl⟩
      · rw [T.get_set, if_neg e] at hq
        exact ⟨q, x, pq, hq, hw', hpq, rfl⟩

/-- a block that nobody knows yet is made: it gets its name, but nothing is said of it -/
theorem Rep.name (R : Rep ι σ w) {p : Pos} (hp : ι p = none) (h2 : p.nat < σ.nx.nat) (c : Array Value) (e : TypeId) {N : Nat} (hN : N ≤ p.nat) :
    Rep (nmSet ι p ⟨w.heap.size, 0, c.size, 0⟩) σ (w.alloc (.cells c e)) ∧ G N ι σ w (nmSet ι p ⟨w.heap.size, 0, c.size, 0⟩) σ (w.alloc (.cells c e)) := by
  have hx : Ext ι (nmSet ι p ⟨w.heap.size, 0, c.size, 0⟩) := nmSet_ext hp
  have hold : ∀ r, r < w.heap.size → (w.alloc (.cells c e)).heap[r]? = w.heap[r]? := fun r hr => by rw [heap_alloc_if, if_neg (by omega)]
  have hι : ∀ q, q ≠ p → nmSet ι p ⟨w.heap.size, 0, c.size, 0⟩ q = ι q := fun q hq => by simp [nmSet, hq]
  have hlt : ∀ q pl, ι q = some pl → pl.blk < w.heap.size := fun q pl hq => (R.pl q pl hq).lt
  have hlive : ∀ q o, T.get q σ.h = some o → o.live = true → q ≠ p := fun q o hq hl e => by
    subst e
    obtain ⟨pl, h⟩ := (R.ob q o hq).place hl
    rw [hp] at h; cases h
  constructor
  · constructor
    · intro q o hq
      exact (R.ob q o hq).keep hx fun pl h3 _ => hold _ (hlt q pl h3)
    · intro q pl hq
      by_cases e1 : q = p
      · subst e1; rw [nmSet_self] at hq; cases hq
        refine ⟨fun _ => ⟨c, e, ?_, rfl⟩, (fun h => by cases h), (fun h => by cases h), (fun h => by cases h), Nat.zero_le _⟩
        rw [heap_alloc_if, if_pos rfl]
      · rw [hι q e1] at hq
        exact (R.pl q pl hq).heap fun r hr o k => (hold r hr).trans k
    · intro q pl hq
      by_cases e1 : q = p
      · subst e1; exact h2
      · rw [hι q e1] at hq; exact R.dom q pl hq
    · exact R.hdom
    · intro q o q' o' a b hq hw hq' hl ha hb hab hqq
      rw [hι q (hlive q o hq hw)] at ha
      rw [hι q' (hlive q' o' hq' hl)] at hb
      exact R.sep2 q o q' o' a b hq hw hq' hl ha hb hab hqq
    · exact R.kin
    · exact R.kpres
    · intro q o q' o' a b hq hw hk hq' hl ha hb hab
      rw [hι q (hlive q o hq (Ob.wr_live hw))] at ha
      rw [hι q' (hlive q' o' hq' hl)] at hb
      exact R.fin q o q' o' a b hq hw hk hq' hl ha hb hab
  · refine ⟨hx, fun q hq => hι q (fun e => by subst e; omega), Nat.le_refl _, by rw [World.size_alloc]; omega, rfl, rfl, rfl, fun r hr _ => hold r hr, ?_, fun q pl h3 h4 h5 => by
      by_cases e1 : q = p
      · subst e1; rw [nmSet_self] at h3; cases h3; simp only at h5; omega
      · rw [hι q e1, h4] at h3; cases h3⟩
    rintro r hr ⟨q, o, pl, hq, hw, hpl', rfl⟩
    rw [hι q (hlive q o hq (Ob.wr_live hw))] at hpl'
    exact ⟨q, o, pl, hq, hw, hpl', rfl⟩
/-- .. and now it is known what it holds -/
theorem Rep.adopt (R : Rep ι σ w) {p : Pos} {pl : Pl} (hp : ι p = some pl) (hh : T.get p σ.h = none) (halone : ∀ q pq, ι q = some pq → pq.blk = pl.blk → q = p) {l : List V}
    (ho : ObR ι w p (.cells l [] false false)) : Rep ι ⟨T.set (.cells l [] false false) p σ.h, σ.nx⟩ w where
  ob q o hq := by
    rw [T.get_set] at hq
    split at hq
    · rename_i e; subst e; cases hq; exact ho
    · exact R.ob q o hq
  pl := R.pl
  dom := R.dom
  hdom q o hq := by
    rw [T.get_set] at hq
    split at hq
    · rename_i e; subst e; exact R.dom q pl hp
    · exact R.hdom q o hq
  sep2 q o q' o' a b hq hw hq' hl ha hb hab hqq := by
    rw [T.get_set] at hq hq'
    split at hq
    · rename_i e; subst e
      rw [hp] at ha; cases ha
      exact absurd (halone q' b hb hab.symm) hqq
    · split at hq'
      · rename_i e; subst e
        rw [hp] at hb; cases hb
        exact absurd (halone q a ha hab).symm hqq
      · exact R.sep2 q o q' o' a b hq hw hq' hl ha hb hab hqq
  kin q o q' o' hq hk hq' := by
    rw [T.get_set] at hq
    split at hq
    · cases hq; cases hk
    · rw [T.get_set] at hq'
      split at hq'
      · rename_i e; subst e
        obtain ⟨o2, h3⟩ := R.kpres q o q' hq hk
        rw [hh] at h3; cases h3
      · exact R.kin q o q' o' hq hk hq'
  kpres q o q' hq hk := by
    rw [T.get_set] at hq
    split at hq
    · cases hq; cases hk
    · rw [T.get_set]
      split
      · exact ⟨_, rfl⟩
      · exact R.kpres q o q' hq hk
  fin q o q' o' a b hq hw hk hq' hl ha hb hab := by
    rw [T.get_set] at hq
    split at hq
    · cases hq; cases hk
    · rw [T.get_set] at hq'
      split at hq'
      · rename_i e; subst e
        obtain ⟨o2, h3⟩ := R.kpres q o q' hq hk
        rw [hh] at h3; cases h3
      · exact R.fin q o q' o' a b hq hw hk hq' hl ha hb hab
end
end Go.Proofs.YtknhohgnilamcaaGreatDoor
