/-
  The operations that write or make memory, on the abstract machine. (Of no program.)
-/
import Derived.Test.YtknhohgnilamcaaGreatDoorEngK
import Derived.Deep.AppendSrc
import Derived.Laws.Append
import Derived.MapKept
namespace Go.Proofs.YtknhohgnilamcaaGreatDoor
set_option linter.unusedVariables false
set_option linter.unusedSimpArgs false
set_option linter.unusedSectionVars false
open Go

/-- operations that write or make memory -/
inductive EOp where
  | st (a x : Arg) (n : Nat)
  | alo (z : List V)
  | box (a : Arg) (n : Nat)
  | bsl (z : List V) (ps : List (Nat × Nat × Arg)) (len esz : Nat)
  | mkm (ks : KSh)
  | mks (len cap : Arg) (z : List V) (esz bts : Nat)
  | app (s x : Arg) (esz bts : Nat) (str : Bool)
  | cpy (d s : Arg) (esz : Nat)
  | mup (m k v : Arg) (ks : KSh)
  | mdl (m k : Arg) (ks : KSh)
  | men (m k : Arg) (ks : KSh) (z : V)
  | mes (m s v : Arg)

def plainV (v : V) : Bool := match v with | .u => false | .agg _ => false | .tup _ => false | _ => true
noncomputable def lput (l : List V) (o : Nat) (vs : List V) : List V := match vs with | [] => l | v :: r => (match r with | [] => lset v l o | _ :: _ => lsplice l o vs)
/-- a new block's name: reserved, or the next one -/
def nameOf (σ : St) (nm : Option Pos) : Pos := match nm with | none => σ.nx | some p => p
noncomputable def nextOf (σ : St) (nm : Option Pos) : Pos := match nm with | none => σ.nx.succ | some _ => σ.nx
noncomputable def newB (σ : St) (nm : Option Pos) (ob : Ob) : St := ⟨T.set ob (nameOf σ nm) σ.h, nextOf σ nm⟩
noncomputable def lrep (z : List V) (n : Nat) : List V := Nat.rec (motive := fun _ => List V) [] (fun _ ih => lapp z ih) n
noncomputable def mset (k v : V) (es : List ME) : List ME := List.rec (motive := fun _ => List ME) [] (fun e es ih => match keyEq k e.k with | true => ⟨e.k, v, e.b⟩ :: es | false => e :: ih) es
noncomputable def mrem (k : V) (es : List ME) : List ME := List.rec (motive := fun _ => List ME) [] (fun e es ih => match keyEq k e.k with | true => es | false => e :: ih) es
noncomputable def bset (b : Nat) (v : V) (es : List ME) : Option (List ME) := List.rec (motive := fun _ => Option (List ME)) none (fun e es ih => match Nat.beq e.b b with | true => some (⟨e.k, v, e.b⟩ :: es) | false => (match ih with | some r => some (e :: r) | none => none)) es
/-- cells of a slice that are known -/
noncomputable def sliceCells (σ : St) (v : V) (esz : Nat) : Option (List V) := match v with
  | .nils => some []
  | .slice p o len _ es => (match Nat.beq es esz with
    | true => (match len with
      | 0 => some []
      | _ + 1 => (match T.get p σ.h with
        | some (.cells l _ _ _) => (match Nat.ble (Nat.add o (Nat.mul len esz)) (llen l) with | true => some (ltake (ldrop l o) (Nat.mul len esz)) | false => none)
        | _ => none))
    | false => none)
  | _ => none
/-- what is appended -/
noncomputable def srcCells (σ : St) (v : V) (esz : Nat) (str : Bool) : Option (Nat × List V) := match str with
  | false => (match sliceCells σ v esz with
    | none => none
    | some l => (match v with | .slice _ _ len _ _ => some (len, l) | _ => some (0, l)))
  | true => (match v with | .str l => (match esz with | 1 => some (llen l, lmap (fun b => V.int .u8 (.ofNat b)) l) | _ => none) | _ => none)

noncomputable def eev (e : EOp) (nm : Option Pos) (A : T V) (σ : St) : Option (V × St) := match e with
  | .st a x n => (match ev A a with
    | .ptr p o => (match flat (ev A x) with
      | some vs => (match lall plainV vs && Nat.beq (llen vs) n with
        | true => (match T.get p σ.h with
          | some (.cells l kin fz ro) => (match !fz && !ro && Nat.ble (Nat.add o n) (llen l) with
            | true => some (.u, ⟨T.set (.cells (lput l o vs) [] false false) p (kill kin σ.h), σ.nx⟩)
            | false => none)
          | _ => none)
        | false => none)
      | none => none)
    | _ => none)
  | .alo z => some (.ptr (nameOf σ nm) 0, newB σ nm (.cells z [] false false))
  | .box a n => (match flat (ev A a) with
    | some l => (match Nat.beq (llen l) n with | true => some (.ptr (nameOf σ nm) 0, newB σ nm (.cells l [] false false)) | false => none)
    | none => none)
  | .bsl z ps len esz => (match bldF A ps z with
    | some l => some (.slice (nameOf σ nm) 0 len (some len) esz, newB σ nm (.cells l [] false false))
    | none => none)
  | .mkm ks => some (.map σ.nx, ⟨T.set (.map [] 0 ks) σ.nx σ.h, σ.nx.succ⟩)
  | .mks len cap z esz bts => (match ev A len with
    | .int _ l => (match ev A cap with
      | .int _ c => (match natOf l with
        | some l => (match natOf c with
          | some c => (match Nat.ble l c && Nat.ble (Nat.mul c (Nat.add bts 1)) 1099511627776 with
            | true => some (.slice σ.nx 0 l (some c) esz, ⟨T.set (.cells (lrep z c) [] false false) σ.nx σ.h, σ.nx.succ⟩)
            | false => none)
          | none => none)
        | none => none)
      | _ => none)
    | _ => none)
  | .app s x esz bts str => (match srcCells σ (ev A x) esz str with
    | some (n, news) => (match n with
      | 0 => (match ev A s with | .nils => some (.nils, σ) | .slice p o len cap es => (match Nat.beq es esz with | true => some (.slice p o len cap es, σ) | false => none) | _ => none)
      | _ + 1 => (match lall plainV news with
        | true => (match ev A s with
          | .nils => (match Nat.ble (Nat.mul n (Nat.add bts 1)) 1099511627776 with
            | true => some (.slice σ.nx 0 n none esz, ⟨T.set (.cells news [] false false) σ.nx σ.h, σ.nx.succ⟩)
            | false => none)
          | .slice p o len cap es => (match Nat.beq es esz && Nat.ble (Nat.mul (Nat.add len n) (Nat.add bts 1)) 1099511627776 with
            | true => (match cap with
              | some c => (match Nat.ble (Nat.add len n) c with
                | true => (match T.get p σ.h with
                  | some (.cells l kin fz ro) => (match !fz && !ro && Nat.ble (Nat.add o (Nat.mul (Nat.add len n) esz)) (llen l) with
                    | true => some (.slice p o (Nat.add len n) (some c) esz, ⟨T.set (.cells (lput l (Nat.add o (Nat.mul len esz)) news) [] false false) p (kill kin σ.h), σ.nx⟩)
                    | false => none)
                  | _ => none)
                | false => (match sliceCells σ (.slice p o len (some c) esz) esz with
                  | some olds => some (.slice σ.nx 0 (Nat.add len n) none esz, ⟨T.set (.cells (lapp olds news) [] false false) σ.nx σ.h, σ.nx.succ⟩)
                  | none => none))
              | none => (match T.get p σ.h with
                | some (.cells l kin fz ro) => (match !fz && !ro && Nat.ble (Nat.add o (Nat.mul len esz)) (llen l) with
                  | true => (match Nat.beq (Nat.add o (Nat.mul len esz)) (llen l) with
                    | true => some (.slice σ.nx 0 (Nat.add len n) none esz, ⟨T.set (.cells (lapp (ldrop l o) news) (p :: kin) false false) σ.nx (T.set (.cells l kin true false) p σ.h), σ.nx.succ⟩)
                    | false => some (.slice σ.nx 0 (Nat.add len n) none esz, ⟨T.set (.cells (lapp (ldrop (ltake l (Nat.add o (Nat.mul len esz))) o) news) [p] false false) σ.nx (T.set (.cells (ltake l (Nat.add o (Nat.mul len esz))) [] true false) p (kill kin σ.h)), σ.nx.succ⟩))
                  | false => none)
                | _ => none))
            | false => none)
          | _ => none)
        | false => none))
    | none => none)
  | .cpy d s esz => (match sliceCells σ (ev A s) esz with
    | some src => (match ev A d with
      | .slice p o len cap es => (match Nat.beq es esz with
        | true => (match ltake src (Nat.mul len esz) with
          | [] => (match mkLen 0 with | some v => some (v, σ) | none => none)
          | x :: r => (match lall plainV (x :: r) with
            | true => (match T.get p σ.h with
              | some (.cells l kin fz ro) => (match !fz && !ro && Nat.ble (Nat.add o (llen (x :: r))) (llen l) with
                | true => (match ev A s with
                  | .slice _ _ len2 _ _ => (match mkLen (Nat.min len2 len) with
                    | some v => some (v, ⟨T.set (.cells (lput l o (x :: r)) [] false false) p (kill kin σ.h), σ.nx⟩)
                    | none => none)
                  | _ => none)
                | false => none)
              | _ => none)
            | false => none))
        | false => none)
      | _ => none)
    | none => none)
  | .mup m k v ks => (match keyShaped ks (ev A k) with
    | true => (match ev A m with
      | .map p => (match T.get p σ.h with
        | some (.map es ck ks') => (match decide (ks' = ks) with
          | true => (match mfind (ev A k) es with
            | some _ => some (.u, ⟨T.set (.map (mset (ev A k) (ev A v) es) ck ks) p σ.h, σ.nx⟩)
            | none => some (.u, ⟨T.set (.map (lapp es [⟨ev A k, ev A v, ck⟩]) (Nat.add ck 1) ks) p σ.h, σ.nx⟩))
          | false => none)
        | _ => none)
      | _ => none)
    | false => none)
  | .mdl m k ks => (match keyShaped ks (ev A k) with
    | true => (match ev A m with
      | .nilm => some (.tup [], σ)
      | .map p => (match T.get p σ.h with
        | some (.map es ck ks') => (match decide (ks' = ks) with
          | true => some (.tup [], ⟨T.set (.map (mrem (ev A k) es) ck ks) p σ.h, σ.nx⟩)
          | false => none)
        | _ => none)
      | _ => none)
    | false => none)
  | .men m k ks z => (match keyShaped ks (ev A k) with
    | true => (match ev A m with
      | .map p => (match T.get p σ.h with
        | some (.map es ck ks') => (match decide (ks' = ks) with
          | true => (match Nat.ble ck 1152921504606846976 with
            | true => (match mfind (ev A k) es with
              | some e => (match Nat.ble e.b 1152921504606846976 with | true => some (.tup [e.v, .int .i64 (.ofNat e.b)], σ) | false => none)
              | none => some (.tup [z, .int .i64 (.ofNat ck)], ⟨T.set (.map (lapp es [⟨ev A k, z, ck⟩]) (Nat.add ck 1) ks) p σ.h, σ.nx⟩))
            | false => none)
          | false => none)
        | _ => none)
      | _ => none)
    | false => none)
  | .mes m s v => (match ev A m with
    | .map p => (match T.get p σ.h with
      | some (.map es ck ks) => (match ev A s with
        | .int _ b => (match natOf b with
          | some b => (match bset b (ev A v) es with
            | some es' => some (.u, ⟨T.set (.map es' ck ks) p σ.h, σ.nx⟩)
            | none => none)
          | none => none)
        | _ => none)
      | _ => none)
    | _ => none)

/-- which operation it is -/
def bytesB (P : Program) (t bts : Nat) : Bool := match P.info? t with | some i => i.bytes == bts | none => false
def zsizeB (P : Program) (t n : Nat) : Bool := match P.info? t with | some i => (match i.zero with | some v => v.cells.size == n | none => false) | none => false
def zrepB (P : Program) (e n : Nat) (z : List V) : Bool := match P.info? e with
  | some i => (match i.zero with | some v => cstsB z ((Array.range n).map (v.cells[· % v.cells.size]!)).toList | none => false)
  | none => false
def elemB (P : Program) (t esz bts : Nat) : Bool := match P.underlying t with | some (.slice e) => szB P e esz && bytesB P e bts && decide (0 < esz) && zsizeB P e esz | _ => false
def srcB (P : Program) (tx : Nat) (str : Bool) (esz : Nat) : Bool := match P.underlying tx with | some (.slice _) => !str | some .string => str && esz == 1 | _ => false
def okE {P : Program} (E : Env P) (e : EOp) (op : Op) : Bool := match e with
  | .st a x n => (match op with | .store t a' x' => okA E.ng a a' && okA E.ng x x' && szB P t n | _ => false)
  | .alo z => (match op with | .alloc t => zeroB P t z | _ => false)
  | .box a n => (match op with | .box t x => okA E.ng a x | _ => false)
  | .bsl z ps len esz => (match op with
    | .buildSlice t n parts => n == len && decide (len * esz ≤ 2 ^ 24) && (decide (0 < len * esz) || parts.toList.isEmpty) && len * esz == z.length &&
      (match P.underlying t with | some (.slice e) => szB P e esz && zrepB P e (len * esz) z && bslB P E.ng e esz ps parts.toList | _ => false)
    | _ => false)
  | .mkm ks => (match op with | .makeMap t r => (match r with | none => true | some (.const (.int _ _)) => true | _ => false) && (match P.underlying t with | some (.map k _) => E.mk_.contains (k, ks) | _ => false) | _ => false)
  | .mks len cap z esz bts => (match op with | .makeSlice t l c => okA E.ng len l && okA E.ng cap c && (match P.underlying t with | some (.slice e) => szB P e esz && bytesB P e bts && zeroB P e z && z.length == esz && decide (0 < esz) | _ => false) | _ => false)
  | .app s x esz bts str => (match op with
    | .call ⟨.builtin .append, args, ats⟩ => (match args.toList, ats.toList with
      | [s', x'], [t, tx] => okA E.ng s s' && okA E.ng x x' && elemB P t esz bts &&
        srcB P tx str esz
      | _, _ => false)
    | _ => false)
  | .cpy d s esz => (match op with
    | .call ⟨.builtin .copy, args, ats⟩ => (match args.toList, ats.toList with
      | [d', s'], (t :: _) => okA E.ng d d' && okA E.ng s s' && (match P.underlying t with | some (.slice e) => szB P e esz && decide (0 < esz) | _ => false)
      | _, _ => false)
    | _ => false)
  | .mup m k v ks => (match op with
    | .mapUpdate t m' k' v' => okA E.ng m m' && okA E.ng k k' && okA E.ng v v' && (match P.underlying t with | some (.map kt _) => E.mk_.contains (kt, ks) | _ => false)
    | .insert t m' k' v' => okA E.ng m m' && okA E.ng k k' && okA E.ng v v' && (match P.underlying t with | some (.map kt _) => E.mk_.contains (kt, ks) | _ => false)
    | _ => false)
  | .mdl m k ks => (match op with
    | .call ⟨.builtin .delete, args, ats⟩ => (match args.toList, ats.toList with
      | [m', k'], (t :: _) => okA E.ng m m' && okA E.ng k k' && (match P.underlying t with | some (.map kt _) => E.mk_.contains (kt, ks) | _ => false)
      | _, _ => false)
    | _ => false)
  | .men m k ks z => (match op with | .mapEntry t m' k' => okA E.ng m m' && okA E.ng k k' && (match P.underlying t with | some (.map kt et) => E.mk_.contains (kt, ks) && zeroV P et z | _ => false) | _ => false)
  | .mes m s v => (match op with | .entryStore t m' s' v' => okA E.ng m m' && okA E.ng s s' && okA E.ng v v' | _ => false)
  where
  bslB (P : Program) (ng : GS) (e esz : Nat) : List (Nat × Nat × Arg) → List (Nat × Operand) → Bool
    | [], [] => true
    | p :: l, (i, o) :: m => p.1 == i * esz && p.2.1 == esz && okA ng p.2.2 o && bslB P ng e esz l m
    | _, _ => false
end Go.Proofs.YtknhohgnilamcaaGreatDoor
