/-
  The operations, each by a definition of its own: the kernel then opens little. (Of no program.)
-/
import Derived.Test.YtknhohgnilamcaaGreatDoorEngN
namespace Go.Proofs.YtknhohgnilamcaaGreatDoor
set_option linter.unusedVariables false
set_option linter.unusedSimpArgs false
set_option linter.unusedSectionVars false
open Go

noncomputable def qevF_mv (a : Arg) (pt : List Nat) (A : T V) (σ : St) : Option V := some (ev A a)
noncomputable def qevF_pick (c : Arg) (a : Arg) (b : Arg) (pt : List Nat) (A : T V) (σ : St) : Option V := (match ev A c with | .bool t => some (match t with | true => ev A a | false => ev A b) | _ => none)
noncomputable def qevF_bld (z : List V) (ps : List (Nat × Nat × Arg)) (pt : List Nat) (A : T V) (σ : St) : Option V := (match bldF A ps z with | some l => some (.agg l) | none => none)
noncomputable def qevF_fadr (a : Arg) (off : Nat) (pt : List Nat) (A : T V) (σ : St) : Option V := (match ev A a with | .ptr p o => some (.ptr p (Nat.add o off)) | _ => none)
noncomputable def qevF_fld (a : Arg) (off : Nat) (n : Nat) (ag : Bool) (pt : List Nat) (A : T V) (σ : St) : Option V := (match ev A a with | .agg l => partA l off n ag | _ => none)
noncomputable def qevF_iadr (a : Arg) (i : Arg) (esz : Nat) (pt : List Nat) (A : T V) (σ : St) : Option V := (match ev A a with
    | .slice p o len _ _ => (match ev A i with | .int _ i => (match natOf i with | some n => (match Nat.blt n len with | true => some (.ptr p (Nat.add o (Nat.mul n esz))) | false => none) | none => none) | _ => none)
    | _ => none)
noncomputable def qevF_iada (a : Arg) (i : Arg) (esz : Nat) (n : Nat) (pt : List Nat) (A : T V) (σ : St) : Option V := (match ev A a with
    | .ptr p o => (match ev A i with | .int _ i => (match natOf i with | some j => (match Nat.blt j n with | true => some (.ptr p (Nat.add o (Nat.mul j esz))) | false => none) | none => none) | _ => none)
    | _ => none)
noncomputable def qevF_idxa (a : Arg) (i : Arg) (esz : Nat) (n : Nat) (ag : Bool) (pt : List Nat) (A : T V) (σ : St) : Option V := (match ev A a with
    | .agg l => (match ev A i with | .int _ i => (match natOf i with | some j => (match Nat.blt j n with | true => partA l (Nat.mul j esz) esz ag | false => none) | none => none) | _ => none)
    | _ => none)
noncomputable def qevF_idxs (a : Arg) (i : Arg) (pt : List Nat) (A : T V) (σ : St) : Option V := (match ev A a with
    | .str l => (match ev A i with | .int _ i => (match natOf i with | some j => (match lget l j with | some b => some (.int .u8 (.ofNat b)) | none => none) | none => none) | _ => none)
    | _ => none)
noncomputable def qevF_nck (a : Arg) (pt : List Nat) (A : T V) (σ : St) : Option V := (match ev A a with
    | .ptr p o => some (.ptr p o)
    | .iface t v => some (.iface t v)
    | .fn f x y => some (.fn f x y)
    | _ => none)
noncomputable def qevF_bin (op : BinOp) (a : Arg) (c : Arg) (pt : List Nat) (A : T V) (σ : St) : Option V := (match ev A a with | .int k x => (match ev A c with | .int k' y => (match beqK k k' with | true => ibin op k x y | false => none) | _ => none) | _ => none)
noncomputable def qevF_shf (left : Bool) (a : Arg) (c : Arg) (pt : List Nat) (A : T V) (σ : St) : Option V := (match ev A a with
    | .int k x => (match ev A c with
      | .int _ y => (match natOf y with
        | some n => (match Nat.ble n 64 with
          | true => some (.int k (wrapK k (match left with | true => Int.mul x (.ofNat (Nat.pow 2 (Nat.min n k.bits))) | false => Int.fdiv x (.ofNat (Nat.pow 2 (Nat.min n k.bits))))))
          | false => none)
        | none => none)
      | _ => none)
    | _ => none)
noncomputable def qevF_cmpb (ne : Bool) (a : Arg) (c : Arg) (pt : List Nat) (A : T V) (σ : St) : Option V := (match ev A a with | .bool x => (match ev A c with | .bool y => some (.bool (xorB ne (!(xorB x y)))) | _ => none) | _ => none)
noncomputable def qevF_cmps (op : BinOp) (a : Arg) (c : Arg) (pt : List Nat) (A : T V) (σ : St) : Option V := (match ev A a with
    | .str x => (match ev A c with
      | .str y => (match op with
        | .add => (match Nat.ble (Nat.add (llen x) (llen y)) 1000000 with | true => some (.str (lapp x y)) | false => none)
        | .eql => some (.bool (nateq x y))
        | .neq => some (.bool (!(nateq x y)))
        | _ => none)
      | _ => none)
    | _ => none)
noncomputable def qevF_eqp (kd : NK) (ne : Bool) (a : Arg) (c : Arg) (pt : List Nat) (A : T V) (σ : St) : Option V := (match eqpV σ pt kd (ev A a) (ev A c) with | some b => some (.bool (xorB ne b)) | none => none)
noncomputable def qevF_eqa (ne : Bool) (sh : List IntKind) (a : Arg) (c : Arg) (pt : List Nat) (A : T V) (σ : St) : Option V := (match ev A a with
    | .agg l => (match ev A c with
      | .agg m => (match shaped sh l with | true => (match shaped sh m with | true => some (.bool (xorB ne (inteq l m))) | false => none) | false => none)
      | _ => none)
    | _ => none)
noncomputable def qevF_not (a : Arg) (pt : List Nat) (A : T V) (σ : St) : Option V := (match ev A a with | .bool b => some (.bool (!b)) | _ => none)
noncomputable def qevF_neg (a : Arg) (pt : List Nat) (A : T V) (σ : St) : Option V := (match ev A a with | .int k n => some (.int k (wrapK k (Int.sub (.ofNat 0) n))) | _ => none)
noncomputable def qevF_inv (a : Arg) (pt : List Nat) (A : T V) (σ : St) : Option V := (match ev A a with
    | .int k n => (match k.signed with | false => some (.int k (wrapK k (.ofNat (Nat.xor (Nat.sub (modK k) 1) (toU (modK k) n))))) | true => none)
    | _ => none)
noncomputable def qevF_cvi (k : IntKind) (a : Arg) (pt : List Nat) (A : T V) (σ : St) : Option V := (match ev A a with | .int _ n => some (.int k (wrapK k n)) | _ => none)
noncomputable def qevF_cvid (a : Arg) (pt : List Nat) (A : T V) (σ : St) : Option V := (match ev A a with | .str l => some (.str l) | _ => none)
noncomputable def qevF_mki (t : Nat) (a : Arg) (pt : List Nat) (A : T V) (σ : St) : Option V := some (.iface t (ev A a))
noncomputable def qevF_mkf (f : Nat) (xs : List Arg) (ys : List Arg) (pt : List Nat) (A : T V) (σ : St) : Option V := some (.fn f (lmap (ev A) xs) (lmap (ev A) ys))
noncomputable def qevF_tas (a : Arg) (t : Nat) (z : V) (ok : Bool) (pt : List Nat) (A : T V) (σ : St) : Option V := (match ev A a with
    | .iface u v => (match Nat.beq u t with
      | true => some (match ok with | true => .tup [v, .bool true] | false => v)
      | false => (match ok with | true => some (.tup [z, .bool false]) | false => none))
    | .nili => (match ok with | true => some (.tup [z, .bool false]) | false => none)
    | _ => none)
noncomputable def qevF_tai (a : Arg) (ts : List Nat) (ok : Bool) (pt : List Nat) (A : T V) (σ : St) : Option V := (match ev A a with
    | .iface u v => (match lall (fun z => !(Nat.beq z u)) ts with
      | false => some (match ok with | true => .tup [.iface u v, .bool true] | false => .iface u v)
      | true => none)
    | .nili => (match ok with | true => some (.tup [.nili, .bool false]) | false => none)
    | _ => none)
noncomputable def qevF_ext (a : Arg) (i : Nat) (pt : List Nat) (A : T V) (σ : St) : Option V := (match ev A a with | .tup l => lget l i | _ => none)
noncomputable def qevF_lenv (a : Arg) (pt : List Nat) (A : T V) (σ : St) : Option V := (match ev A a with | .slice _ _ len _ _ => mkLen len | .nils => mkLen 0 | _ => none)
noncomputable def qevF_lens (a : Arg) (pt : List Nat) (A : T V) (σ : St) : Option V := (match ev A a with | .str l => mkLen (llen l) | _ => none)
noncomputable def qevF_lenc (n : Nat) (pt : List Nat) (A : T V) (σ : St) : Option V := mkLen n
noncomputable def qevF_slc (a : Arg) (lo : Option Arg) (hi : Option Arg) (esz : Nat) (pt : List Nat) (A : T V) (σ : St) : Option V := (match ev A a with
    | .slice p o len cap es => (match Nat.beq es esz with
      | true => (match optN A hi len with
        | some h => (match optN A lo 0 with
          | some l => (match Nat.ble l h && Nat.ble h len with
            | true => some (.slice p (Nat.add o (Nat.mul l esz)) (Nat.sub h l) (match cap with | some c => some (Nat.sub c l) | none => none) esz)
            | false => none)
          | none => none)
        | none => none)
      | false => none)
    | .nils => (match optN A hi 0 with
      | some h => (match optN A lo 0 with | some l => (match Nat.beq h 0 && Nat.beq l 0 with | true => some .nils | false => none) | none => none)
      | none => none)
    | _ => none)
noncomputable def qevF_slca (a : Arg) (lo : Option Arg) (hi : Option Arg) (esz : Nat) (n : Nat) (pt : List Nat) (A : T V) (σ : St) : Option V := (match ev A a with
    | .ptr p o => (match T.get p σ.h with
      | some (.cells ls _ _ _) => (match Nat.ble (Nat.add o (Nat.mul n esz)) (llen ls) with
        | true => (match optN A hi n with
          | some h => (match optN A lo 0 with
            | some l => (match Nat.ble l h && Nat.ble h n with
              | true => some (.slice p (Nat.add o (Nat.mul l esz)) (Nat.sub h l) (some (Nat.sub n l)) esz)
              | false => none)
            | none => none)
          | none => none)
        | false => none)
      | _ => none)
    | _ => none)
noncomputable def qevF_slcs (a : Arg) (lo : Option Arg) (hi : Option Arg) (pt : List Nat) (A : T V) (σ : St) : Option V := (match ev A a with
    | .str s => (match optN A hi (llen s) with
      | some h => (match optN A lo 0 with
        | some l => (match Nat.ble l h && Nat.ble h (llen s) with | true => some (.str (ltake (ldrop s l) (Nat.sub h l))) | false => none)
        | none => none)
      | none => none)
    | _ => none)
noncomputable def qevF_mnx (mx : Bool) (a : Arg) (c : Arg) (pt : List Nat) (A : T V) (σ : St) : Option V := (match ev A a with
    | .int k x => (match ev A c with
      | .int k' y => (match beqK k k' with
        | true => some (.int k (match mx with | true => (match ilt x y with | true => y | false => x) | false => (match ilt y x with | true => y | false => x)))
        | false => none)
      | _ => none)
    | _ => none)
noncomputable def qevF_ld1 (a : Arg) (pt : List Nat) (A : T V) (σ : St) : Option V := (match ev A a with | .ptr p o => (match T.get p σ.h with | some (.cells l _ _ _) => lget l o | _ => none) | _ => none)
noncomputable def qevF_ldn (a : Arg) (n : Nat) (pt : List Nat) (A : T V) (σ : St) : Option V := (match ev A a with | .ptr p o => (match T.get p σ.h with | some (.cells l _ _ _) => (match Nat.ble (Nat.add o n) (llen l) with | true => some (.agg (ltake (ldrop l o) n)) | false => none) | _ => none) | _ => none)
noncomputable def qevF_lkp (m : Arg) (k : Arg) (ks : KSh) (z : V) (ok : Bool) (pt : List Nat) (A : T V) (σ : St) : Option V := (match keyShaped ks (ev A k) with
    | true => (match ev A m with
      | .nilm => some (match ok with | true => .tup [z, .bool false] | false => z)
      | .map p => (match T.get p σ.h with
        | some (.map es _ ks') => (match decide (ks' = ks) with
          | true => some (match mfind (ev A k) es with
            | some e => (match ok with | true => .tup [e.v, .bool true] | false => e.v)
            | none => (match ok with | true => .tup [z, .bool false] | false => z))
          | false => none)
        | _ => none)
      | _ => none)
    | false => none)
noncomputable def qevF_lenm (m : Arg) (pt : List Nat) (A : T V) (σ : St) : Option V := (match ev A m with
    | .nilm => mkLen 0
    | .map p => (match T.get p σ.h with | some (.map es _ _) => mkLen (llen es) | _ => none)
    | _ => none)
noncomputable def qevF_wts (g : Arg) (pt : List Nat) (A : T V) (σ : St) : Option V := (match ev A g with | .ptr p o => (match T.get p σ.h with | some (.cells _ _ _ _) => some (.bool false) | _ => none) | _ => none)
noncomputable def qevF (pt : List Nat) (o : QOp) (A : T V) (σ : St) : Option V := match o with
  | .mv a => qevF_mv a pt A σ
  | .pick c a b => qevF_pick c a b pt A σ
  | .bld z ps => qevF_bld z ps pt A σ
  | .fadr a off => qevF_fadr a off pt A σ
  | .fld a off n ag => qevF_fld a off n ag pt A σ
  | .iadr a i esz => qevF_iadr a i esz pt A σ
  | .iada a i esz n => qevF_iada a i esz n pt A σ
  | .idxa a i esz n ag => qevF_idxa a i esz n ag pt A σ
  | .idxs a i => qevF_idxs a i pt A σ
  | .nck a => qevF_nck a pt A σ
  | .bin op a c => qevF_bin op a c pt A σ
  | .shf left a c => qevF_shf left a c pt A σ
  | .cmpb ne a c => qevF_cmpb ne a c pt A σ
  | .cmps op a c => qevF_cmps op a c pt A σ
  | .eqp kd ne a c => qevF_eqp kd ne a c pt A σ
  | .eqa ne sh a c => qevF_eqa ne sh a c pt A σ
  | .not a => qevF_not a pt A σ
  | .neg a => qevF_neg a pt A σ
  | .inv a => qevF_inv a pt A σ
  | .cvi k a => qevF_cvi k a pt A σ
  | .cvid a => qevF_cvid a pt A σ
  | .mki t a => qevF_mki t a pt A σ
  | .mkf f xs ys => qevF_mkf f xs ys pt A σ
  | .tas a t z ok => qevF_tas a t z ok pt A σ
  | .tai a ts ok => qevF_tai a ts ok pt A σ
  | .ext a i => qevF_ext a i pt A σ
  | .lenv a => qevF_lenv a pt A σ
  | .lens a => qevF_lens a pt A σ
  | .lenc n => qevF_lenc n pt A σ
  | .slc a lo hi esz => qevF_slc a lo hi esz pt A σ
  | .slca a lo hi esz n => qevF_slca a lo hi esz n pt A σ
  | .slcs a lo hi => qevF_slcs a lo hi pt A σ
  | .mnx mx a c => qevF_mnx mx a c pt A σ
  | .ld1 a => qevF_ld1 a pt A σ
  | .ldn a n => qevF_ldn a n pt A σ
  | .lkp m k ks z ok => qevF_lkp m k ks z ok pt A σ
  | .lenm m => qevF_lenm m pt A σ
  | .wts g => qevF_wts g pt A σ
theorem qevF_eq : qevF = qev := by
  funext pt o A σ
  cases o <;> rfl
noncomputable def eevF_st (a : Arg) (x : Arg) (n : Nat) (nm : Option Pos) (A : T V) (σ : St) : Option (V × St) := (match ev A a with
    | .ptr p o => (match flat (ev A x) with
      | some vs => (match lall plainV vs && Nat.beq (llen vs) n with
        | true => (match T.get p σ.h with
          | some (.cells l kin fz ro) => (match !fz && !ro && Nat.ble (Nat.add o n) (llen l) with
            | true => some (.u, ⟨T.set (.cells (lput l o vs) [] false false) p (kill kin σ.h), σ.nx⟩)
            | false => none)
          | _ => none)
        | false => none)
      | none => none)
    | _ => none)
noncomputable def eevF_alo (z : List V) (nm : Option Pos) (A : T V) (σ : St) : Option (V × St) := some (.ptr (nameOf σ nm) 0, newB σ nm (.cells z [] false false))
noncomputable def eevF_box (a : Arg) (n : Nat) (nm : Option Pos) (A : T V) (σ : St) : Option (V × St) := (match flat (ev A a) with
    | some l => (match Nat.beq (llen l) n with | true => some (.ptr (nameOf σ nm) 0, newB σ nm (.cells l [] false false)) | false => none)
    | none => none)
noncomputable def eevF_bsl (z : List V) (ps : List (Nat × Nat × Arg)) (len : Nat) (esz : Nat) (nm : Option Pos) (A : T V) (σ : St) : Option (V × St) := (match bldF A ps z with
    | some l => some (.slice (nameOf σ nm) 0 len (some len) esz, newB σ nm (.cells l [] false false))
    | none => none)
noncomputable def eevF_mkm (ks : KSh) (nm : Option Pos) (A : T V) (σ : St) : Option (V × St) := some (.map σ.nx, ⟨T.set (.map [] 0 ks) σ.nx σ.h, σ.nx.succ⟩)
noncomputable def eevF_mks (len : Arg) (cap : Arg) (z : List V) (esz : Nat) (bts : Nat) (nm : Option Pos) (A : T V) (σ : St) : Option (V × St) := (match ev A len with
    | .int _ l => (match ev A cap with
      | .int _ c => (match natOf l with
        | some l => (match natOf c with
          | some c => (match Nat.ble l c && Nat.ble (Nat.mul c (Nat.add bts 1)) 1099511627776 with
            | true => some (.slice σ.nx 0 l (some c) esz, ⟨T.set (.cells (lrep z c) [] false false) σ.nx σ.h, σ.nx.succ⟩)
            | false => none)
          | none => none)
        | none => none)
      | _ => none)
    | _ => none)
noncomputable def eevF_app (s : Arg) (x : Arg) (esz : Nat) (bts : Nat) (str : Bool) (nm : Option Pos) (A : T V) (σ : St) : Option (V × St) := (match srcCells σ (ev A x) esz str with
    | some (n, news) => (match n with
      | 0 => (match ev A s with | .nils => some (.nils, σ) | .slice p o len cap es => (match Nat.beq es esz with | true => some (.slice p o len cap es, σ) | false => none) | _ => none)
      | _ + 1 => (match lall plainV news with
        | true => (match ev A s with
          | .nils => (match Nat.ble (Nat.mul n (Nat.add bts 1)) 1099511627776 with
            | true => some (.slice σ.nx 0 n none esz, ⟨T.set (.cells news [] false false) σ.nx σ.h, σ.nx.succ⟩)
            | false => none)
          | .slice p o len cap es => (match Nat.beq es esz && Nat.ble (Nat.mul (Nat.add len n) (Nat.add bts 1)) 1099511627776 with
            | true => (match cap with
              | some c => (match Nat.ble (Nat.add len n) c with
                | true => (match T.get p σ.h with
                  | some (.cells l kin fz ro) => (match !fz && !ro && Nat.ble (Nat.add o (Nat.mul (Nat.add len n) esz)) (llen l) with
                    | true => some (.slice p o (Nat.add len n) (some c) esz, ⟨T.set (.cells (lput l (Nat.add o (Nat.mul len esz)) news) [] false false) p (kill kin σ.h), σ.nx⟩)
                    | false => none)
                  | _ => none)
                | false => (match sliceCells σ (.slice p o len (some c) esz) esz with
                  | some olds => some (.slice σ.nx 0 (Nat.add len n) none esz, ⟨T.set (.cells (lapp olds news) [] false false) σ.nx σ.h, σ.nx.succ⟩)
                  | none => none))
              | none => (match T.get p σ.h with
                | some (.cells l kin fz ro) => (match !fz && !ro && Nat.ble (Nat.add o (Nat.mul len esz)) (llen l) with
                  | true => (match Nat.beq (Nat.add o (Nat.mul len esz)) (llen l) with
                    | true => some (.slice σ.nx 0 (Nat.add len n) none esz, ⟨T.set (.cells (lapp (ldrop l o) news) (p :: kin) false false) σ.nx (T.set (.cells l kin true false) p σ.h), σ.nx.succ⟩)
                    | false => some (.slice σ.nx 0 (Nat.add len n) none esz, ⟨T.set (.cells (lapp (ldrop (ltake l (Nat.add o (Nat.mul len esz))) o) news) [p] false false) σ.nx (T.set (.cells (ltake l (Nat.add o (Nat.mul len esz))) [] true false) p (kill kin σ.h)), σ.nx.succ⟩))
                  | false => none)
                | _ => none))
            | false => none)
          | _ => none)
        | false => none))
    | none => none)
noncomputable def eevF_cpy (d : Arg) (s : Arg) (esz : Nat) (nm : Option Pos) (A : T V) (σ : St) : Option (V × St) := (match sliceCells σ (ev A s) esz with
    | some src => (match ev A d with
      | .slice p o len cap es => (match Nat.beq es esz with
        | true => (match ltake src (Nat.mul len esz) with
          | [] => (match mkLen 0 with | some v => some (v, σ) | none => none)
          | x :: r => (match lall plainV (x :: r) with
            | true => (match T.get p σ.h with
              | some (.cells l kin fz ro) => (match !fz && !ro && Nat.ble (Nat.add o (llen (x :: r))) (llen l) with
                | true => (match ev A s with
                  | .slice _ _ len2 _ _ => (match mkLen (Nat.min len2 len) with
                    | some v => some (v, ⟨T.set (.cells (lput l o (x :: r)) [] false false) p (kill kin σ.h), σ.nx⟩)
                    | none => none)
                  | _ => none)
                | false => none)
              | _ => none)
            | false => none))
        | false => none)
      | _ => none)
    | none => none)
noncomputable def eevF_mup (m : Arg) (k : Arg) (v : Arg) (ks : KSh) (nm : Option Pos) (A : T V) (σ : St) : Option (V × St) := (match keyShaped ks (ev A k) with
    | true => (match ev A m with
      | .map p => (match T.get p σ.h with
        | some (.map es ck ks') => (match decide (ks' = ks) with
          | true => (match mfind (ev A k) es with
            | some _ => some (.u, ⟨T.set (.map (mset (ev A k) (ev A v) es) ck ks) p σ.h, σ.nx⟩)
            | none => some (.u, ⟨T.set (.map (lapp es [⟨ev A k, ev A v, ck⟩]) (Nat.add ck 1) ks) p σ.h, σ.nx⟩))
          | false => none)
        | _ => none)
      | _ => none)
    | false => none)
noncomputable def eevF_mdl (m : Arg) (k : Arg) (ks : KSh) (nm : Option Pos) (A : T V) (σ : St) : Option (V × St) := (match keyShaped ks (ev A k) with
    | true => (match ev A m with
      | .nilm => some (.tup [], σ)
      | .map p => (match T.get p σ.h with
        | some (.map es ck ks') => (match decide (ks' = ks) with
          | true => some (.tup [], ⟨T.set (.map (mrem (ev A k) es) ck ks) p σ.h, σ.nx⟩)
          | false => none)
        | _ => none)
      | _ => none)
    | false => none)
noncomputable def eevF_men (m : Arg) (k : Arg) (ks : KSh) (z : V) (nm : Option Pos) (A : T V) (σ : St) : Option (V × St) := (match keyShaped ks (ev A k) with
    | true => (match ev A m with
      | .map p => (match T.get p σ.h with
        | some (.map es ck ks') => (match decide (ks' = ks) with
          | true => (match Nat.ble ck 1152921504606846976 with
            | true => (match mfind (ev A k) es with
              | some e => (match Nat.ble e.b 1152921504606846976 with | true => some (.tup [e.v, .int .i64 (.ofNat e.b)], σ) | false => none)
              | none => some (.tup [z, .int .i64 (.ofNat ck)], ⟨T.set (.map (lapp es [⟨ev A k, z, ck⟩]) (Nat.add ck 1) ks) p σ.h, σ.nx⟩))
            | false => none)
          | false => none)
        | _ => none)
      | _ => none)
    | false => none)
noncomputable def eevF_mes (m : Arg) (s : Arg) (v : Arg) (nm : Option Pos) (A : T V) (σ : St) : Option (V × St) := (match ev A m with
    | .map p => (match T.get p σ.h with
      | some (.map es ck ks) => (match ev A s with
        | .int _ b => (match natOf b with
          | some b => (match bset b (ev A v) es with
            | some es' => some (.u, ⟨T.set (.map es' ck ks) p σ.h, σ.nx⟩)
            | none => none)
          | none => none)
        | _ => none)
      | _ => none)
    | _ => none)
noncomputable def eevF (e : EOp) (nm : Option Pos) (A : T V) (σ : St) : Option (V × St) := match e with
  | .st a x n => eevF_st a x n nm A σ
  | .alo z => eevF_alo z nm A σ
  | .box a n => eevF_box a n nm A σ
  | .bsl z ps len esz => eevF_bsl z ps len esz nm A σ
  | .mkm ks => eevF_mkm ks nm A σ
  | .mks len cap z esz bts => eevF_mks len cap z esz bts nm A σ
  | .app s x esz bts str => eevF_app s x esz bts str nm A σ
  | .cpy d s esz => eevF_cpy d s esz nm A σ
  | .mup m k v ks => eevF_mup m k v ks nm A σ
  | .mdl m k ks => eevF_mdl m k ks nm A σ
  | .men m k ks z => eevF_men m k ks z nm A σ
  | .mes m s v => eevF_mes m s v nm A σ
theorem eevF_eq : eevF = eev := by
  funext e nm A σ
  cases e <;> rfl
end Go.Proofs.YtknhohgnilamcaaGreatDoor
