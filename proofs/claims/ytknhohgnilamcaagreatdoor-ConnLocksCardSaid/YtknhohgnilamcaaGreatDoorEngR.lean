/-
  The operations that change nothing: what they yield on the abstract machine, and that the model yields the same. (Of no program.)
-/
import Derived.Test.YtknhohgnilamcaaGreatDoorEngQ
namespace Go.Proofs.YtknhohgnilamcaaGreatDoor
set_option linter.unusedVariables false
set_option linter.unusedSimpArgs false
set_option linter.unusedSectionVars false
open Go

def mkLen (n : Nat) : Option V := match Nat.ble n 1152921504606846976 with | true => some (.int .i64 (.ofNat n)) | false => none
noncomputable def optN (A : T V) (a : Option Arg) (d : Nat) : Option Nat := match a with
  | none => some d
  | some a => (match ev A a with | .int _ i => natOf i | _ => none)
/-- two pointers -/
noncomputable def eqPtr (σ : St) (p : Pos) (o : Nat) (q : Pos) (o' : Nat) : Option Bool := match p.beq q with
  | true => some (Nat.beq o o')
  | false => (match T.get p σ.h with
    | some (.cells l [] _ _) => (match T.get q σ.h with | some (.cells m [] _ _) => (match Nat.blt o (llen l) && Nat.blt o' (llen m) with | true => some false | false => none) | _ => none)
    | _ => none)
/-- pointers, slices, maps, functions, interfaces held against nil or one another -/
noncomputable def eqpV (σ : St) (pt : List Nat) (kd : NK) (x y : V) : Option Bool := match kd with
  | .ptr => (match x with
    | .nilp => (match y with | .nilp => some true | .ptr _ _ => some false | _ => none)
    | .ptr p o => (match y with | .nilp => some false | .ptr q o' => eqPtr σ p o q o' | _ => none)
    | _ => none)
  | .slice => (match x with
    | .nils => (match y with | .nils => some true | .slice _ _ _ _ _ => some false | _ => none)
    | .slice _ _ _ _ _ => (match y with | .nils => some false | _ => none)
    | _ => none)
  | .map => (match x with
    | .nilm => (match y with | .nilm => some true | .map _ => some false | _ => none)
    | .map _ => (match y with | .nilm => some false | _ => none)
    | _ => none)
  | .func => (match x with
    | .nilf => (match y with | .nilf => some true | .fn _ _ _ => some false | _ => none)
    | .fn _ _ _ => (match y with | .nilf => some false | _ => none)
    | _ => none)
  | .iface c => (match x with
    | .nili => (match y with | .nili => (match c with | true => some true | false => none) | .iface _ _ => some false | _ => none)
    | .iface t a => (match y with
      | .nili => some false
      | .iface u b => (match Nat.beq t u with
        | false => some false
        | true => (match lall (fun z => !(Nat.beq z t)) pt with
          | true => none
          | false => (match a with
            | .ptr p o => (match b with | .ptr q o' => eqPtr σ p o q o' | _ => none)
            | _ => none)))
      | _ => none)
    | _ => none)
def xorB (a b : Bool) : Bool := match a with | true => !b | false => b
noncomputable def mfind (k : V) (es : List ME) : Option ME := List.rec (motive := fun _ => Option ME) none (fun e _ ih => match keyEq k e.k with | true => some e | false => ih) es

noncomputable def qev (pt : List Nat) (q : QOp) (A : T V) (σ : St) : Option V := match q with
  | .mv a => some (ev A a)
  | .pick c a b => (match ev A c with | .bool t => some (match t with | true => ev A a | false => ev A b) | _ => none)
  | .bld z ps => (match bldF A ps z with | some l => some (.agg l) | none => none)
  | .fadr a off => (match ev A a with | .ptr p o => some (.ptr p (Nat.add o off)) | _ => none)
  | .fld a off n ag => (match ev A a with | .agg l => partA l off n ag | _ => none)
  | .iadr a i esz => (match ev A a with
    | .slice p o len _ _ => (match ev A i with | .int _ i => (match natOf i with | some n => (match Nat.blt n len with | true => some (.ptr p (Nat.add o (Nat.mul n esz))) | false => none) | none => none) | _ => none)
    | _ => none)
  | .iada a i esz n => (match ev A a with
    | .ptr p o => (match ev A i with | .int _ i => (match natOf i with | some j => (match Nat.blt j n with | true => some (.ptr p (Nat.add o (Nat.mul j esz))) | false => none) | none => none) | _ => none)
    | _ => none)
  | .idxa a i esz n ag => (match ev A a with
    | .agg l => (match ev A i with | .int _ i => (match natOf i with | some j => (match Nat.blt j n with | true => partA l (Nat.mul j esz) esz ag | false => none) | none => none) | _ => none)
    | _ => none)
  | .idxs a i => (match ev A a with
    | .str l => (match ev A i with | .int _ i => (match natOf i with | some j => (match lget l j with | some b => some (.int .u8 (.ofNat b)) | none => none) | none => none) | _ => none)
    | _ => none)
  | .nck a => (match ev A a with
    | .ptr p o => some (.ptr p o)
    | .iface t v => some (.iface t v)
    | .fn f x y => some (.fn f x y)
    | _ => none)
  | .bin op a c => (match ev A a with | .int k x => (match ev A c with | .int k' y => (match beqK k k' with | true => ibin op k x y | false => none) | _ => none) | _ => none)
  | .shf left a c => (match ev A a with
    | .int k x => (match ev A c with
      | .int _ y => (match natOf y with
        | some n => (match Nat.ble n 64 with
          | true => some (.int k (wrapK k (match left with | true => Int.mul x (.ofNat (Nat.pow 2 (Nat.min n k.bits))) | false => Int.fdiv x (.ofNat (Nat.pow 2 (Nat.min n k.bits))))))
          | false => none)
        | none => none)
      | _ => none)
    | _ => none)
  | .cmpb ne a c => (match ev A a with | .bool x => (match ev A c with | .bool y => some (.bool (xorB ne (!(xorB x y)))) | _ => none) | _ => none)
  | .cmps op a c => (match ev A a with
    | .str x => (match ev A c with
      | .str y => (match op with
        | .add => (match Nat.ble (Nat.add (llen x) (llen y)) 1000000 with | true => some (.str (lapp x y)) | false => none)
        | .eql => some (.bool (nateq x y))
        | .neq => some (.bool (!(nateq x y)))
        | _ => none)
      | _ => none)
    | _ => none)
  | .eqp kd ne a c => (match eqpV σ pt kd (ev A a) (ev A c) with | some b => some (.bool (xorB ne b)) | none => none)
  | .eqa ne sh a c => (match ev A a with
    | .agg l => (match ev A c with
      | .agg m => (match shaped sh l with | true => (match shaped sh m with | true => some (.bool (xorB ne (inteq l m))) | false => none) | false => none)
      | _ => none)
    | _ => none)
  | .not a => (match ev A a with | .bool b => some (.bool (!b)) | _ => none)
  | .neg a => (match ev A a with | .int k n => some (.int k (wrapK k (Int.sub (.ofNat 0) n))) | _ => none)
  | .inv a => (match ev A a with
    | .int k n => (match k.signed with | false => some (.int k (wrapK k (.ofNat (Nat.xor (Nat.sub (modK k) 1) (toU (modK k) n))))) | true => none)
    | _ => none)
  | .cvi k a => (match ev A a with | .int _ n => some (.int k (wrapK k n)) | _ => none)
  | .cvid a => (match ev A a with | .str l => some (.str l) | _ => none)
  | .mki t a => some (.iface t (ev A a))
  | .mkf f xs ys => some (.fn f (lmap (ev A) xs) (lmap (ev A) ys))
  | .tas a t z ok => (match ev A a with
    | .iface u v => (match Nat.beq u t with
      | true => some (match ok with | true => .tup [v, .bool true] | false => v)
      | false => (match ok with | true => some (.tup [z, .bool false]) | false => none))
    | .nili => (match ok with | true => some (.tup [z, .bool false]) | false => none)
    | _ => none)
  | .tai a ts ok => (match ev A a with
    | .iface u v => (match lall (fun z => !(Nat.beq z u)) ts with
      | false => some (match ok with | true => .tup [.iface u v, .bool true] | false => .iface u v)
      | true => none)
    | .nili => (match ok with | true => some (.tup [.nili, .bool false]) | false => none)
    | _ => none)
  | .ext a i => (match ev A a with | .tup l => lget l i | _ => none)
  | .lenv a => (match ev A a with | .slice _ _ len _ _ => mkLen len | .nils => mkLen 0 | _ => none)
  | .lens a => (match ev A a with | .str l => mkLen (llen l) | _ => none)
  | .lenc n => mkLen n
  | .slc a lo hi esz => (match ev A a with
    | .slice p o len cap es => (match Nat.beq es esz with
      | true => (match optN A hi len with
        | some h => (match optN A lo 0 with
          | some l => (match Nat.ble l h && Nat.ble h len with
            | true => some (.slice p (Nat.add o (Nat.mul l esz)) (Nat.sub h l) (match cap with | some c => some (Nat.sub c l) | none => none) esz)
            | false => none)
          | none => none)
        | none => none)
      | false => none)
    | .nils => (match optN A hi 0 with
      | some h => (match optN A lo 0 with | some l => (match Nat.beq h 0 && Nat.beq l 0 with | true => some .nils | false => none) | none => none)
      | none => none)
    | _ => none)
  | .slca a lo hi esz n => (match ev A a with
    | .ptr p o => (match T.get p σ.h with
      | some (.cells ls _ _ _) => (match Nat.ble (Nat.add o (Nat.mul n esz)) (llen ls) with
        | true => (match optN A hi n with
          | some h => (match optN A lo 0 with
            | some l => (match Nat.ble l h && Nat.ble h n with
              | true => some (.slice p (Nat.add o (Nat.mul l esz)) (Nat.sub h l) (some (Nat.sub n l)) esz)
              | false => none)
            | none => none)
          | none => none)
        | false => none)
      | _ => none)
    | _ => none)
  | .slcs a lo hi => (match ev A a with
    | .str s => (match optN A hi (llen s) with
      | some h => (match optN A lo 0 with
        | some l => (match Nat.ble l h && Nat.ble h (llen s) with | true => some (.str (ltake (ldrop s l) (Nat.sub h l))) | false => none)
        | none => none)
      | none => none)
    | _ => none)
  | .mnx mx a c => (match ev A a with
    | .int k x => (match ev A c with
      | .int k' y => (match beqK k k' with
        | true => some (.int k (match mx with | true => (match ilt x y with | true => y | false => x) | false => (match ilt y x with | true => y | false => x)))
        | false => none)
      | _ => none)
    | _ => none)
  | .ld1 a => (match ev A a with | .ptr p o => (match T.get p σ.h with | some (.cells l _ _ _) => lget l o | _ => none) | _ => none)
  | .ldn a n => (match ev A a with | .ptr p o => (match T.get p σ.h with | some (.cells l _ _ _) => (match Nat.ble (Nat.add o n) (llen l) with | true => some (.agg (ltake (ldrop l o) n)) | false => none) | _ => none) | _ => none)
  | .lkp m k ks z ok => (match keyShaped ks (ev A k) with
    | true => (match ev A m with
      | .nilm => some (match ok with | true => .tup [z, .bool false] | false => z)
      | .map p => (match T.get p σ.h with
        | some (.map es _ ks') => (match decide (ks' = ks) with
          | true => some (match mfind (ev A k) es with
            | some e => (match ok with | true => .tup [e.v, .bool true] | false => e.v)
            | none => (match ok with | true => .tup [z, .bool false] | false => z))
          | false => none)
        | _ => none)
      | _ => none)
    | false => none)
  | .lenm m => (match ev A m with
    | .nilm => mkLen 0
    | .map p => (match T.get p σ.h with | some (.map es _ _) => mkLen (llen es) | _ => none)
    | _ => none)
  | .wts g => (match ev A g with | .ptr p o => (match T.get p σ.h with | some (.cells _ _ _ _) => some (.bool false) | _ => none) | _ => none)
end Go.Proofs.YtknhohgnilamcaaGreatDoor
