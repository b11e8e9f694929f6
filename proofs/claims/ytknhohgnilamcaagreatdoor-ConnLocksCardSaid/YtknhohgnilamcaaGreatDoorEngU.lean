/-
  Which operation of the abstract machine an operation is; and that it yields the same. (Of no program.)
-/
import Derived.Test.YtknhohgnilamcaaGreatDoorEngS
namespace Go.Proofs.YtknhohgnilamcaaGreatDoor
set_option linter.unusedVariables false
set_option linter.unusedSimpArgs false
set_option linter.unusedSectionVars false
open Go

section
variable (P : Program)
def fieldB (t f off : Nat) : Option Nat := match P.underlying t with
  | some (.struct fs) => (match fs[f]? with | some fd => if fd.offset = off then some fd.type else none | none => none)
  | _ => none
def nzB (t : Nat) : Bool := match P.info? t with | some i => i.size != 0 | none => false
def isSliceB (t esz : Nat) : Bool := match P.underlying t with | some (.slice e) => szB P e esz | _ => false
def isArrB (t n esz : Nat) : Bool := match P.underlying t with | some (.array m e) => m == n && szB P e esz | _ => false
def isStrB (t : Nat) : Bool := match P.underlying t with | some .string => true | _ => false
def isMapB (t : Nat) (kt : List (Nat × KSh)) (ks : KSh) (z : V) : Bool := match P.underlying t with | some (.map k e) => kt.contains (k, ks) && zeroV P e z | _ => false
def eqOp (ne : Bool) (op : BinOp) : Bool := match op with | .eql => !ne | .neq => ne | _ => false
def notIfaceB (t : Nat) : Bool := match P.underlying t with | some (.interface _) => false | none => false | _ => true
def implB (t : Nat) (ts : List Nat) : Bool := match P.underlying t with
  | some (.interface want) => ts.all fun u => match P.info? u with | some i => (Instr.missingMethod want i.methods).isNone | none => false
  | _ => false
def nilKindB (kd : NK) (t : Nat) (a c : Arg) : Bool := match P.underlying t, kd with
  | some (.pointer e), .ptr => nzB P e | some (.slice _), .slice => true | some (.map _ _), .map => true | some (.func _ _ _), .func => true
  | some (.interface _), .iface b => b == (isC a || isC c)
  | _, _ => false

def builtOk (t : Nat) : Bool := match P.underlying t with
  | some (.array _ e) => (P.info? e).isSome
  | some (.struct fs) => (fs.toList.mapM fun f => (P.info? f.type).map fun i => (f.offset, i.size)).isSome
  | _ => false
def okQ {P : Program} (E : Env P) (q : QOp) (op : Op) : Bool := match q with
  | .mv a => (match op with | .move x => okA E.ng a x | .assign x => okA E.ng a x | _ => false)
  | .pick c a b => (match op with | .pick c' a' b' => okA E.ng c c' && okA E.ng a a' && okA E.ng b b' | _ => false)
  | .bld z ps => (match op with | .build t parts => zeroB P t z && builtOk P t && placesB P E.ng t ps parts.toList | _ => false)
  | .fadr a off => (match op with | .fieldAddr t x f => okA E.ng a x && (match fieldB P t f off with | some ft => nzB P ft | none => false) | _ => false)
  | .fld a off n ag => (match op with | .field t x f => okA E.ng a x && (match fieldB P t f off with | some ft => szB P ft n && aggB P ft == some ag | none => false) | _ => false)
  | .iadr a i esz => (match op with | .indexAddr t x j => okA E.ng a x && okA E.ng i j && isSliceB P t esz | _ => false)
  | .iada a i esz n => (match op with | .indexAddr t x j => okA E.ng a x && okA E.ng i j && isArrB P t n esz | _ => false)
  | .idxa a i esz n ag => (match op with | .index t x j => okA E.ng a x && okA E.ng i j && isArrB P t n esz && (match P.underlying t with | some (.array _ e) => aggB P e == some ag | _ => false) | _ => false)
  | .idxs a i => (match op with | .index t x j => okA E.ng a x && okA E.ng i j && isStrB P t | _ => false)
  | .nck a => (match op with | .nilCheck x => okA E.ng a x | _ => false)
  | .bin b a c => (match op with | .binOp b' t x y _ => decide (b = b') && okA E.ng a x && okA E.ng c y | _ => false)
  | .shf left a c => (match op with | .binOp b' t x y _ => decide (b' = (if left then .shl else .shr)) && okA E.ng a x && okA E.ng c y | _ => false)
  | .cmpb ne a c => (match op with | .binOp b' t x y _ => eqOp ne b' && okA E.ng a x && okA E.ng c y && (match P.underlying t with | some .bool => true | _ => false) | _ => false)
  | .cmps b a c => (match op with | .binOp b' t x y _ => decide (b = b') && okA E.ng a x && okA E.ng c y | _ => false)
  | .eqp kd ne a c => (match op with | .binOp b' t x y _ => eqOp ne b' && okA E.ng a x && okA E.ng c y && nilKindB P kd t a c | _ => false)
  | .eqa ne sh a c => (match op with | .binOp b' t x y _ => eqOp ne b' && okA E.ng a x && okA E.ng c y && E.kt.contains (t, sh) | _ => false)
  | .not a => (match op with | .unOp u t x => decide (u = .not) && okA E.ng a x | _ => false)
  | .neg a => (match op with | .unOp u t x => decide (u = .neg) && okA E.ng a x | _ => false)
  | .inv a => (match op with | .unOp u t x => decide (u = .xor) && okA E.ng a x | _ => false)
  | .cvi k a => (match op with | .convert s d x => okA E.ng a x && (match P.underlying s with | some _ => true | none => false) && (match P.underlying d with | some (.int k') => decide (k = k') | _ => false) | _ => false)
  | .cvid a => (match op with | .convert s d x => okA E.ng a x && isStrB P s && isStrB P d | _ => false)
  | .mki t a => (match op with | .makeInterface t' x => t == t' && okA E.ng a x && notIfaceB P t | _ => false)
  | .mkf f xs ys => (match op with | .makeFunc (.func f') first cap => f == f' && okAs E.ng xs first.toList && okAs E.ng ys cap.toList | _ => false)
  | .tas a t z ok => (match op with | .typeAssert x _ t' ok' => t == t' && ok == ok' && okA E.ng a x && notIfaceB P t && zeroV P t z | _ => false)
  | .tai a ts ok => (match op with | .typeAssert x _ t' ok' => ok == ok' && okA E.ng a x && implB P t' ts && zeroV P t' .nili | _ => false)
  | .ext a i => (match op with | .extract x j => i == j && okA E.ng a x | _ => false)
  | .lenv a => (match op with | .call ⟨.builtin .len, args, ats⟩ => (match args.toList, ats.toList with | [x], [t] => okA E.ng a x && (match P.underlying t with | some (.slice _) => true | _ => false) | _, _ => false) | _ => false)
  | .lens a => (match op with | .call ⟨.builtin .len, args, ats⟩ => (match args.toList, ats.toList with | [x], [t] => okA E.ng a x && isStrB P t | _, _ => false) | _ => false)
  | .lenc n => (match op with | .call ⟨.builtin .len, args, ats⟩ => (match args.toList, ats.toList with | [x], [t] => (match P.underlying t with | some (.array m _) => m == n | _ => false) | _, _ => false) | _ => false)
  | .slc a lo hi esz => (match op with | .slice t x l h none => okA E.ng a x && okOA E.ng lo l && okOA E.ng hi h && isSliceB P t esz | _ => false)
  | .slca a lo hi esz n => (match op with | .slice t x l h none => okA E.ng a x && okOA E.ng lo l && okOA E.ng hi h && isArrB P t n esz | _ => false)
  | .slcs a lo hi => (match op with | .slice t x l h none => okA E.ng a x && okOA E.ng lo l && okOA E.ng hi h && isStrB P t | _ => false)
  | .mnx mx a c => (match op with | .call ⟨.builtin b, args, ats⟩ => decide (b = (if mx then .max else .min)) && (match args.toList with | [x, y] => okA E.ng a x && okA E.ng c y | _ => false) | _ => false)
  | .ld1 a => (match op with | .load t x => okA E.ng a x && aggB P t == some false | _ => false)
  | .ldn a n => (match op with | .load t x => okA E.ng a x && aggB P t == some true && szB P t n | _ => false)
  | .lkp m k ks z ok => (match op with | .lookup t x y ok' => ok == ok' && okA E.ng m x && okA E.ng k y && isMapB P t E.mk_ ks z | _ => false)
  | .lenm m => (match op with | .call ⟨.builtin .len, args, ats⟩ => (match args.toList, ats.toList with | [x], [t] => okA E.ng m x && (match P.underlying t with | some (.map _ _) => true | _ => false) | _, _ => false) | _ => false)
  | .wts a => (match op with | .waits g => okA E.ng a (.global g) | _ => false)
end
end Go.Proofs.YtknhohgnilamcaaGreatDoor
