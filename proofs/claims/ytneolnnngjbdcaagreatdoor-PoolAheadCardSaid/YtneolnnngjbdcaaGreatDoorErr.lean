/-
  errors.Is where the target is a pointer of errors.New's make: it comes to errors.is, with true.
-/
import Derived.Test.YtneolnnngjbdcaaGreatDoorProg
import Derived.WalkKit
import Derived.LaidEql
import Derived.Stop.Asserts
import Derived.RowKitTokens
namespace Go.Proofs.YtneolnnngjbdcaaGreatDoor
set_option linter.unusedVariables false
set_option maxRecDepth 100000
open Go.RowKit Go.Extern.Stop Go.Stop Go.Extern Go Go.Extern.Rtype

theorem isTypeOf (v : Value) (w : World) : (Extern.ReflectliteType.typeOf #[.iface 283 v]).run Tryz.prog w = .ok (.iface 241 (.agg #[.pointer (some ⟨18, 283, none⟩)])) w := by kernel_rfl
noncomputable def cmpE : Array Value → Sem Value := Extern.ReflectliteType.method fun t => do noPackHeld "Comparable" t; pure (.bool (← typeInfo t).comparable)
theorem isComparable (w : World) : (cmpE #[.agg #[.pointer (some ⟨18, 283, none⟩)]]).run Tryz.prog w = .ok (.bool true) w := by kernel_rfl
theorem isMethodComparable (v : Value) (w : World) : (Go.method 420 241 v "Comparable").run Tryz.prog w = .ok (211, v) w := by kernel_rfl
theorem is_calls {t : TypeId} {v : Value} {a : Addr} {w : World} {Q : Value → World → Prop} (h : Calls Tryz.prog 126 #[.iface t v, .iface 283 (.pointer (some a)), .bool true] w fun e w' => ∃ x, e = .returned x ∧ Q x w') :
    Calls Tryz.prog 81 #[.iface t v, .iface 283 (.pointer (some a))] w fun e w' => ∃ x, e = .returned x ∧ Q x w' := by
  have h8 := @run_callFunc_extern Tryz.prog 125 _ Extern.ReflectliteType.typeOf Tryz.func125 (by kernel_rfl) (by kernel_rfl) (by kernel_rfl) (by kernel_rfl)
  have h32 := @run_callFunc_extern Tryz.prog 211 _ cmpE Tryz.func211 (by kernel_rfl) (by kernel_rfl) (by kernel_rfl) (by kernel_rfl)
  have tT := isTypeOf
  have cT := isComparable
  have mR := isMethodComparable
  go_enter Tryz.func81, Tryz.ntmps81
  go_wp2_with (go_at_call 126; refine h.mono ?_; rintro e w' ⟨x, rfl, hq⟩)
  go_ret
  exact ⟨_, rfl, hq⟩
theorem is_nil {t : TypeId} {v : Value} {w : World} : Calls Tryz.prog 81 #[.nilIface, .iface t v] w fun e w' => e = .returned (.bool false) ∧ w' = w := by
  have hn := run_eql_iface_nil_left (P := Tryz.prog) w t v Tryz.underlying38
  go_enter Tryz.func81, Tryz.ntmps81
  go_wp2
  go_ret
  exact ⟨rfl, rfl⟩
end Go.Proofs.YtneolnnngjbdcaaGreatDoor
