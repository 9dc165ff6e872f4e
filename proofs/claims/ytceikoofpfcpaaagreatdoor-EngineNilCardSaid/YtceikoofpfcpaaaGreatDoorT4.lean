/-
  A PART OF THE PROOF OF EngineNil's TIED CARD: that the evaluator's calls are sound at this dump. No condition beyond those that the theorems below bear.
-/
import Derived.Test.YtceikoofpfcpaaaGreatDoorT1
import Derived.Test.YtceikoofpfcpaaaGreatDoorT2
import Derived.Test.YtceikoofpfcpaaaGreatDoorT3
import Derived.Test.YtceikoofpfcpaaaGreatDoorA10
import Derived.KernelRfl
import Derived.Laws.Externs
namespace Go.Proofs
open Go Go.Ab
set_option maxRecDepth 100000

theorem Tryz.funcs_ok : funcsOK Tryz.prog.funcs.toList = true := by kernel_rfl
theorem Tryz.tab_ok : TabOK Tryz.prog (tabOf Tryz.prog) := tabOf_ok Tryz.funcs_ok
theorem Tryz.follows_ok : Tryz.prog.follows .mixedOrders = true := by kernel_rfl

theorem Tryz.prims_ok : PrimOK Tryz.prog primT :=
  orP_ok (primOf_ok (cmp_prim Tryz.func245 (by kernel_rfl) (by kernel_rfl) (by kernel_rfl) (by kernel_rfl)))
    (orP_ok (primOf_ok (used_prim (enters_of Tryz.func185 (by kernel_rfl) rfl) Tryz.used_walk))
      (orP_ok (primOf_ok (list_prim (kt := 9) (by kernel_rfl) (enters_of Tryz.func40 (by kernel_rfl) rfl) (fun pb off b nn D0 R w => Tryz.list_walk pb off b nn D0 R w)))
        (orP_ok (primOf_ok (noZero_prim (ps := #[3]) (t := 22) (e := 5) Tryz.func285 (by kernel_rfl) (by kernel_rfl) (by kernel_rfl) (by kernel_rfl) (by kernel_rfl)))
          (primOf_ok (read_prim (enters_of Tryz.func168 (by kernel_rfl) rfl) (enters_of Tryz.func251 (by kernel_rfl) rfl) Tryz.read_walk)))))
theorem Tryz.call_ok (d : Nat) : CallOK Tryz.prog (callA (tabOf Tryz.prog) primT d) := calls_ok Tryz.tab_ok Tryz.prims_ok Tryz.follows_ok d
end Go.Proofs
