/-
  A PART OF THE PROOF OF EngineNil's TIED CARD: closed facts of the row (first part). No condition beyond those that the theorems below bear.
-/
import Derived.Test.YtceikoofpfcpaaaGreatDoorW5
import Derived.SevenTiedAt
namespace Go.Proofs.YtceikoofpfcpaaaGreatDoor
open Go Go.ChangeShapes Go.WideShapes Go.ChangeAt Go.WideElems Go.RowKit Go.Deep
set_option maxRecDepth 100000
theorem h_named : Tryz.pinned.checked.prog.funcNamed Rows.engineNilRow.func = some 3 := by kernel_rfl
end Go.Proofs.YtceikoofpfcpaaaGreatDoor

namespace Go.Proofs.YtceikoofpfcpaaaGreatDoor
open Go Go.ChangeShapes Go.WideShapes Go.ChangeAt Go.WideElems Go.RowKit Go.Deep
set_option maxRecDepth 100000
theorem h_inst : Tryz.f3.isInstance Tryz.pinned.checked.prog Rows.engineNilRow.origin Rows.engineNilRow.targs := of_decide_eq_true (by kernel_rfl)
end Go.Proofs.YtceikoofpfcpaaaGreatDoor

namespace Go.Proofs.YtceikoofpfcpaaaGreatDoor
open Go Go.ChangeShapes Go.WideShapes Go.ChangeAt Go.WideElems Go.RowKit Go.Deep
set_option maxRecDepth 100000
theorem h_wrap : Tryz.f3.isWrapper Tryz.pinned.checked.prog Rows.engineNilRow.wrapper Rows.engineNilRow.mainSum := by unfold Func.isWrapper; first | (rw [if_pos (by decide +kernel)]; kernel_rfl) | (rw [if_neg (by decide +kernel)]; exact ⟨rfl, rfl⟩)
end Go.Proofs.YtceikoofpfcpaaaGreatDoor

namespace Go.Proofs.YtceikoofpfcpaaaGreatDoor
open Go
set_option maxRecDepth 100000

theorem g_wf : Rows.engineNilRow.wfByText (OpenSpec.ofChange Rows.engineNilSpec) = true := by kernel_rfl
theorem g_looks : true = Tryz.pinned.checked.prog.looks [] := by kernel_rfl
theorem g_main : Tryz.pinned.checked.prog.mainIs = some (true, "03afc62dca4438f086c25bc86dc5d70551aab9bb133484228e31df7f96b5c6a3".toList) := by kernel_rfl
end Go.Proofs.YtceikoofpfcpaaaGreatDoor
