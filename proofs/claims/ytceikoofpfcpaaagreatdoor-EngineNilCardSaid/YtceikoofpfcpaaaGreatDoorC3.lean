/-
  A PART OF THE PROOF OF EngineNil's TIED CARD: closed facts of the row (second part). No condition beyond those that the theorems below bear.
-/
import Derived.Test.YtceikoofpfcpaaaGreatDoorC2
import Derived.Test.YtceikoofpfcpaaaGreatDoorC1
import Derived.SevenTiedAt
namespace Go.Proofs.YtceikoofpfcpaaaGreatDoor
open Go
set_option maxRecDepth 100000
theorem h_inPlace : (Rows.engineNilRow.inPlace == Tryz.prog.inPlace 3) = true := by
  unfold Program.inPlace
  rw [closure_is]
  kernel_rfl
theorem unfollowed_is : Tryz.prog.unfollowed 3 = true := by
  unfold Program.unfollowed
  rw [closure_is]
  kernel_rfl
theorem recurses_is : Tryz.prog.recurses 3 = true := by
  unfold Program.recurses
  rw [unfollowed_is, Bool.true_or]
theorem h_named2 : (Rows.engineNilRow.named == Tryz.prog.varsNamed 3) = true := by
  unfold Program.varsNamed
  rw [closure_is]
  kernel_rfl
end Go.Proofs.YtceikoofpfcpaaaGreatDoor

namespace Go.Proofs.YtceikoofpfcpaaaGreatDoor
open Go
set_option maxRecDepth 100000
theorem goes_reached : (reached.any fun g => (Tryz.prog.funcs[g]?).any Func.goes) = false := by kernel_rfl
theorem goes_funcs : Tryz.prog.funcs.any Func.goes = false := by kernel_rfl
theorem goes3 : Tryz.prog.goes 3 = false := by
  unfold Program.goes
  rw [closure_is, goes_reached, goes_funcs, Bool.and_false, Bool.false_or]
theorem goes_from : Tryz.pinned.checked.prog.goesFrom Rows.engineNilRow.func = false := by
  unfold Program.goesFrom
  rw [h_named, Option.any_some]
  exact goes3
theorem g_goes : false = Rows.engineNilRow.goesBy Tryz.pinned.checked.prog := by
  unfold OpenClaim.goesBy Program.goesAt
  rw [goes_from]
  rfl
end Go.Proofs.YtceikoofpfcpaaaGreatDoor
