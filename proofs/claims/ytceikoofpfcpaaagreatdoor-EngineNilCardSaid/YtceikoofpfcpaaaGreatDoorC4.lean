/-
  A PART OF THE PROOF OF EngineNil's TIED CARD: closed facts of the row (third part). No condition beyond those that the theorems below bear.
-/
import Derived.Test.YtceikoofpfcpaaaGreatDoorC3
import Derived.Stop.Joined
import Derived.JoinedOf
namespace Go.Proofs.YtceikoofpfcpaaaGreatDoor
open Go
set_option maxRecDepth 100000
theorem a1 : (Rows.engineNilRow.wf (OpenSpec.ofChange Rows.engineNilSpec)) = true := by kernel_rfl
theorem a3 : mapsRowed Tryz.prog = true := by kernel_rfl
theorem a4 : Tryz.f3.params.all (Tryz.prog.readableRec ·) = true := by kernel_rfl
theorem a5 : namedTie Tryz.prog Rows.engineNilRow.named Rows.engineNilSpec.vars = true := by kernel_rfl
theorem a6 : (Tryz.prog.stops == []) = true := by kernel_rfl
theorem a7 : (Tryz.prog.stopKnobs == []) = true := by kernel_rfl
theorem a10 : (Rows.engineNilRow.maps == (Tryz.f3.params.toList ++ Rows.engineNilSpec.plain.varTypes Tryz.prog).any (Tryz.prog.mapsRec ·)) = true := by kernel_rfl
theorem a11 : (Rows.engineNilRow.ifaces == (Tryz.f3.params.toList ++ Rows.engineNilSpec.plain.varTypes Tryz.prog).any (Tryz.prog.ifacesRec ·)) = true := by kernel_rfl
theorem a11b : (Rows.engineNilRow.mapsOut == Tryz.prog.mapsAmong Tryz.f3.resultTypes.toList) = true := by kernel_rfl
theorem a12 : (Rows.engineNilRow.loops == (Tryz.f3.params.toList ++ Rows.engineNilSpec.plain.varTypes Tryz.prog).any (Tryz.prog.loopsFrom ·)) = true := by kernel_rfl
theorem a12b : (Rows.engineNilRow.wideKeys == (Tryz.f3.params.toList ++ Rows.engineNilSpec.plain.varTypes Tryz.prog ++ Tryz.f3.resultTypes.toList).any (Tryz.prog.wideKeysFrom ·)) = true := by kernel_rfl
theorem a13 : Rows.engineNilSpec.vars.all (Tryz.prog.varReadable ·) = true := by kernel_rfl
theorem a13b : Tryz.f3.resultTypes.all (fun t => Tryz.prog.readableRec t && decide (t < Tryz.prog.types.size)) = true := by kernel_rfl
theorem a13c : (Rows.engineNilRow.ifacesOut == Tryz.f3.resultTypes.toList.any (Tryz.prog.ifacesRec ·)) = true := by kernel_rfl
theorem a13d : (Rows.engineNilRow.loopsOut == Tryz.f3.resultTypes.toList.any (Tryz.prog.loopsFrom ·)) = true := by kernel_rfl
theorem a14 : (Rows.engineNilRow.plainKeys == Tryz.prog.plainKeys) = true := by kernel_rfl
theorem a15 : Rows.engineNilRow.shortTexts.isNone = true := by kernel_rfl
theorem a15b : Tryz.prog.stopsHeard = true := by kernel_rfl
theorem a16 : Tryz.prog.mayEnter = true := by kernel_rfl
theorem a17 : (Rows.engineNilRow.lifted == Tryz.prog.liftsFinal) = true := by kernel_rfl
theorem a18 : (Tryz.prog.make == some Rows.engineNilRow.make) = true := by kernel_rfl
theorem a20 : (Rows.engineNilRow.pinned == Rows.engineNilRow.pinnedBy) = true := by kernel_rfl
theorem a21 : (Rows.engineNilRow.veiled == (Tryz.f3.params.toList ++ Rows.engineNilSpec.plain.varTypes Tryz.prog ++ Tryz.f3.resultTypes.toList).any (Tryz.prog.veiledRec ·)) = true := by kernel_rfl
theorem a22 : Rows.engineNilRow.veiledFits Tryz.prog Tryz.f3.params.toList (Tryz.f3.params.toList ++ Rows.engineNilSpec.plain.varTypes Tryz.prog ++ Tryz.f3.resultTypes.toList) = true := by kernel_rfl
theorem hu : (Rows.engineNilRow.unfollowed == Tryz.prog.unfollowed 3) = true := by rw [unfollowed_is]; rfl
theorem hr : (Rows.engineNilRow.recurses == Tryz.prog.recurses 3) = true := by rw [recurses_is]; rfl
theorem h_closed : joinedFacts Tryz.prog 3 Tryz.f3 Rows.engineNilSpec Rows.engineNilRow = true := by
  have e1 : (Rows.engineNilRow.stops == []) = true := rfl
  have e2 : (Rows.engineNilRow.knobs == []) = true := rfl
  unfold joinedFacts
  rw [a1, laidOut, a3, a4, a5, e1, a6, e2, a7, h_inPlace, hu, hr, h_named2, a10, a11, a11b, a12, a12b, a13, a13b, a13c, a13d, a14, a15, a15b, a16, a17, a18, a20, a21, a22]
  exact rfl
end Go.Proofs.YtceikoofpfcpaaaGreatDoor
