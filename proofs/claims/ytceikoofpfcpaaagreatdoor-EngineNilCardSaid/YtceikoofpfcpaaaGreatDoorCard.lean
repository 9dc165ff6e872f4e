/-
  PROVED: the tied card of EngineNil (Rows.EngineNilCardSaid): for every input the call returns true, and each argument reads afterwards as it read before. CONDITIONS: those of the given card alone: the listed variables hold what the row lists when the call begins; the row bears 'recurses' and 'unfollowed'. No other hypothesis.
-/
import Derived.Test.YtceikoofpfcpaaaGreatDoorW6
import Derived.Test.YtceikoofpfcpaaaGreatDoorC1
import Derived.Test.YtceikoofpfcpaaaGreatDoorC4
import Derived.Test.YtceikoofpfcpaaaGreatDoorC3
import Derived.Test.YtceikoofpfcpaaaGreatDoorCards
import Derived.Test.YtceikoofpfcpaaaGreatDoorTie
import Derived.SevenTiedAt
namespace Go.Proofs.YtceikoofpfcpaaaGreatDoor
open Go
set_option maxRecDepth 100000
theorem engineNil_holds : Rows.EngineNilSaid :=
  OpenClaim.holds_of_wide 3 Tryz.f3 rfl rfl rfl rfl rfl rfl rfl ⟨rfl, rfl, rfl, rfl, rfl⟩ rfl rfl rfl rfl rfl h_named Tryz.func3 h_closed h_inst h_wrap
    (fun os started H enc _ => lifted os started H enc)
theorem engineNil_card_holds : Rows.EngineNilCardSaid :=
  Claim7.holds_tied_plain_at .later [] [.data, .data, .data, .data, .data, .pinned] true (true, "03afc62dca4438f086c25bc86dc5d70551aab9bb133484228e31df7f96b5c6a3") true
    engineNil_holds (fun _ h => by cases h) g_wf (fun _ h => by cases h) engineNil_row_tie rfl ⟨rfl, rfl⟩ g_main rfl
    (fun f fn hf hfn => by
      obtain rfl : f = 3 := Option.some.inj (h_named.symm.trans hf) |>.symm
      obtain rfl : fn = Tryz.f3 := (Option.some.inj (Tryz.func3.symm.trans hfn)).symm
      exact ⟨g_looks, fun j t ht => by
        rw [Tryz.params3] at ht
        have hm : t ∈ [22, 23] := by simpa using Array.mem_of_getElem? ht
        have hall : ([22, 23].all fun u => !Tryz.prog.wantsStandIn u) = true := by kernel_rfl
        exact (show Tryz.prog.wantsStandIn t = false by simpa using List.all_eq_true.1 hall t hm)⟩)
    g_goes
#print axioms engineNil_card_holds
end Go.Proofs.YtceikoofpfcpaaaGreatDoor
