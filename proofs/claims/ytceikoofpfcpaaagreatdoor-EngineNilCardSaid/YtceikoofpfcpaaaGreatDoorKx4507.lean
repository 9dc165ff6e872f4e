/-
  A PART OF THE PROOF OF EngineNil's TIED CARD: one piece of awake's run, reckoned by the kernel. No condition beyond those that the theorems below bear.
-/
import Derived.Test.YtceikoofpfcpaaaGreatDoorKa
import Derived.KernelRfl
namespace Go.Ab
open Go
set_option maxRecDepth 100000
theorem seg4507_ok : seg4507.ok (callA (tabOf Go.Proofs.Tryz.prog) (orP (fsegP [seg4339, seg3327, seg2122, seg1409, seg445]) primT) 60) = true := by kernel_rfl
end Go.Ab
