/-
  A PART OF THE PROOF OF EngineNil's TIED CARD: that the row's condition gives the evaluator's first state. No condition beyond those that the theorems below bear.
-/
import Derived.Test.YtceikoofpfcpaaaGreatDoorW1
import Derived.Test.YtceikoofpfcpaaaGreatDoorRows
import Derived.LaidSub
import Derived.Lib.LaidTab
import Derived.ProofKit
namespace Go.Proofs.YtceikoofpfcpaaaGreatDoor
open Go Go.Ab
set_option maxRecDepth 100000

def quarterZ : List Int := [0, 274646895, 549293790, 820201905, 1098587580, 1361435347, 1640403810, 1905808397, 2197175160, 2460548119, 2722870694, 2987750089, 3280807620, 3553878443, 3811616794, 4084100981]
def qName : String := Rows.engineNilRow.named.getD 5 default
theorem gQ : Tryz.prog.globalNamed qName = some 0 := by kernel_rfl
theorem tQ : (Tryz.prog.globals[0]?).map (·.type) = some 364 := by kernel_rfl
theorem uQ : Tryz.prog.underlying 364 = some (.array 16 298) := by kernel_rfl
theorem uE : Tryz.prog.underlying 298 = some (.int .u32) := by kernel_rfl
theorem cE : Tryz.prog.cellsOf 298 = 1 := by kernel_rfl
theorem cQ : Tryz.prog.cellsOf 364 = 16 := by kernel_rfl
theorem cut_list : (Rows.engineNilRow.laid.filter fun x => x.1 == qName) = [(qName, Lib.tabData .u32 quarterZ)] := by kernel_rfl

theorem quarter_is {W : World} (h : laidMetH Tryz.prog Rows.engineNilRow.laid W) : Lib.TabIs Tryz.prog W qName .u32 quarterZ := by
  have h1 := h.filter fun x => x.1 == qName
  rw [cut_list, MakeChecks.laidMetH_plain _ _ _ (by kernel_rfl)] at h1
  exact Lib.tabIs_of_head gQ tQ uQ uE cE cQ h1

def rho0 : Ren := fun g => if g < 256 then some ⟨g, 0, if g = 0 then 16 else 0⟩ else none
theorem rho0_glob : Glob rho0 := fun g hg => ⟨if g = 0 then 16 else 0, by unfold rho0; rw [if_pos hg]⟩
theorem s0_is : seg4507.s0 = [(0, bc 16 (quarterZ.map (V.int .u32)) true)] := by kernel_rfl
theorem rel0 {W : World} (h : laidMetH Tryz.prog Rows.engineNilRow.laid W) : Rel rho0 stZ W := by
  have hq := quarter_is h
  unfold Lib.TabIs World.var? at hq
  rw [gQ] at hq
  have hx : ∃ e fr, W.heap[0]? = some (.cells (quarterZ.map fun z => Value.int .u32 z).toArray e fr) := by
    simp only [Option.bind_some] at hq
    split at hq
    · rename_i cs e fr hh
      cases hq
      exact ⟨e, fr, hh⟩
    · cases hq
  obtain ⟨e, fr, hh⟩ := hx
  refine ⟨fun b k hk => ?_, fun b p hp => ?_, fun b b' k k' p p' hk hk' hp hp' hh => ?_⟩
  · obtain ⟨x, hx, rfl, rfl⟩ := heapOf_get seg4507.s0 _ _ hk
    rw [s0_is, List.mem_singleton] at hx
    subst hx
    refine ⟨⟨0, 0, 16⟩, _, rfl, hh, ?_⟩
    refine .cells _ _ _ _ _ _ fr.1 fr.2 (Nat.le_refl _) (by show 0 + 16 ≤ _; simp [quarterZ]) (fun h => by cases h) ?_ (fun _ => by show 0 < 256; omega)
    intro i v hi hv
    rw [putAll_get] at hv
    split at hv
    · rw [Nat.sub_zero, List.getElem?_map] at hv
      obtain ⟨z, hz, rfl⟩ := Option.map_eq_some_iff.1 hv
      refine ⟨rfl, .int .u32 z, ?_, .int _ _⟩
      show (quarterZ.map fun z => Value.int .u32 z).toArray[0 + i]? = _
      simp [hz]
    · cases hv
  · unfold rho0 at hp
    split at hp
    · assumption
    · cases hp
  · obtain ⟨x, hx, rfl, rfl⟩ := heapOf_get seg4507.s0 _ _ hk
    obtain ⟨y, hy, rfl, rfl⟩ := heapOf_get seg4507.s0 _ _ hk'
    rw [s0_is, List.mem_singleton] at hx hy
    subst hx hy
    rfl
end Go.Proofs.YtceikoofpfcpaaaGreatDoor
