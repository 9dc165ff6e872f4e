/-
  A PART OF THE PROOF OF EngineNil's TIED CARD: the contract of edit.Read at this dump. No condition beyond those that the theorems below bear.
-/
import Derived.Test.YtceikoofpfcpaaaGreatDoorA10
import Derived.Test.YtceikoofpfcpaaaGreatDoorChecked
import Derived.Tactics
import Derived.Tactics2
import Derived.StillTactics
import Derived.Laws.AppendOwn
import Derived.Laws.Runes
import Derived.Laws.CopyRow
import Derived.Laws.Shifts
import Derived.Laws.Rows
import Derived.Laws.BitsLemmas
import Derived.Laws.Tables
import Derived.Laws.NewBlocks
import Derived.Laws.Unary
import Derived.Laws.Strings
import Derived.Laws.NewFold
import Derived.Laws.ShiftsVarLaws
import Derived.Laws.Bits
import Derived.Laws.Alloc2
import Derived.Laws.Bits128
import Derived.Laws.Strings2
import Derived.Laws.Wrap64
import Derived.Laws.ShiftsVar
import Derived.Laws.Closers25
import Derived.Laws.RangeString
import Derived.Laws.Concat
import Derived.Laws.Cells
import Derived.Laws.NewDeep
import Derived.Laws.Pointers
import Derived.Laws.StructEq
import Derived.Laws.Closers25b
import Derived.Laws.StandIn
import Derived.Laws.Bits64b
import Derived.Laws.LoneSync
import Derived.Laws.ByValue
import Derived.Laws.MathBits
import Derived.Laws.Externs
import Derived.Laws.BitsAll
import Derived.Laws.BitsAllLaws
import Derived.Laws.Bits64
import Derived.Laws.OwnMore
import Derived.Laws.Build
import Derived.Laws.ResultCell
import Derived.Laws.Entries
import Derived.Laws.Append
import Derived.Laws.RangeAny
import Derived.Laws.World
import Derived.Laws.Strings3
import Derived.Laws.Sem
import Derived.Laws.Slices
import Derived.Laws.MakeOwn
import Derived.Laws.Small
import Derived.Laws.BytesString
import Derived.Scope
import Derived.FnLit
import Derived.LoopTactic
import Derived.LoopN
import Derived.Laws.IdiomRangeMap
import Derived.Defers
import Derived.Recover
namespace Go.Proofs
open Go Go.Ab

/-- the deferred closure, where nothing panicked: it turns nothing. -/
theorem Tryz.read_idle (p q : Addr) (w : World) :
    CallsD Tryz.prog 250 #[.pointer (some p), .pointer (some q)] .returning w fun e u' w' => e = .returned (.tuple #[]) ∧ u' = .returning ∧ w' = w := by
  refine callsD_of_wpS Tryz.func250 rfl fun c₀ cs hu => ?_
  apply wpS_seq
  apply wpS_region
  simp [wpOpsS, go_sem, recoverD, hu, Tryz.ntmps250, Exit.thenS]
  have hnil : ∀ w : World, (binOp BinOp.eql 20 .nilIface .nilIface).run Tryz.prog w = .ok (.bool true) w := fun _ => by kernel_rfl
  refine wpS_of_wp ?_
  go_wp2
  cases c₀
  simp_all [bodyPostS, results, Tryz.results250]

set_option maxHeartbeats 4000000 in
set_option maxRecDepth 1000000 in
theorem Tryz.read_walk (pa : Option Addr) (pl pc : Nat) (w : World) (R : Value → World → Prop)
    (hw : Calls Tryz.prog 251 #[.pointer (some ⟨w.heap.size + 2, 0, none⟩)] (((w.alloc (.cells #[.int .u64 0, .int .u64 0, .int .u64 0, .slice none 0 0, .slice none 0 0] 93)).alloc (.cells #[.int .i64 0] 32)).alloc (.cells #[.slice pa pl pc] 329)) fun e W' =>
      ∃ n0 n1 n2 a3 l3 c3 a4 l4 c4, e = .returned (.agg #[.int .u64 n0, .int .u64 n1, .int .u64 n2, .slice a3 l3 c3, .slice a4 l4 c4]) ∧ Ecells W' w.heap.size ∧
        R (.agg #[.int .u64 n0, .int .u64 n1, .int .u64 n2, .slice a3 l3 c3, .slice a4 l4 c4])
          ((((((W'.setCell ⟨w.heap.size, 0, none⟩ (.int .u64 n0)).setCell ⟨w.heap.size, 1, none⟩ (.int .u64 n1)).setCell ⟨w.heap.size, 2, none⟩ (.int .u64 n2)).setCell ⟨w.heap.size, 3, none⟩ (.slice a3 l3 c3)).setCell ⟨w.heap.size, 4, none⟩ (.slice a4 l4 c4)).setCell
            ⟨w.heap.size + 1, 0, none⟩ (.int .i64 0))) :
    Calls Tryz.prog 168 #[.slice pa pl pc] w fun e w' => ∃ v', e = .returned (.tuple #[v', .int .i64 0]) ∧ R v' w' := by
  have hmf : ∀ (fn : Fn) (first cap : Array Value) (w : World), (Instr.makeFunc fn first cap).run Tryz.prog w = .ok (.func fn first cap) w := fun _ _ _ _ => rfl
  go_enter_defers Tryz.func168, Tryz.ntmps168
  go_wp2_with (go_at_call 251; refine hw.mono ?_; rintro e W' ⟨n0, n1, n2, a3, l3, c3, a4, l4, c4, rfl, ⟨k0, k1, k2, k3, k4, k5, f0, f1, f2, f3, f4, f5⟩, hR⟩)
  refine leaves_cons (f := 250) (args := #[.pointer (some ⟨w.heap.size, 0, none⟩), .pointer (some ⟨w.heap.size + 1, 0, none⟩)]) (by simp) (by simp [go_sem]) ?_
  refine (Tryz.read_idle ⟨w.heap.size, 0, none⟩ ⟨w.heap.size + 1, 0, none⟩ _).mono ?_
  rintro e u' w'' ⟨rfl, rfl, rfl⟩
  simp [Leaves, settle, results, Tryz.results168, go_sem, World.cell?_setCell_same', World.cell?_setCell_other, k0, k1, k2, k3, k4, k5]
  exact hR
end Go.Proofs
