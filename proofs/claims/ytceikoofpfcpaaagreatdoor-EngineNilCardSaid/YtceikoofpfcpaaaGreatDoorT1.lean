/-
  A PART OF THE PROOF OF EngineNil's TIED CARD: the contract of (*disk.Disk).Used at this dump. No condition beyond those that the theorems below bear.
-/
import Derived.Test.YtceikoofpfcpaaaGreatDoorA10
import Derived.Test.YtceikoofpfcpaaaGreatDoorChecked
import Derived.Tactics
import Derived.Tactics2
import Derived.StillTactics
import Derived.Laws.AppendOwn
import Derived.Laws.Runes
import Derived.Laws.CopyRow
import Derived.Laws.Shifts
import Derived.Laws.Rows
import Derived.Laws.BitsLemmas
import Derived.Laws.Tables
import Derived.Laws.NewBlocks
import Derived.Laws.Unary
import Derived.Laws.Strings
import Derived.Laws.NewFold
import Derived.Laws.ShiftsVarLaws
import Derived.Laws.Bits
import Derived.Laws.Alloc2
import Derived.Laws.Bits128
import Derived.Laws.Strings2
import Derived.Laws.Wrap64
import Derived.Laws.ShiftsVar
import Derived.Laws.Closers25
import Derived.Laws.RangeString
import Derived.Laws.Concat
import Derived.Laws.Cells
import Derived.Laws.NewDeep
import Derived.Laws.Pointers
import Derived.Laws.StructEq
import Derived.Laws.Closers25b
import Derived.Laws.StandIn
import Derived.Laws.Bits64b
import Derived.Laws.LoneSync
import Derived.Laws.ByValue
import Derived.Laws.MathBits
import Derived.Laws.Externs
import Derived.Laws.BitsAll
import Derived.Laws.BitsAllLaws
import Derived.Laws.Bits64
import Derived.Laws.OwnMore
import Derived.Laws.Build
import Derived.Laws.ResultCell
import Derived.Laws.Entries
import Derived.Laws.Append
import Derived.Laws.RangeAny
import Derived.Laws.World
import Derived.Laws.Strings3
import Derived.Laws.Sem
import Derived.Laws.Slices
import Derived.Laws.MakeOwn
import Derived.Laws.Small
import Derived.Laws.BytesString
import Derived.Scope
import Derived.FnLit
import Derived.LoopTactic
import Derived.LoopN
import Derived.Laws.IdiomRangeMap
namespace Go.Proofs
open Go Go.Ab
open Go.RowKit (wrap64)

set_option maxHeartbeats 4000000 in
set_option maxRecDepth 1000000 in
theorem Tryz.used_walk (pb off bm : Nat) (es : Array MapEntry) (clock : Nat) (f : MapEntry → Nat) (w : World) (hd : w.cell? ⟨pb, off + 4, none⟩ = some (.map (some bm))) (hb : w.heap[bm]? = some (.map es clock)) (hst1 : ∀ x ∈ es.toList, x.born < clock) (hst2 : (es.toList.map (·.born)).Nodup)
    (hv : ∀ x ∈ es.toList, ∃ fb fo a c, x.val = .pointer (some ⟨fb, fo, none⟩) ∧ w.cell? ⟨fb, fo, none⟩ = some (.slice a (f x) c)) (hle : (es.toList.map f).sum < 2 ^ 62) :
    Calls Tryz.prog 185 #[.pointer (some ⟨pb, off, none⟩)] w fun e w' => e = .returned (.int .i64 ((es.toList.map f).sum : Nat)) ∧ ∃ k seen, w' = ({ w with drawn := k } : World).alloc (.mapIter (some bm) clock seen clock) := by
  have hrg := run_range_map (P := Tryz.prog) w 75 9 82 bm es clock (by kernel_rfl) hb
  go_enter Tryz.func185, Tryz.ntmps185
  go_wp2
  go_loopw [3] (fun s w' => ∃ k seen, w' = ({ w with drawn := k } : World).alloc (.mapIter (some bm) clock seen clock) ∧ s = .int .i64 (seenN f es.toList seen : Nat)) (fun _ w' => (leftOf es (w'.iterSeen w.heap.size)).size)
  case atStart => exact ⟨w.drawn, #[], rfl, by rw [seenN_none]; rfl⟩
  case round =>
    obtain ⟨k, seen, rfl, rfl⟩ := hrel
    have law := run_next_mapT (P := Tryz.prog) ({ w with drawn := k } : World) 0 bm clock clock seen es clock hb hst1 (Nat.le_refl _)
    have hsz : ({ w with drawn := k } : World).heap.size = w.heap.size := rfl
    rw [hsz] at law
    rcases law with ⟨h0, hrun⟩ | ⟨e, he, k2, hrun⟩
    · have hnx : ∀ ty, (Instr.next (.pointer (some ⟨w.heap.size, 0, none⟩)) false ty).run Tryz.prog (({ w with drawn := k } : World).alloc (.mapIter (some bm) clock seen clock)) = _ := fun _ => hrun
      go_wp2
      go_ret
      rw [seenN_full f seen _ (all_seen es seen h0)]
      exact ⟨rfl, k, seen, rfl⟩
    · obtain ⟨fb, fo, sa, sc, hval, hcell⟩ := hv e (mem_left he).1
      rw [hval] at hrun
      have hnx : ∀ ty, (Instr.next (.pointer (some ⟨w.heap.size, 0, none⟩)) false ty).run Tryz.prog (({ w with drawn := k } : World).alloc (.mapIter (some bm) clock seen clock)) = _ := fun _ => hrun
      have hen := run_entry_map (P := Tryz.prog) ({ w with drawn := k2 } : World) bm clock seen es clock e hb (mem_left he).1 hst2
      have hsz2 : ({ w with drawn := k2 } : World).heap.size = w.heap.size := rfl
      rw [hsz2, hval] at hen
      have hcell2 : (({ w with drawn := k2 } : World).alloc (.mapIter (some bm) clock (seen.push e.born) clock)).cell? ⟨fb, fo, none⟩ = some (.slice sa (f e) sc) := by
        rw [← hcell]
        have hfb : fb < w.heap.size := by
          rcases Nat.lt_or_ge fb w.heap.size with h | h
          · exact h
          · simp [World.cell?, Array.getElem?_eq_none h] at hcell
        simp only [World.cell?, World.alloc]
        rw [Array.getElem?_push_lt hfb, Array.getElem?_eq_getElem hfb]
      go_wp2
      refine ⟨⟨k2, seen.push e.born, rfl, ?_⟩, left_shrinks es seen e he⟩
      have h1 := seenN_push f seen e (mem_left he).2 es.toList hst2 (mem_left he).1
      have h2 := seenN_le f (seen.push e.born) es.toList
      rw [h1]
      rw [h1] at h2
      omega
end Go.Proofs
