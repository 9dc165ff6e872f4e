/-
  A PART OF THE PROOF OF EngineNil's TIED CARD: the arguments of EngineNil, opened. No condition beyond those that the theorems below bear.
-/
import Derived.Test.YtceikoofpfcpaaaGreatDoorW2
import Derived.Test.YtceikoofpfcpaaaGreatDoorW4
import Derived.Carry
import Derived.Deep.Strs
import Derived.Deep.Slices
import Derived.LaidMore
import Derived.OpenShut
import Derived.Stop.Joined
import Derived.ProofKit
namespace Go.Proofs.YtceikoofpfcpaaaGreatDoor
open Go Go.Ab Go.ChangeShapes Go.WideShapes Go.ChangeAt Go.WideElems Go.RowKit Go.Deep
set_option maxRecDepth 100000

theorem own : ownKnob Tryz.prog.godebug = none := by kernel_rfl
theorem laidOut : laidOutB Tryz.prog = true := by kernel_rfl
theorem cells5 : Tryz.prog.cellsOf 5 = 1 := by kernel_rfl
theorem cells22 : Tryz.prog.cellsOf 22 = 1 := by kernel_rfl
theorem cells55 : Tryz.prog.cellsOf 55 = 3 := by kernel_rfl

/-- nothing that stood in the start's memory may be written by the evaluator's state. -/
theorem own0 (i : Nat) : ¬ Own rho0 stZ i := by
  rintro ⟨b, k, p, h1, h2, _, _⟩
  obtain ⟨x, hx, rfl, rfl⟩ := heapOf_get seg4507.s0 _ _ h1
  rw [s0_is, List.mem_singleton] at hx
  subst hx
  cases h2

section
variable {H : Type} {enc : TypeId × Value → H} {W : World} {base : Nat} {sp : Nat → Bool} {held : Bool} {fuel : Nat} {x : DataW H × List MemPlace}

/-- a slice of bytes that is read has cells. -/
theorem bytes_of {v : Value} (h : DataW.trod enc Tryz.prog W base sp held fuel 22 [v] = some x) (hsp : ∀ b, sp b = true) : ByteSl W v := by
  rcases open_ints Tryz.underlying22 Tryz.underlying5 cells5 h with ⟨hcs, _⟩ | ⟨a, len, cap, zs, hcs, _, hl, hm, hz, _, hcell, _⟩
  · simp at hcs; exact .inl hcs
  · simp at hcs
    subst hcs
    rw [hsp, if_pos rfl] at hz
    exact .inr ⟨a, len, cap, rfl, hl, fun j hj => ⟨_, hcell j (by omega)⟩⟩

/-- a cell's address, written out. -/
theorem spot_none {a : Addr} {v : Value} (h : W.cell? a = some v) : a = ⟨a.block, a.off, none⟩ := by
  unfold World.cell? at h
  obtain ⟨b, o, s⟩ := a
  cases s with
  | none => rfl
  | some y => split at h <;> simp at h
theorem add_off (a : Addr) (hs : a.spot = none) (j : Nat) : a.add j = ⟨a.block, a.off + j, none⟩ := by
  obtain ⟨b, o, s⟩ := a
  cases hs
  unfold Addr.add
  split <;> simp_all
theorem add_spot {a : Addr} {j : Nat} {v : Value} (h : W.cell? (a.add j) = some v) : j = 0 → a.spot = none := by
  rintro rfl
  have := spot_none h
  have e : a.add 0 = a := by unfold Addr.add; simp
  rw [e] at this
  rw [this]

/-- a slice of ops that is read has cells. -/
theorem ops_of {v : Value} (h : DataW.trod enc Tryz.prog W base sp held fuel 23 [v] = some x) (hsp : ∀ b, sp b = true) : OpsSl W v := by
  rcases open_slice Tryz.underlying23 h with ⟨hcs, _⟩ | ⟨a, len, cap, m, n, D, Pl, hcs, _, hl, hm, hmm, _, hel⟩
  · simp at hcs
    exact ⟨none, 0, 0, 0, 0, fun _ => 0, fun _ => none, fun _ => none, fun _ => 0, fun _ => 0, fun _ => 0, fun _ => 0, hcs, fun h => absurd h (Nat.lt_irrefl _), Nat.le_refl _, Nat.zero_le _, by simp, by simp, by simp, by simp, by simp⟩
  · simp at hcs
    subst hcs
    rw [hsp, if_pos rfl] at hmm
    rw [cells55] at hel
    have each : ∀ i, i < len → ∃ q : Int × (Option Addr × Nat × Nat) × (Option Addr × Nat × Nat), W.cell? (a.add (i * 3)) = some (.int .u8 q.1) ∧ W.cell? (a.add (i * 3 + 1)) = some (.slice q.2.1.1 q.2.1.2.1 q.2.1.2.2) ∧
        W.cell? (a.add (i * 3 + 2)) = some (.slice q.2.2.1 q.2.2.2.1 q.2.2.2.2) ∧ ByteSl W (.slice q.2.1.1 q.2.1.2.1 q.2.1.2.2) ∧ ByteSl W (.slice q.2.2.1 q.2.2.2.1 q.2.2.2.2) := by
      intro i hi
      obtain ⟨cs', h1, h2⟩ := hel i (by omega)
      obtain ⟨_, hlen, hat⟩ := World.cells?_some h1
      obtain ⟨y0, y1, y2, n', _, _, t0, t1, t2⟩ := trod_struct3 Tryz.underlying55 h2
      match cs', hlen with
      | [c0, c1, c2], _ =>
        simp only [cells5, cells22, List.drop_zero, List.take_succ_cons, List.take_zero, List.drop_succ_cons] at t0 t1 t2
        obtain ⟨z, hz, _⟩ := DataW.trod_int Tryz.underlying5 t0
        simp at hz
        have b1 := bytes_of t1 hsp
        have b2 := bytes_of t2 hsp
        have e0 := hat 0 (by omega)
        have e1 := hat 1 (by omega)
        have e2 := hat 2 (by omega)
        rw [add_add] at e0 e1 e2
        simp only [Nat.add_zero, List.getElem?_cons_zero, List.getElem?_cons_succ] at e0 e1 e2
        have sl : ∀ {v : Value}, ByteSl W v → ∃ q : Option Addr × Nat × Nat, v = .slice q.1 q.2.1 q.2.2 := by
          rintro v (rfl | ⟨ad, l, c, rfl, _⟩)
          · exact ⟨(none, 0, 0), rfl⟩
          · exact ⟨(some ad, l, c), rfl⟩
        obtain ⟨q1, rfl⟩ := sl b1
        obtain ⟨q2, rfl⟩ := sl b2
        subst hz
        exact ⟨(z, q1, q2), e0, e1, e2, b1, b2⟩
    obtain ⟨f, hf⟩ := choose_lt each
    have hspot : 0 < len → a.spot = none := fun h0 => add_spot (hf 0 h0).1 (by omega)
    refine ⟨some a, a.block, a.off, len, cap, fun i => (f i).1, fun i => (f i).2.1.1, fun i => (f i).2.2.1, fun i => (f i).2.1.2.1, fun i => (f i).2.1.2.2, fun i => (f i).2.2.2.1, fun i => (f i).2.2.2.2, rfl, fun h0 => ?_, hl, hm,
      fun i hi => ?_, fun i hi => ?_, fun i hi => ?_, fun i hi => (hf i hi).2.2.2.1, fun i hi => (hf i hi).2.2.2.2⟩
    · have := hspot h0
      obtain ⟨b, o, s⟩ := a
      cases this
      rfl
    · have := (hf i hi).1
      rwa [add_off a (hspot (by omega))] at this
    · have := (hf i hi).2.1
      rwa [add_off a (hspot (by omega))] at this
    · have := (hf i hi).2.2.1
      rwa [add_off a (hspot (by omega))] at this
end
end Go.Proofs.YtceikoofpfcpaaaGreatDoor
