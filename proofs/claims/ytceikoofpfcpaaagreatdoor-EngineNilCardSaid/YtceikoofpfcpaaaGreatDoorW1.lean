/-
  A PART OF THE PROOF OF EngineNil's TIED CARD: the contract of awake, and the run on a disk that is no store. No condition beyond those that the theorems below bear.
-/
import Derived.Test.YtceikoofpfcpaaaGreatDoorT4
import Derived.KernelRfl
import Derived.Test.YtceikoofpfcpaaaGreatDoorKx445
import Derived.Test.YtceikoofpfcpaaaGreatDoorKx1296
import Derived.Test.YtceikoofpfcpaaaGreatDoorKx1409
import Derived.Test.YtceikoofpfcpaaaGreatDoorKx1977
import Derived.Test.YtceikoofpfcpaaaGreatDoorKx2122
import Derived.Test.YtceikoofpfcpaaaGreatDoorKx2660
import Derived.Test.YtceikoofpfcpaaaGreatDoorKx3131
import Derived.Test.YtceikoofpfcpaaaGreatDoorKx3327
import Derived.Test.YtceikoofpfcpaaaGreatDoorKx3875
import Derived.Test.YtceikoofpfcpaaaGreatDoorKx4339
import Derived.Test.YtceikoofpfcpaaaGreatDoorKx4507
namespace Go.Ab
open Go
set_option maxRecDepth 100000
variable {P : Program} {ρ : Ren} {st st' : St} {w : World}

theorem fsegP_cons {s : FSeg} {l : List FSeg} (h1 : PrimOK P (fsegP [s])) (h2 : PrimOK P (fsegP l)) : PrimOK P (fsegP (s :: l)) := by
  intro call hc f args v st st' h
  have h' : bcase (s.fits f args st) (some (some (s.v, s.after st))) (fsegP l call f args st) = some (some (v, st')) := h
  cases hx : s.fits f args st with
  | false =>
    rw [hx, bcase_false] at h'
    exact h2 call hc f args v st st' h'
  | true =>
    refine h1 call hc f args v st st' ?_
    show bcase (s.fits f args st) (some (some (s.v, s.after st))) none = _
    rw [hx, bcase_true] at h' ⊢
    exact h'
theorem fsegP_nil : PrimOK P (fsegP []) := by
  intro call hc f args v st st' h
  cases h
/-- a segment's run gives its contract. -/
theorem seg_prim {inner : List FSeg} {s : FSeg} (h : PrimOK Go.Proofs.Tryz.prog (fsegP inner)) (hs : s.ok (callA (tabOf Go.Proofs.Tryz.prog) (orP (fsegP inner) primT) 60) = true) : PrimOK Go.Proofs.Tryz.prog (fsegP [s]) :=
  fsegP_ok (calls_ok Go.Proofs.Tryz.tab_ok (orP_ok h Go.Proofs.Tryz.prims_ok) Go.Proofs.Tryz.follows_ok 60) (fun x hx => by rw [List.mem_singleton.1 hx]; exact hs)
theorem p445 : PrimOK Go.Proofs.Tryz.prog (fsegP [seg445]) := seg_prim fsegP_nil seg445_ok
theorem p1296 : PrimOK Go.Proofs.Tryz.prog (fsegP [seg1296]) := seg_prim fsegP_nil seg1296_ok
theorem p1409 : PrimOK Go.Proofs.Tryz.prog (fsegP [seg1409]) := seg_prim p1296 seg1409_ok
theorem p1977 : PrimOK Go.Proofs.Tryz.prog (fsegP [seg1977]) := seg_prim fsegP_nil seg1977_ok
theorem p2122 : PrimOK Go.Proofs.Tryz.prog (fsegP [seg2122]) := seg_prim p1977 seg2122_ok
theorem p2660 : PrimOK Go.Proofs.Tryz.prog (fsegP [seg2660]) := seg_prim fsegP_nil seg2660_ok
theorem p3131 : PrimOK Go.Proofs.Tryz.prog (fsegP [seg3131]) := seg_prim fsegP_nil seg3131_ok
theorem p3327 : PrimOK Go.Proofs.Tryz.prog (fsegP [seg3327]) := seg_prim (fsegP_cons p3131 p2660) seg3327_ok
theorem p3875 : PrimOK Go.Proofs.Tryz.prog (fsegP [seg3875]) := seg_prim fsegP_nil seg3875_ok
theorem p4339 : PrimOK Go.Proofs.Tryz.prog (fsegP [seg4339]) := seg_prim p3875 seg4339_ok
theorem p4507 : PrimOK Go.Proofs.Tryz.prog (fsegP [seg4507]) := seg_prim (fsegP_cons p4339 (fsegP_cons p3327 (fsegP_cons p2122 (fsegP_cons p1409 p445)))) seg4507_ok

/-- a primitive's contract at a function that has a body. -/
theorem func_calls {call : CallF} (hc : CallOK P call) {f : FuncId} {args : List V} {v : V} (hen : Go.Proofs.Enters P f) (h : call (.func f) args st = some (v, st')) (hg : Glob ρ) (hr : Rel ρ st w) {args' : Array Value} (ha : RelL ρ args args'.toList) :
    Calls P f args' w (Post ρ st w v st') := by
  rcases hc.func f args v st st' h ρ w args' hg hr ha with ⟨_, h⟩ | ⟨v', ρ', w', h, _⟩
  · exact h
  · rw [hen args' w] at h; cases h
noncomputable def stZ : St := ⟨heapOf seg4507.s0, 256⟩
noncomputable def stA : St := seg4507.after stZ
noncomputable def callT : CallF := callA (tabOf Go.Proofs.Tryz.prog) primT 60
theorem callT_ok : CallOK Go.Proofs.Tryz.prog callT := Go.Proofs.Tryz.call_ok 60
theorem fits4507 : seg4507.fits 4 [] stZ = true := by kernel_rfl
theorem awake_prim : fsegP [seg4507] callT 4 [] stZ = some (some (.bool true, stA)) := by
  show bcase (seg4507.fits 4 [] stZ) (some (some (seg4507.v, seg4507.after stZ))) none = _
  rw [fits4507]
  rfl
theorem awake_calls (hg : Glob ρ) (hr : Rel ρ stZ w) : Calls Go.Proofs.Tryz.prog 4 #[] w (Post ρ stZ w (.bool true) stA) := by
  rcases p4507 callT callT_ok 4 [] _ _ _ awake_prim ρ w #[] hg hr .nil with ⟨_, h⟩ | ⟨v', ρ', w', h, _⟩
  · exact h
  · rw [Go.Proofs.enters_of Go.Proofs.Tryz.func4 (by kernel_rfl) rfl #[] w] at h; cases h

/-- a call, its answer, and what comes behind. -/
noncomputable def stepR (f : FuncId) (args : List V) (v : V) (st : St) (k : St → Bool) : Bool := ocase (callT (.func f) args st) false fun r => bcase (veqR v r.1) (k r.2) false
theorem stepR_eq {f : FuncId} {args : List V} {v : V} {k : St → Bool} (h : stepR f args v st k = true) : ∃ st', callT (.func f) args st = some (v, st') ∧ k st' = true := by
  unfold stepR at h
  cases hx : callT (.func f) args st with
  | none => rw [hx] at h; cases h
  | some r =>
    rw [hx, ocase_some] at h
    obtain ⟨h1, h2⟩ := and_true' h
    obtain ⟨u, st'⟩ := r
    have e : v = u := veqR_sound h1
    subst e
    exact ⟨st', rfl, h2⟩
noncomputable def dRun : Bool :=
  stepR 8 [vi 100] (.tuple [.ptr 4338 0, vi 0]) stA fun st => stepR 9 [.nilptr] (.tuple [.nilptr, vi 6]) st fun st => stepR 9 [.ptr 4338 0] (.tuple [.nilptr, vi 4]) st fun st =>
    stepR 10 [.ptr 4338 0, .str [97]] (vi 0) st fun st => stepR 11 [.nilptr, vu 0] (vi 6) st fun st => stepR 11 [.ptr 4338 0, vu 0] (vi 7) st fun _ => true
theorem dRun_ok : dRun = true := by kernel_rfl
end Go.Ab
