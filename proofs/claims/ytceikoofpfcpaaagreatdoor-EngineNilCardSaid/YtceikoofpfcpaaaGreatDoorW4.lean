/-
  A PART OF THE PROOF OF EngineNil's TIED CARD: EngineNil's walk: it returns true, and what lay before is as it was. No condition beyond those that the theorems below bear.
-/
import Derived.Test.YtceikoofpfcpaaaGreatDoorW1
import Derived.Test.YtceikoofpfcpaaaGreatDoorV
import Derived.Below
namespace Go.Proofs
open Go Go.Ab Go.RowKit
set_option maxHeartbeats 1000000
set_option maxRecDepth 1000000

/-- a state of the evaluator that describes the world; what lay before W0's end is as it was, and will be. -/
structure DSt (W0 : World) (st : St) (ρ : Ren) (W : World) : Prop where
  rel : Rel ρ st W
  glob : Glob ρ
  bel : Below W0.heap.size W0 W
  own : ∀ i, i < W0.heap.size → ¬ Own ρ st i
theorem DSt.step {W0 W W' : World} {st st' : St} {ρ ρ' : Ren} (h : DSt W0 st ρ W) (hr : Rel ρ' st' W') (he : Ext ρ st W ρ' st' W') : DSt W0 st' ρ' W' :=
  ⟨hr, h.glob.mono he.ren, h.bel.trans ⟨he.os, he.tape, he.output, he.size, fun i hi => (he.keep i (Nat.lt_of_lt_of_le hi h.bel.size) (h.own i hi)).1⟩,
    fun i hi => (he.keep i (Nat.lt_of_lt_of_le hi h.bel.size) (h.own i hi)).2⟩
theorem DSt.below {W0 W W' : World} {st : St} {ρ : Ren} (h : DSt W0 st ρ W) (hb : Below W.heap.size W W') : DSt W0 st ρ W' :=
  h.step (h.rel.below hb).1 (h.rel.below hb).2
theorem dcall {W0 W : World} {st st' : St} {ρ : Ren} {f : FuncId} {args : List V} {v : V} (hc : callT (.func f) args st = some (v, st')) (hen : Enters Tryz.prog f) (hd : DSt W0 st ρ W) {args' : Array Value} (ha : RelL ρ args args'.toList) :
    Calls Tryz.prog f args' W fun e W' => ∃ v' ρ', e = .returned v' ∧ DSt W0 st' ρ' W' ∧ ρ.le ρ' ∧ RelV ρ' v v' := by
  refine (func_calls callT_ok hen hc hd.glob hd.rel ha).mono ?_
  rintro e W' ⟨v', ρ', rfl, h1, h2, h3⟩
  exact ⟨v', ρ', rfl, hd.step h1 h2, h2.ren, h3⟩
theorem tuple2 {ρ : Ren} {a b : V} {v' : Value} (h : RelV ρ (.tuple [a, b]) v') : ∃ x y, v' = .tuple #[x, y] ∧ RelV ρ a x ∧ RelV ρ b y := by
  cases h with
  | tuple c c' h =>
    obtain ⟨l⟩ := c'
    cases h with
    | cons _ x _ _ hx hl => cases hl with
      | cons _ y _ _ hy hl => cases hl; exact ⟨x, y, rfl, hx, hy⟩
theorem ptr1 {ρ : Ren} {b : Nat} {v' : Value} (h : RelV ρ (.ptr b 0) v') : ∃ p, ρ b = some p ∧ v' = .pointer (some ⟨p.blk, p.base + 0, none⟩) := by
  cases h with
  | ptr _ _ p h => exact ⟨p, h, rfl⟩
theorem int1 {ρ : Ren} {k : IntKind} {n : Int} {v' : Value} (h : RelV ρ (.int k n) v') : v' = .int k n := by
  cases h; rfl
theorem nilptr1 {ρ : Ren} {v' : Value} (h : RelV ρ .nilptr v') : v' = .pointer none := by
  cases h; rfl
theorem bool1 {ρ : Ren} {b : Bool} {v' : Value} (h : RelV ρ (.bool b) v') : v' = .bool b := by
  cases h; rfl
theorem ofptr {ρ : Ren} {b : Nat} {p : Pl} (h : ρ b = some p) : RelV ρ (.ptr b 0) (.pointer (some ⟨p.blk, p.base + 0, none⟩)) := .ptr b 0 p h

/-- a slice of ops, whose cells can be read. -/
def OpsSl (W : World) (v : Value) : Prop :=
  ∃ (ao : Option Addr) (lb lo n cap : Nat) (kd : Nat → Int) (ka va : Nat → Option Addr) (kl kc vl vc : Nat → Nat), v = .slice ao n cap ∧ (0 < n → ao = some ⟨lb, lo, none⟩) ∧ n ≤ cap ∧ cap ≤ maxLen ∧
    (∀ i, i < n → W.cell? ⟨lb, lo + i * 3, none⟩ = some (.int .u8 (kd i))) ∧ (∀ i, i < n → W.cell? ⟨lb, lo + i * 3 + 1, none⟩ = some (.slice (ka i) (kl i) (kc i))) ∧
    (∀ i, i < n → W.cell? ⟨lb, lo + i * 3 + 2, none⟩ = some (.slice (va i) (vl i) (vc i))) ∧
    (∀ i, i < n → ByteSl W (.slice (ka i) (kl i) (kc i))) ∧ (∀ i, i < n → ByteSl W (.slice (va i) (vl i) (vc i)))
theorem OpsSl.later {W W' : World} {v : Value} (h : OpsSl W v) (hb : Below W.heap.size W W') : OpsSl W' v := by
  obtain ⟨ao, lb, lo, n, cap, kd, ka, va, kl, kc, vl, vc, h0, h1, h2, h3, h4, h5, h6, h7, h8⟩ := h
  refine ⟨ao, lb, lo, n, cap, kd, ka, va, kl, kc, vl, vc, h0, h1, h2, h3, fun i hi => ?_, fun i hi => ?_, fun i hi => ?_, fun i hi => (h7 i hi).later hb, fun i hi => (h8 i hi).later hb⟩
  · rw [hb.cell (p := ⟨lb, lo + i * 3, none⟩) (cell_lt (h4 i hi))]; exact h4 i hi
  · rw [hb.cell (p := ⟨lb, lo + i * 3 + 1, none⟩) (cell_lt (h5 i hi))]; exact h5 i hi
  · rw [hb.cell (p := ⟨lb, lo + i * 3 + 2, none⟩) (cell_lt (h6 i hi))]; exact h6 i hi
theorem Tryz.few_any {W : World} {v : Value} (h : OpsSl W v) : Calls Tryz.prog 6 #[v, .int .i64 10] W fun e W' => (∃ o l c, e = .returned (.slice o l c) ∧ l ≤ c) ∧ Below W.heap.size W W' := by
  obtain ⟨ao, lb, lo, n, cap, kd, ka, va, kl, kc, vl, vc, rfl, h1, h2, h3, h4, h5, h6, h7, h8⟩ := h
  exact Tryz.few_walk ao lb lo n cap h1 h2 h3 W kd ka va kl kc vl vc h4 h5 h6 h7 h8

theorem Tryz.en8 : Enters Tryz.prog 8 := enters_of Tryz.func8 (by kernel_rfl) rfl
theorem Tryz.en9 : Enters Tryz.prog 9 := enters_of Tryz.func9 (by kernel_rfl) rfl
theorem Tryz.en10 : Enters Tryz.prog 10 := enters_of Tryz.func10 (by kernel_rfl) rfl
theorem Tryz.en11 : Enters Tryz.prog 11 := enters_of Tryz.func11 (by kernel_rfl) rfl
theorem str_a {ρ : Ren} : RelV ρ (.str [97]) (.string ⟨#[97]⟩) := .str [97]

theorem dRun_parts : ∃ s1 s2 s3 s4 s5 s6, Hid (callT (.func 8) [vi 100] stA = some (.tuple [.ptr 4338 0, vi 0], s1)) ∧ Hid (callT (.func 9) [.nilptr] s1 = some (.tuple [.nilptr, vi 6], s2)) ∧
    Hid (callT (.func 9) [.ptr 4338 0] s2 = some (.tuple [.nilptr, vi 4], s3)) ∧ Hid (callT (.func 10) [.ptr 4338 0, .str [97]] s3 = some (vi 0, s4)) ∧
    Hid (callT (.func 11) [.nilptr, vu 0] s4 = some (vi 6, s5)) ∧ Hid (callT (.func 11) [.ptr 4338 0, vu 0] s5 = some (vi 7, s6)) := by
  obtain ⟨s1, c1, h1⟩ := stepR_eq dRun_ok
  obtain ⟨s2, c2, h2⟩ := stepR_eq h1
  obtain ⟨s3, c3, h3⟩ := stepR_eq h2
  obtain ⟨s4, c4, h4⟩ := stepR_eq h3
  obtain ⟨s5, c5, h5⟩ := stepR_eq h4
  obtain ⟨s6, c6, _⟩ := stepR_eq h5
  exact ⟨s1, s2, s3, s4, s5, s6, c1, c2, c3, c4, c5, c6⟩

theorem Tryz.nil_walk (kv lv : Value) (W : World) (ρ : Ren) (hg : Glob ρ) (hr : Rel ρ stZ W) (ho : ∀ i, i < W.heap.size → ¬ Own ρ stZ i) (hk : ByteSl W kv) (hl : OpsSl W lv) :
    Calls Tryz.prog 3 #[kv, lv] W fun e W' => e = .returned (.bool true) ∧ Below W.heap.size W W' := by
  have d0 : DSt W stZ ρ W := ⟨hr, hg, Below.refl _ _, ho⟩
  obtain ⟨s1, s2, s3, s4, s5, s6, c1, c2, c3, c4, c5, c6⟩ := dRun_parts
  go_enter Tryz.func3, Tryz.ntmps3
  go_wp2_with (first
    | (go_at_call 4; refine (awake_calls hg hr).mono ?_; rintro e W1 ⟨v', ρ1, rfl, r1, x1, hv⟩; obtain rfl := bool1 hv; have d1 := d0.step r1 x1)
    | (go_at_call 5; refine (Tryz.cut_any kv 80 (by omega) _ (hk.later d1.bel)).mono ?_; rintro e W2 ⟨⟨o1, l1, q1, rfl, _⟩, b2⟩; have d2 := d1.below b2)
    | (go_at_call 6; refine (Tryz.few_any (hl.later d2.bel)).mono ?_; rintro e W3 ⟨⟨o2, l2, q2, rfl, _⟩, b3⟩; have d3 := d2.below b3)
    | (go_at_call 8; refine (dcall c1.out Tryz.en8 d3 (.cons _ _ _ _ (.int .i64 100) .nil)).mono ?_; rintro e W4 ⟨v', ρ4, rfl, d4, le4, hv4⟩; obtain ⟨x4, y4, rfl, hx4, hy4⟩ := tuple2 hv4; obtain ⟨p4, hp4, rfl⟩ := ptr1 hx4; obtain rfl := int1 hy4)
    | (go_at_call_has 9 (Value.pointer none); refine (dcall c2.out Tryz.en9 d4 (.cons _ _ _ _ .nilptr .nil)).mono ?_; rintro e W5 ⟨v', ρ5, rfl, d5, le5, hv5⟩; obtain ⟨x5, y5, rfl, hx5, hy5⟩ := tuple2 hv5; obtain rfl := nilptr1 hx5; obtain rfl := int1 hy5)
    | (go_at_call 9; refine (dcall c3.out Tryz.en9 d5 (.cons _ _ _ _ (ofptr (le5 _ _ hp4)) .nil)).mono ?_; rintro e W6 ⟨v', ρ6, rfl, d6, le6, hv6⟩; obtain ⟨x6, y6, rfl, hx6, hy6⟩ := tuple2 hv6; obtain rfl := nilptr1 hx6; obtain rfl := int1 hy6)
    | (go_at_call 10; refine (dcall c4.out Tryz.en10 d6 (.cons _ _ _ _ (ofptr (le6 _ _ (le5 _ _ hp4))) (.cons _ _ _ _ str_a .nil))).mono ?_; rintro e W7 ⟨v', ρ7, rfl, d7, le7, hv7⟩; obtain rfl := int1 hv7)
    | (go_at_call_has 11 (Value.pointer none); refine (dcall c5.out Tryz.en11 d7 (.cons _ _ _ _ .nilptr (.cons _ _ _ _ (.int .u64 0) .nil))).mono ?_; rintro e W8 ⟨v', ρ8, rfl, d8, le8, hv8⟩; obtain rfl := int1 hv8)
    | (go_at_call 11; refine (dcall c6.out Tryz.en11 d8 (.cons _ _ _ _ (ofptr (le8 _ _ (le7 _ _ (le6 _ _ (le5 _ _ hp4))))) (.cons _ _ _ _ (.int .u64 0) .nil))).mono ?_; rintro e W9 ⟨v', ρ9, rfl, d9, le9, hv9⟩; obtain rfl := int1 hv9)
    | (go_at_call 7; refine (Tryz.nil7 _ _ _).mono ?_; rintro e W' ⟨rfl, rfl⟩)
    | (go_at_call 12; refine (Tryz.nil12 _ _ _).mono ?_; rintro e W' ⟨rfl, rfl⟩)
    | (go_at_call 13; refine (Tryz.nil13 _ _ _).mono ?_; rintro e W' ⟨rfl, rfl⟩)
    | (go_at_call 14; refine (Tryz.nil14 _ _).mono ?_; rintro e W' ⟨rfl, rfl⟩)
    | (go_at_call 15; refine (Tryz.nil15 _ _).mono ?_; rintro e W' ⟨rfl, rfl⟩)
    | (go_at_call 16; refine (Tryz.nil16 _).mono ?_; rintro e W' ⟨rfl, rfl⟩)
    | (go_at_call 17; refine (Tryz.nil17 _ _ _ _ _ _).mono ?_; rintro e W' ⟨rfl, rfl⟩)
    | (go_at_call 18; refine (Tryz.nil18 _).mono ?_; rintro e W' ⟨rfl, rfl⟩)
    | (go_at_call 19; refine (Tryz.nil19 _).mono ?_; rintro e W' ⟨rfl, rfl⟩)
    | (go_at_call 20; refine (Tryz.nil20 _ _).mono ?_; rintro e W' ⟨rfl, rfl⟩)
    | (go_at_call 21; refine (Tryz.nil21 _).mono ?_; rintro e W' ⟨rfl, rfl⟩)
    | (go_at_call 22; refine (Tryz.nil22 _ _).mono ?_; rintro e W' ⟨rfl, rfl⟩)
    | (go_at_call 23; refine (Tryz.nil23 _ _).mono ?_; rintro e W' ⟨rfl, rfl⟩)
    | (go_at_call 24; refine (Tryz.nil24 _).mono ?_; rintro e W' ⟨rfl, rfl⟩)
    | (go_at_call 25; refine (Tryz.nil25 _).mono ?_; rintro e W' ⟨rfl, rfl⟩))
  go_ret
  exact ⟨rfl, d9.bel⟩
end Go.Proofs
