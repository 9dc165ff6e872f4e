/-
  A PART OF THE PROOF OF EngineNil's TIED CARD: that the evaluator's further operations (loops, ranges, builtins) answer as the model's do. No condition beyond those that the theorems below bear.
-/
import Derived.Test.YtceikoofpfcpaaaGreatDoorA4
import Derived.Test.YtceikoofpfcpaaaGreatDoorA5
import Derived.Laws.Tables
import Derived.Laws.BytesString
import Derived.Laws.NewFold
namespace Go.Ab
open Go
variable {P : Program} {ρ : Ren} {st st' : St} {w : World} {tb : Tab}

/-! Making. -/
theorem lrep_eq (k : Nat) (z : List V) : lrep k z = (List.replicate k z).flatten := by
  induction k with
  | zero => rfl
  | succ k ih => show app z (lrep k z) = _; rw [app_eq, ih, List.replicate_succ, List.flatten_cons]
theorem lrep_len (k : Nat) (z : List V) : (lrep k z).length = k * z.length := by rw [lrep_eq]; simp
theorem lrep_sc {k : Nat} {z : List V} (h : ∀ v ∈ z, v.scalar = true) : ∀ v ∈ lrep k z, v.scalar = true := by
  intro v hv
  rw [lrep_eq] at hv
  obtain ⟨l, hl, hv⟩ := List.mem_flatten.1 hv
  rw [List.mem_replicate] at hl
  exact h v (hl.2 ▸ hv)
theorem lrep_get (k : Nat) (z : List V) (i : Nat) (h : i < k * z.length) : (lrep k z)[i]? = z[i % z.length]? := by
  induction k generalizing i with
  | zero => simp at h
  | succ k ih =>
    have h1 : lrep (k + 1) z = z ++ lrep k z := by show app z (lrep k z) = _; rw [app_eq]
    rw [h1]
    by_cases hlt : i < z.length
    · rw [List.getElem?_append_left hlt, Nat.mod_eq_of_lt hlt]
    · rw [List.getElem?_append_right (by omega), ih _ (by rw [Nat.add_mul] at h; omega)]
      congr 1
      exact (Nat.mod_eq_sub_mod (by omega)).symm

/-- so many zero elements, as the model lays them. -/
theorem lrep_rel {ρ : Ren} {z : List V} {z' : Array Value} (k : Nat) (h : RelL ρ z z'.toList) : RelL ρ (lrep k z) ((Array.range (k * z'.size)).map fun i => z'[i % z'.size]!).toList := by
  have hl := h.length
  simp at hl
  refine RelL.mk (by simp [lrep_len, hl]) ?_
  intro i v v' hv hv'
  have hi : i < k * z.length := by
    have := (List.getElem?_eq_some_iff.1 hv).1
    rwa [lrep_len] at this
  rw [lrep_get _ _ _ hi] at hv
  obtain ⟨u, hu, hr⟩ := h.get hv
  rw [hl] at hu
  simp only [Array.toList_map, Array.toList_range, List.getElem?_map] at hv'
  rw [List.getElem?_range (by rw [← hl]; exact hi)] at hv'
  simp only [Option.map_some, Option.some.injEq] at hv'
  rw [← hv']
  have hu' : z'[i % z'.size]? = some u := by simpa using hu
  have hlt := (Array.getElem?_eq_some_iff.1 hu').1
  rw [getElem!_pos z' _ hlt]
  rw [(Array.getElem?_eq_some_iff.1 hu').2]
  exact hr

theorem zeroCells_rel {ρ : Ren} {z : List V} {z' : Array Value} (k : Nat) (h : RelL ρ z z'.toList) : RelL ρ (lrep k z) (Builtin.zeroCells z' k).toList := lrep_rel k h

theorem makeMap_sound (h : Rel ρ st w) {t : TypeId} {r : Option Operand} {fr : T V} {ev : Operand → Value} (hf : Fits ρ fr ev) (ht : TabOK P tb) {v : V} (h0 : oMakeMap tb fr st t r = some (v, st')) :
    Comes1 P ρ st w (Instr.makeMap t (r.map ev)) v st' := by
  obtain ⟨_, hr, h1⟩ := ob_eq h0
  obtain ⟨b, st1, h2, h3⟩ := ob2_eq h1
  cases h3
  obtain ⟨rfl, rfl⟩ := newBlk_eq h2
  obtain ⟨g1, g2⟩ := h.new (k := .map 0 []) (o := .map #[] 0) 0 (.map _ _ _ _ .nil)
  refine ⟨_, _, .map (some w.heap.size), ?_, g1, g2, RelV.map _ ⟨w.heap.size, 0, 0⟩ (Ren.set_self _ _ _)⟩
  cases r with
  | none => simp [Instr.makeMap]
  | some x =>
    obtain ⟨rm, hrm, h4⟩ := ob_eq (o := row tb t) hr
    obtain ⟨⟨k, e⟩, hk, h5⟩ := ob_eq h4
    obtain ⟨u, hu, h6⟩ := ob_eq (o := opd fr x) h5
    obtain ⟨n, hn, _⟩ := ob_eq h6
    obtain ⟨q, hq⟩ := natOf_sound hn (hf.opd x u hu)
    obtain ⟨i, z, _, _, g3, _⟩ := (row_ok ht hrm).ex
    have hd : rm.desc = .map k e := by
      unfold elemMap at hk
      split at hk
      · cases hk; assumption
      · cases hk
    rw [hd] at g3
    simp [Instr.makeMap, run_underlying g3, hq, asInt, asIntOf]

theorem makeSlice_sound (h : Rel ρ st w) (ht : TabOK P tb) {fr : T V} {ev : Operand → Value} (hf : Fits ρ fr ev) {t : TypeId} {l c : Operand} {v : V} (h0 : oMakeSlice tb fr st t l c = some (v, st')) :
    Comes1 P ρ st w (Instr.makeSlice t (ev l) (ev c)) v st' := by
  obtain ⟨re, hre, h1⟩ := ob_eq h0
  obtain ⟨lv, hlv, h2⟩ := ob_eq (o := opd fr l) h1
  obtain ⟨cv, hcv, h3⟩ := ob_eq (o := opd fr c) h2
  obtain ⟨n, hn, h4⟩ := ob_eq h3
  obtain ⟨m, hm, h5⟩ := ob_eq h4
  obtain ⟨g1, h6⟩ := gd_eq h5
  obtain ⟨g2, h7⟩ := gd_eq h6
  obtain ⟨g3, h8⟩ := gd_eq h7
  obtain ⟨b, st1, h9, h10⟩ := ob2_eq h8
  cases h10
  obtain ⟨k1, hk1⟩ := natOf_sound hn (hf.opd l lv hlv)
  obtain ⟨k2, hk2⟩ := natOf_sound hm (hf.opd c cv hcv)
  obtain ⟨e, hu, hro⟩ := slElem_eq ht hre
  obtain ⟨z, hz, _, hz2, hzs, hzl⟩ := hro.zero ρ w
  obtain ⟨i, hi, hsz, hby⟩ := hro.info
  have g1' := ble_true g1
  have g2' := ble_true g2
  have g3' := ble_true g3
  have hzsz : z.cells.size = re.size := by have := hz2.length; simp at this; omega
  have hrel : RelL ρ (lrep m re.zero) ((Array.range (m * z.cells.size)).map fun i => z.cells[i % z.cells.size]!).toList := lrep_rel m hz2
  obtain ⟨ρ', w', r1, r2, r3, r4⟩ := newRow_all (P := P) h e h9 hrel (lrep_sc hzs)
  have wn : IntKind.i64.wrap (n : Int) = n := i64_in' _ (by omega) (by omega)
  have wm : IntKind.i64.wrap (m : Int) = m := i64_in' _ (by omega) (by omega)
  refine ⟨ρ', w', .slice (some ⟨w.heap.size, 0, none⟩) n m, ?_, r3, r4, ?_⟩
  · have hb : ¬ ((281474976710656 : Int) < (i.bytes : Int) * (m : Int)) := by
      simp only [Nat.mul_eq] at g2'
      rw [hby] at g2'
      have h4 : ((m * i.bytes : Nat) : Int) ≤ 281474976710656 := by omega
      rw [Int.natCast_mul, Int.mul_comm] at h4
      omega
    have hnl : ¬ ((m : Int) < (n : Int)) := by omega
    have hn0 : ¬ ((n : Int) < 0) := by omega
    have hm0 : ¬ ((m : Int) < 0) := by omega
    rw [hk1, hk2]
    have hcat : ((m : Int)).toNat = m := by simp
    by_cases hz0 : m * re.size = 0
    · have r1' : (newRow e #[]).run P w = .ok ⟨w.heap.size, 0, none⟩ w' := by
        have : ((Array.range (m * z.cells.size)).map fun i => z.cells[i % z.cells.size]!) = #[] := by rw [hzsz, hz0]; simp
        rw [this] at r1; exact r1
      have hr0 : ∀ f : Nat → Value, Array.map f (Array.range 0) = #[] := fun f => by apply Array.ext'; simp
      simp [Instr.makeSlice, run_underlying hu, asInt, asIntOf, info_run hi, wn, wm, hb, hnl, hn0, hm0, hro.sizeOf, hz0, hr0, r1']
    · rw [hzsz] at r1
      simp [Instr.makeSlice, run_underlying hu, asInt, asIntOf, info_run hi, wn, wm, hb, hnl, hn0, hm0, hro.sizeOf, hz0, hz, hzsz, r1]
  · have : ((Array.range (m * z.cells.size)).map fun i => z.cells[i % z.cells.size]!).size = m * re.size := by simp [hzsz]
    exact RelV.sl b 0 n m true re.size ⟨w.heap.size, 0, _⟩ m r2 (Nat.le_refl _) (fun _ => rfl) g1' (by rw [this]; show 0 + m * re.size ≤ m * re.size; omega)

end Go.Ab

namespace Go.Ab
open Go
variable {P : Program} {ρ : Ren} {st st' : St} {w : World} {tb : Tab}

theorem lset_eq {α : Type} : ∀ (l : List α) (k : Nat) (ys r : List α), ys ≠ [] → lset l k ys = some r → k + ys.length ≤ l.length ∧ r.length = l.length ∧ ∀ i, r[i]? = if k ≤ i ∧ i < k + ys.length then ys[i - k]? else l[i]? := by
  intro l
  induction l with
  | nil => intro k ys r hn h; cases ys with
    | nil => exact absurd rfl hn
    | cons y ys => cases h
  | cons x l ih =>
    intro k ys r hn h
    cases ys with
    | nil => exact absurd rfl hn
    | cons y ys =>
      cases k with
      | zero =>
        obtain ⟨r2, h1, h2⟩ := ob_eq (o := lset l 0 ys) h
        cases h2
        by_cases hys : ys = []
        · subst hys
          have : r2 = l := by cases l <;> (cases h1; rfl)
          subst this
          refine ⟨by simp, by simp, fun i => ?_⟩
          cases i with
          | zero => simp
          | succ i => simp
        · obtain ⟨g1, g2, g3⟩ := ih 0 ys r2 hys h1
          refine ⟨by simp; omega, by simp [g2], fun i => ?_⟩
          cases i with
          | zero => simp
          | succ i =>
            have := g3 i
            simp only [Nat.zero_add, Nat.zero_le, true_and, Nat.sub_zero] at this
            simp only [List.getElem?_cons_succ, this, List.length_cons]
            by_cases hlt : i < ys.length
            · rw [if_pos hlt, if_pos (by omega)]; simp
            · rw [if_neg hlt, if_neg (by omega)]
      | succ k =>
        obtain ⟨r2, h1, h2⟩ := ob_eq (o := lset l k (y :: ys)) h
        cases h2
        obtain ⟨g1, g2, g3⟩ := ih k (y :: ys) r2 (by simp) h1
        refine ⟨by simp at g1 ⊢; omega, by simp [g2], fun i => ?_⟩
        cases i with
        | zero => rw [if_neg (by omega)]; simp
        | succ i =>
          have := g3 i
          simp only [List.getElem?_cons_succ, this, List.length_cons]
          by_cases hlt : k ≤ i ∧ i < k + (ys.length + 1)
          · rw [if_pos hlt, if_pos (by omega), show i + 1 - (k + 1) = i - k by omega]
          · rw [if_neg hlt, if_neg (by omega)]

theorem foldl_wr (off : Nat) : ∀ (l : List Value) (k : Nat) (arr : Array Value), (l.zipIdx k).foldl (fun cs (x : Value × Nat) => cs.setIfInBounds (off + x.2) x.1) arr = wr arr (off + k) l := by
  intro l
  induction l with
  | nil => intro k arr; rfl
  | cons v l ih => intro k arr; simp only [List.zipIdx_cons, List.foldl_cons, ih, wr]; rfl

def RelPs (ρ : Ren) (ps : List (Nat × V)) (ps' : List (Nat × Value)) : Prop := ps.length = ps'.length ∧ ∀ (i : Nat) (a : Nat × V) (b : Nat × Value), ps[i]? = some a → ps'[i]? = some b → a.1 = b.1 ∧ RelV ρ a.2 b.2

theorem fill_sound {place : Nat → Option (Nat × Nat)} : ∀ (ps : List (Nat × V)) (ps' : List (Nat × Value)) (cs l : List V) (arr : Array Value), fillA place ps cs = some l → RelPs ρ ps ps' → RelL ρ cs arr.toList → (∀ v ∈ cs, v.scalar = true) →
    ∃ arr', Instr.fill place arr ps' = some arr' ∧ RelL ρ l arr'.toList ∧ ∀ v ∈ l, v.scalar = true := by
  intro ps
  induction ps with
  | nil =>
    intro ps' cs l arr h hp hl hs
    cases h
    have : ps' = [] := by have := hp.1; cases ps' <;> simp_all
    subst this
    exact ⟨arr, rfl, hl, hs⟩
  | cons p ps ih =>
    intro ps' cs l arr h hp hl hs
    cases ps' with
    | nil => have := hp.1; simp at this
    | cons p' ps' =>
      have hpp := hp.2 0 p p' (by simp) (by simp)
      have hps : RelPs ρ ps ps' := ⟨by have := hp.1; simpa using this, fun i a b ha hb => hp.2 (i + 1) a b (by simpa using ha) (by simpa using hb)⟩
      obtain ⟨off, size, h1, h2⟩ := ob2_eq (o := place p.1) h
      cases size with
      | zero => cases h2
      | succ size =>
        obtain ⟨q, hq, h3⟩ := ob_eq (o := cellsO p.2) h2
        obtain ⟨hsz, h4⟩ := gd_eq h3
        obtain ⟨cs2, h5, h6⟩ := ob_eq h4
        have hlen : q.length = size + 1 := by have := beq_true hsz; rw [llen_eq] at this; simpa using this
        obtain ⟨g1, g2⟩ := cellsO_sound hq hpp.2
        have hne : q ≠ [] := by intro e; rw [e] at hlen; simp at hlen
        obtain ⟨k1, k2, k3⟩ := lset_eq _ _ _ _ hne h5
        have hql := g1.length
        have hal := hl.length
        simp only [Array.length_toList] at hql hal
        have hsz' : p'.2.cells.size = size + 1 := by omega
        have hrel : RelL ρ cs2 (wr arr off p'.2.cells.toList).toList := by
          refine RelL.mk (by simp [wr_size, k2, hal]) ?_
          intro i v v' hv hv'
          rw [k3] at hv
          have hv2 : (wr arr off p'.2.cells.toList)[i]? = some v' := by simpa using hv'
          rw [wr_get _ _ _ _ (by simp; omega)] at hv2
          by_cases hin : off ≤ i ∧ i < off + q.length
          · rw [if_pos hin] at hv
            rw [if_pos (by simp; omega)] at hv2
            obtain ⟨u, hu, hr⟩ := g1.get hv
            rw [hv2] at hu; cases hu
            exact hr
          · rw [if_neg hin] at hv
            rw [if_neg (by simp; omega)] at hv2
            obtain ⟨u, hu, hr⟩ := hl.get hv
            have : arr.toList[i]? = some v' := by simpa using hv2
            rw [this] at hu; cases hu
            exact hr
        have hsc : ∀ v ∈ cs2, v.scalar = true := by
          intro v hv
          obtain ⟨i, hi⟩ := List.getElem?_of_mem hv
          rw [k3] at hi
          split at hi
          · exact g2 v (List.mem_of_getElem? hi)
          · exact hs v (List.mem_of_getElem? hi)
        obtain ⟨arr', r1, r2, r3⟩ := ih ps' cs2 l _ h6 hps hrel hsc
        refine ⟨arr', ?_, r2, r3⟩
        obtain ⟨i', v'⟩ := p'
        simp only [Instr.fill]
        have e1 : p.1 = i' := hpp.1
        rw [← e1, h1]
        simp only []
        have hc : (decide (v'.cells.size ≠ size + 1) || decide (off + v'.cells.size > arr.size)) = false := by
          simp only [Bool.or_eq_false_iff, decide_eq_false_iff_not]
          simp only at hsz'
          exact ⟨by omega, by omega⟩
        rw [hc]
        simp only [Bool.false_eq_true, if_false]
        have : (v'.cells.zipIdx.foldl (fun cs (x : Value × Nat) => cs.setIfInBounds (off + x.2) x.1) arr) = wr arr off v'.cells.toList := by
          rw [← Array.foldl_toList]
          have := foldl_wr off v'.cells.toList 0 arr
          simpa using this
        exact (congrArg (fun a => Instr.fill place a ps') this).trans r1

theorem fill_len {place : Nat → Option (Nat × Nat)} : ∀ (ps : List (Nat × V)) (cs l : List V), fillA place ps cs = some l → l.length = cs.length := by
  intro ps
  induction ps with
  | nil => intro cs l h; cases h; rfl
  | cons p ps ih =>
    intro cs l h
    obtain ⟨off, size, h1, h2⟩ := ob2_eq (o := place p.1) h
    cases size with
    | zero => cases h2
    | succ size =>
      obtain ⟨q, hq, h3⟩ := ob_eq (o := cellsO p.2) h2
      obtain ⟨hsz, h4⟩ := gd_eq h3
      obtain ⟨cs2, h5, h6⟩ := ob_eq h4
      have hne : q ≠ [] := by intro e; subst e; have := beq_true hsz; rw [llen_eq] at this; simp at this
      rw [ih _ _ h6, (lset_eq _ _ _ _ hne h5).2.1]

theorem parts_sound {fr : T V} {ev : Operand → Value} (hf : Fits ρ fr ev) {l : List (Nat × Operand)} {ps : List (Nat × V)} (h : partsA fr l = some ps) : RelPs ρ ps (l.map fun (i, x) => (i, ev x)) := by
  obtain ⟨h1, h2⟩ := mapO_sound h
  refine ⟨by simp [h1], ?_⟩
  intro i a b ha hb
  obtain ⟨x, hx, e⟩ := h2 i a ha
  obtain ⟨v, hv, e2⟩ := ob_eq (o := opd fr x.2) e
  cases e2
  simp only [List.getElem?_map, hx, Option.map_some, Option.some.injEq] at hb
  subst hb
  exact ⟨rfl, hf.opd _ _ hv⟩

theorem places_eq (ht : TabOK P tb) : ∀ {fs : List Field} {pl : List (Nat × Nat)}, placesF tb fs = some pl → fs.mapM (fun f => (P.info? f.type).map fun i => (f.offset, i.size)) = some pl := by
  intro fs
  induction fs with
  | nil => intro pl h; cases h; rfl
  | cons f fs ih =>
    intro pl h
    obtain ⟨q, hq, h1⟩ := ob_eq (o := ob (row tb f.type) fun rf => some (f.offset, rf.size)) h
    obtain ⟨pl2, h2, h3⟩ := ob_eq (o := placesF tb fs) h1
    cases h3
    obtain ⟨rf, hrf, h4⟩ := ob_eq hq
    cases h4
    obtain ⟨i, hi, hs, _⟩ := (row_ok ht hrf).info
    simp [List.mapM_cons, hi, ih h2, hs]

theorem build_sound (ht : TabOK P tb) {fr : T V} {ev : Operand → Value} (hf : Fits ρ fr ev) {t : TypeId} {parts : Array (Nat × Operand)} {v : V} (h0 : oBuild tb fr st t parts.toList = some (v, st')) :
    st' = st ∧ Gives P ρ w (Instr.build t (parts.map fun (i, x) => (i, ev x))) v := by
  obtain ⟨r, hr, h1⟩ := ob_eq h0
  obtain ⟨ps, hps, h2⟩ := ob_eq h1
  obtain ⟨l, hl, h3⟩ := ob_eq h2
  cases h3
  refine ⟨rfl, ?_⟩
  obtain ⟨i, z, g1, g2, g3, g4, g5, g6, g7, g8, g9⟩ := (row_ok ht hr).ex
  obtain ⟨hz, hzs⟩ := mapO_rel ρ g8
  have hp := parts_sound hf hps
  have hlist : (parts.map fun (i, x) => (i, ev x)).toList = parts.toList.map fun (i, x) => (i, ev x) := by simp
  unfold buildA at hl
  split at hl
  · rename_i fs hd
    obtain ⟨pl, hpl, h4⟩ := ob_eq hl
    obtain ⟨arr', r1, r2, r3⟩ := fill_sound ps _ _ _ z.cells h4 hp hz hzs
    refine ⟨.agg arr', run_build w t _ arr' ?_, .agg _ _ r2 r3⟩
    unfold Program.built
    rw [g3, hd] 
    simp only [g1, g2, places_eq ht hpl, hlist]
    rw [← r1]
    congr 1
    funext i
    rw [lget_eq]; simp
  · rename_i n e hd
    obtain ⟨re, hre, h4⟩ := ob_eq hl
    obtain ⟨arr', r1, r2, r3⟩ := fill_sound ps _ _ _ z.cells h4 hp hz hzs
    obtain ⟨ie, hie, hs, _⟩ := (row_ok ht hre).info
    refine ⟨.agg arr', run_build w t _ arr' ?_, .agg _ _ r2 r3⟩
    unfold Program.built
    rw [g3, hd]
    simp only [g1, g2, hie, hlist, ← hs]
    exact r1
  · cases hl

theorem buildSlice_sound (h : Rel ρ st w) (ht : TabOK P tb) {fr : T V} {ev : Operand → Value} (hf : Fits ρ fr ev) {t : TypeId} {len : Nat} {parts : Array (Nat × Operand)} {v : V} (h0 : oBuildSlice tb fr st t len parts.toList = some (v, st')) :
    Comes1 P ρ st w (Instr.buildSlice t len (parts.map fun (i, x) => (i, ev x))) v st' := by
  obtain ⟨re, hre, h1⟩ := ob_eq h0
  obtain ⟨hsz, h1⟩ := gd_eq h1
  obtain ⟨ps, hps, h2⟩ := ob_eq h1
  obtain ⟨l, hl, h3⟩ := ob_eq h2
  obtain ⟨b, st1, h4, h5⟩ := ob2_eq h3
  cases h5
  obtain ⟨e, hu, hro⟩ := slElem_eq ht hre
  obtain ⟨z, hz, _, hz2, hzs, hzl⟩ := hro.zero ρ w
  have hsz' := ble_true hsz
  simp only [Nat.mul_eq] at hsz'
  have hzsz : z.cells.size = re.size := by have := hz2.length; simp at this; omega
  have hp := parts_sound hf hps
  have hlist : (parts.map fun (i, x) => (i, ev x)).toList = parts.toList.map fun (i, x) => (i, ev x) := by simp
  have hrep := lrep_rel len hz2
  obtain ⟨arr', r1, r2, r3⟩ := fill_sound ps _ _ _ _ hl hp hrep (lrep_sc hzs)
  obtain ⟨ρ', w', k1, k2, k3, k4⟩ := newRow_all (P := P) h e h4 r2 r3
  have hnb : ¬ (16777216 < len * re.size) := by omega
  have harr : arr'.size = len * re.size := by
    have h6 := r2.length
    simp only [Array.length_toList] at h6
    rw [← h6]
    rw [fill_len _ _ _ hl, lrep_len, hzl]
  refine ⟨ρ', w', .slice (some ⟨w.heap.size, 0, none⟩) len len, ?_, k3, k4, RelV.sl b 0 len len true re.size ⟨w.heap.size, 0, _⟩ len k2 (Nat.le_refl _) (fun _ => rfl) (Nat.le_refl _) (by rw [harr]; show 0 + len * re.size ≤ len * re.size; omega)⟩
  have r1' : Instr.fill (fun i => some (i * re.size, re.size)) ((Array.range (len * z.cells.size)).map fun i => z.cells[i % z.cells.size]!) (parts.toList.map fun (i, x) => (i, ev x)) = some arr' := r1
  rw [hzsz] at r1'
  by_cases hz0 : len * re.size = 0
  · have hr0 : ∀ f : Nat → Value, Array.map f (Array.range 0) = #[] := fun f => by apply Array.ext'; simp
    rw [hz0, hr0] at r1'
    simp [Instr.buildSlice, run_underlying hu, hro.sizeOf, hz0, hr0, r1', k1]
  · simp [Instr.buildSlice, run_underlying hu, hro.sizeOf, hz0, hz, hzsz, r1', k1, hnb]

end Go.Ab

namespace Go.Ab
open Go
variable {P : Program} {ρ : Ren} {st st' : St} {w : World} {tb : Tab}

/-! Conversions. -/
theorem freeze_eq {g n : Nat} {arr : Array Value} {e : TypeId} {lo hi : Nat} (h : w.heap[g]? = some (.cells arr e (lo, hi))) :
    w.freeze ⟨g, n, none⟩ 1 = World.putObj w g (.cells arr e (if lo == hi then (n, n + 1) else (min lo n, max hi (n + 1)))) := by
  unfold World.freeze World.putObj
  rw [if_neg (by omega)]
  congr 1
  apply Array.ext_getElem?
  intro j
  by_cases hj : g = j
  · subst hj
    have hlt : g < w.heap.size := by
      rcases Nat.lt_or_ge g w.heap.size with h' | h'
      · exact h'
      · simp [Array.getElem?_eq_none h'] at h
    rw [Array.getElem?_setIfInBounds_self_of_lt hlt, Array.getElem?_modify, if_pos rfl, h]
    simp
  · rw [Array.getElem?_modify, Array.getElem?_setIfInBounds_ne hj, if_neg hj]

theorem mark_run {g o : Nat} {arr : Array Value} {e : TypeId} {lo hi : Nat} (h : w.heap[g]? = some (.cells arr e (lo, hi))) :
    (markStringish ⟨g, o, none⟩).run P w = .ok () (World.putObj w g (.cells arr e (if lo == hi then (arr.size, arr.size + 1) else (min lo arr.size, max hi (arr.size + 1))))) := by
  have hs : w.shape? g = some (e, arr.size) := by simp [World.shape?, h]
  simp only [markStringish, Sem.run_bind, run_shape, Result.andThen_ok, hs, run_freeze]
  rw [← freeze_eq h]

theorem marked_ok {lo hi n : Nat} (hf : lo = hi ∨ n ≤ lo) : ∃ lo' hi', (if lo == hi then (n, n + 1) else (min lo n, max hi (n + 1))) = (lo', hi') ∧ (lo' = hi' ∨ n ≤ lo') := by
  by_cases e : lo = hi
  · exact ⟨n, n + 1, by simp [e], .inr (Nat.le_refl _)⟩
  · have hb : (lo == hi) = false := by simp [e]
    rw [hb]
    exact ⟨min lo n, max hi (n + 1), rfl, .inr (by omega)⟩

theorem isByte_eq (ht : TabOK P tb) {e : TypeId} {re : Row} (h : row tb e = some re) (hb : isByte re.desc = true) : P.underlying e = some (.int .u8) := by
  obtain ⟨i, z, _, _, g3, _⟩ := (row_ok ht h).ex
  unfold isByte at hb
  split at hb
  · rename_i k hd
    rw [keq_eq hb] at hd
    rw [g3, hd]
  · cases hb


theorem Rel.congr {st1 : St} (h : Rel ρ st w) (hg : ∀ x, st1.heap.get x = st.heap.get x) (hn : st1.next = st.next) : Rel ρ st1 w :=
  ⟨fun b k hb => h.blk b k (by rw [← hg]; exact hb), fun b p hp => by rw [hn]; exact h.fresh b p hp,
   fun b b' k k' p p' hb hb' => h.inj b b' k k' p p' (by rw [← hg]; exact hb) (by rw [← hg]; exact hb')⟩
theorem Own.congr {st1 : St} {i : Nat} (hg : ∀ x, st1.heap.get x = st.heap.get x) (h : Own ρ st1 i) : Own ρ st i := by
  obtain ⟨b, k, p, h1, h2, h3, h4⟩ := h
  exact ⟨b, k, p, by rw [← hg]; exact h1, h2, h3, h4⟩
theorem Ext.congr {st1 : St} {ρ' : Ren} {w' : World} {st0 : St} (h : Ext ρ st0 w ρ' st w') (hg : ∀ x, st1.heap.get x = st.heap.get x) : Ext ρ st0 w ρ' st1 w' :=
  ⟨h.ren, h.os, h.tape, h.output, h.size, (fun i hi hn => let ⟨a, b⟩ := h.keep i hi hn; ⟨a, fun ho => b (ho.congr hg)⟩), fun b n c x => h.ro b n c (by rw [← hg]; exact x)⟩

theorem Rel.mark (h : Rel ρ st w) {b n o : Nat} {c : T V} {p : Pl} (hb : st.heap.get b = some (.cells n c false)) (hp : ρ b = some p) :
    ∃ w', (markStringish ⟨p.blk, o, none⟩).run P w = .ok () w' ∧ Rel ρ st w' ∧ Ext ρ st w ρ st w' := by
  obtain ⟨arr, e, lo, hi, ho, hn, hl, hf0, hc⟩ := h.cells hb hp
  have hf := hf0 rfl
  have hg : ∀ x, st.heap.get x = (⟨st.heap.put b (.cells n c false), st.next⟩ : St).heap.get x := by
    intro x
    rw [T.get_put]
    by_cases e : x = b
    · rw [if_pos e, e, hb]
    · rw [if_neg e]
  obtain ⟨lo', hi', e1, e2⟩ := marked_ok hf
  have := h.put (k := .cells n c false) (o := .cells arr e (lo', hi')) hb hp (.cells _ _ _ _ _ _ _ _ hn hl (fun _ => e2) hc) rfl
  refine ⟨_, mark_run ho, ?_⟩
  rw [e1]
  exact ⟨this.1.congr hg rfl, this.2.congr hg⟩

theorem toBytes_sound {l : List V} {s : List UInt8} {l' : List Value} (h : toBytes l = some s) (hl : RelL ρ l l') : ∃ ns : List Int, l' = ns.map (Value.int .u8) ∧ ns.map (fun n => UInt8.ofNat n.toNat) = s := by
  induction l generalizing s l' with
  | nil => cases h; cases hl; exact ⟨[], rfl, rfl⟩
  | cons x l ih =>
    obtain ⟨y, hy, h1⟩ := ob_eq (o := byteOfV x) h
    obtain ⟨ys, hys, h2⟩ := ob_eq (o := toBytes l) h1
    cases h2
    cases hl with
    | cons _ x' _ l' hx hl =>
    obtain ⟨ns, e1, e2⟩ := ih hys hl
    unfold byteOfV at hy
    cases x <;> first | (cases hy; done) | skip
    rename_i k n
    cases k <;> first | (cases hy; done) | skip
    cases n with
    | negSucc a => cases hy
    | ofNat a =>
      cases hx
      have : y = UInt8.ofNat a := by cases hy; rfl
      exact ⟨(a : Int) :: ns, by simp [e1], by simp [e2, this]⟩

theorem foldl_push_ints : ∀ (ns : List Int) (r : ByteArray), ns.foldl (fun r n => r.push (UInt8.ofNat n.toNat)) r = ⟨r.data ++ (ns.map (fun n => UInt8.ofNat n.toNat)).toArray⟩
  | [], r => by simp
  | n :: ns, r => by
    simp only [List.foldl_cons]
    rw [foldl_push_ints ns]
    simp [ByteArray.push]

theorem convBytes_sound (h : Rel ρ st w) {v u : V} {v' : Value} (h0 : convBytes st v = some (u, st')) (hv : RelV ρ v v') :
    st' = st ∧ Gives P ρ w (Conv.bytesToString v') u := by
  unfold convBytes at h0
  cases v <;> first | (cases h0; done) | skip
  case nilsl => cases h0; cases hv; exact ⟨rfl, .string ByteArray.empty, by simp [Conv.bytesToString], .str []⟩
  case slE =>
    cases h0
    cases hv with
    | slE a c => exact ⟨rfl, _, run_bytesToString w a 0 c [] rfl, .str []⟩
  case sl b off len cap ex sz =>
    obtain ⟨l, h1, h2⟩ := ob_eq h0
    obtain ⟨s, h3, h4⟩ := ob_eq h2
    cases h4
    refine ⟨rfl, ?_⟩
    cases hv with
    | sl _ _ _ _ _ _ p c hp hcap hex hlen hlim =>
      obtain ⟨_, _, l', g1, g2⟩ := cells_sound (P := P) h h1 hp
      obtain ⟨ns, e1, e2⟩ := toBytes_sound h3 g1
      rw [e1] at g2
      refine ⟨_, run_bytesToString w _ len c ns g2, ?_⟩
      rw [foldl_push_ints, e2]
      have : (ByteArray.empty.data ++ s.toArray) = s.toArray := Array.empty_append
      rw [this]
      exact .str s

theorem gives_map {s d : TypeId} {v' : Value} {m : Sem Value} {u : V} (hm : (convert s d v').run P w = m.run P w) (h : Gives P ρ w m u) : Gives P ρ w (convert s d v') u := by
  obtain ⟨x, h1, h2⟩ := h
  exact ⟨x, by rw [hm]; exact h1, h2⟩

theorem stringToBytes_sound (h : Rel ρ st w) {e : TypeId} {b : Nat} {s : List UInt8} (hn : newCells st (bytesV s) = some (b, st')) :
    Comes1 P ρ st w (Conv.stringToBytes e ⟨s.toArray⟩) (.sl b 0 s.length s.length false 1) st' := by
  generalize hc : (Question.appendCap s.length 0 e).cut (w.tape w.drawn (.appendCap s.length 0 e)) = cap
  have hcap : s.length ≤ cap := by rw [← hc]; exact Nat.le_add_right _ _
  have hsz : (ByteArray.mk s.toArray).size = s.length := by simp [ByteArray.size]
  generalize ha : ((s.toArray.map fun b => (Value.int .u8 (b.toNat : Int))) ++ Array.replicate (cap - s.length) (.int .u8 0)) = arr
  have hbl : (bytesV s).length = s.length := by rw [bytesV_eq]; simp
  have hal : arr.size = cap := by rw [← ha]; simp; omega
  obtain ⟨g1, g2, g3⟩ := newRow_sound (w := w.drew) (arr := arr) (h.drew _) e hn (by omega) (by
    have : arr.toList.take (bytesV s).length = s.map fun b => (.int .u8 (b.toNat : Int)) := by
      rw [← ha, hbl]; simp
    rw [this]; exact RelL.bytes ρ s) (scalar_bytes s)
  obtain ⟨e1, e2⟩ := newBlk_eq hn
  have hb : st'.heap.get b = some (.cells (llen (bytesV s) 0) (putAll (bytesV s) 0 .nil) false) := by rw [e1, e2]; exact T.get_put_self _ _ _
  obtain ⟨w2, k1, k2, k3⟩ := g2.mark (P := P) (o := 0) hb g1
  refine ⟨_, w2, .slice (some ⟨w.heap.size, 0, none⟩) s.length cap, ?_, k2, ((Ext.drew ρ st w (w.drawn + 1)).trans g3).trans k3, ?_⟩
  · have hf : (Question.appendCap s.length 0 e).forced = false := rfl
    unfold Conv.stringToBytes
    simp only [Sem.run_bind, hsz, run_choose_drew, hf, hc, Result.andThen_ok, Bool.false_eq_true, if_false]
    rw [ha]
    have hnew : (newRow e arr).run P w.drew = .ok ⟨w.heap.size, 0, none⟩ (w.drew.alloc (.cells arr e)) := by simp only [newRow, Sem.run_bind, run_newObj, Result.andThen_ok, Sem.run_pure]; rfl
    have k1' : (markStringish ⟨w.heap.size, 0, none⟩).run P (w.drew.alloc (.cells arr e)) = .ok () w2 := k1
    rw [hnew]
    simp only [Result.andThen_ok, k1', Sem.run_pure]
  · exact RelV.sl b 0 s.length s.length false 1 ⟨w.heap.size, 0, arr.size⟩ cap g1 hcap (fun e => by cases e) (Nat.le_refl _) (by show 0 + cap * 1 ≤ arr.size; omega)

theorem convert_sound (ht : TabOK P tb) (h : Rel ρ st w) {fr : T V} {ev : Operand → Value} (hf : Fits ρ fr ev) {s d : TypeId} {x : Operand} {u : V} (h0 : oConv tb fr st s d x = some (u, st')) :
    Comes1 P ρ st w (convert s d (ev x)) u st' := by
  obtain ⟨rs, hrs, h1⟩ := ob_eq (o := row tb s) h0
  obtain ⟨rd, hrd, h2⟩ := ob_eq (o := row tb d) h1
  obtain ⟨v, hv, h3⟩ := ob_eq (o := opd fr x) h2
  have hr := hf.opd x v hv
  obtain ⟨_, _, _, _, us, _⟩ := (row_ok ht hrs).ex
  obtain ⟨_, _, _, _, ud, _⟩ := (row_ok ht hrd).ex
  generalize ev x = v' at hr ⊢
  unfold convA at h3
  split at h3
  · rename_i k hd
    obtain ⟨j, n, rfl, h4⟩ := intK_eq h3
    cases h4
    cases hr
    rw [wrap_eq]
    refine Gives.comes h ⟨.int k (k.wrap n), ?_, .int _ _⟩
    rw [hd] at ud
    simp [convert, run_underlying us, run_underlying ud, Conv.intToInt]
  · rename_i e hd
    obtain ⟨re, hre, h4⟩ := ob_eq (o := row tb e) h3
    obtain ⟨hb, h5⟩ := gd_eq h4
    have ue := isByte_eq ht hre hb
    rw [hd] at ud
    cases v <;> first | (cases h5; done) | skip
    case str l =>
      obtain ⟨b, st1, h6, h7⟩ := ob2_eq (o := newCells st (bytesV l)) h5
      cases h7
      cases hr
      have := stringToBytes_sound (P := P) (e := e) h h6
      obtain ⟨ρ', w', y, q1, q2, q3, q4⟩ := this
      refine ⟨ρ', w', y, ?_, q2, q3, by rw [llen_eq, Nat.zero_add]; exact q4⟩
      simpa [convert, run_underlying us, run_underlying ud, run_underlying ue] using q1
    case sl b off len cap ex sz =>
      obtain ⟨hsd, h6⟩ := gd_eq (b := Nat.beq s d) h5
      have hsd' := beq_true hsd
      subst hsd'
      obtain ⟨n, c, ro, hb, h7⟩ := atCells_eq h6
      obtain ⟨h8, h9⟩ := bcase_none h7
      subst h8
      cases h9
      rw [us] at ud
      cases hr with
      | sl _ _ _ _ _ _ p c hp hcap hex hlen hlim =>
        obtain ⟨w', q1, q2, q3⟩ := h.mark (P := P) (o := p.base + off) hb hp
        refine ⟨ρ, w', .slice (some ⟨p.blk, p.base + off, none⟩) len c, ?_, q2, q3, .sl _ _ _ _ _ _ p c hp hcap hex hlen hlim⟩
        have ud' : rs.desc = .slice e := by simpa using ud
        rw [ud'] at us
        simp [convert, run_underlying us, run_underlying ue, q1]
  · rename_i hd
    rw [hd] at ud
    unfold convString at h3
    split at h3
    · cases h3
      cases hr
      refine Gives.comes h ⟨_, ?_, .str _⟩
      simp [convert, run_underlying us, run_underlying ud]
    · obtain ⟨e, he, h4⟩ := ob_eq h3
      obtain ⟨re, hre, h5⟩ := ob_eq h4
      obtain ⟨hb, h6⟩ := gd_eq h5
      have ue := isByte_eq ht hre hb
      have hds : rs.desc = .slice e := by
        unfold elemSl at he
        split at he
        · cases he; assumption
        · cases he
      rw [hds] at us
      obtain ⟨rfl, g⟩ := convBytes_sound (P := P) h h6 hr
      refine Gives.comes h ?_
      obtain ⟨y, k1, k2⟩ := g
      refine ⟨y, ?_, k2⟩
      have : ∃ a l c, v' = .slice a l c := by
        unfold convBytes at h6
        split at h6 <;> first | (cases h6; done) | (cases hr; exact ⟨_, _, _, rfl⟩)
      obtain ⟨a, l, c, rfl⟩ := this
      rw [run_convert_bytes_string w s d e a l c us ue ud]
      exact k1
  · cases h3

end Go.Ab

namespace Go.Ab
open Go
variable {P : Program} {ρ : Ren} {st st' : St} {w : World} {tb : Tab}

/-! The built-in functions. -/
theorem nmin_eq (a b : Nat) : nmin a b = min a b := by
  unfold nmin
  rw [bcase_eq]
  by_cases h : Nat.ble a b = true
  · rw [if_pos h]; have := ble_true h; omega
  · rw [if_neg h]
    have : ¬ a ≤ b := fun hh => h (by rw [Nat.ble_eq]; exact hh)
    omega

theorem copy_sound (ht : TabOK P tb) (h : Rel ρ st w) {ts : Array TypeId} {ty t : TypeId} {re : Row} {d x v : V} {d' x' : Value} (h1 : ts[0]? = some t) (hre : slElem tb t = some re)
    (hd : RelV ρ d d') (hx : RelV ρ x x') (h0 : copyA re.size st d x = some (v, st')) : Comes1 P ρ st w (Builtin.copy_ ts ty #[d', x']) v st' := by
  obtain ⟨e, hu, hro⟩ := slElem_eq ht hre
  obtain ⟨m, hm, h2⟩ := ob_eq (o := lenV d) h0
  obtain ⟨n, hn, h3⟩ := ob_eq (o := lenV x) h2
  obtain ⟨l, hl, h4⟩ := ob_eq h3
  rw [nmin_eq] at hl h4
  have hlen := lenV_sound (P := P) (w := w) hn hx
  obtain ⟨g1, g2, l', g3, g4⟩ := firstA_sound (P := P) h hl hx
  have hmin : Nat.min n m = min n m := rfl
  unfold copyTo at h4
  cases d <;> first | (cases h4; done) | skip
  case nilsl =>
    cases hm; cases h4; cases hd
    refine Gives.comes h ⟨.int .i64 ((min n 0 : Nat) : Int), ?_, .int _ _⟩
    simp [Builtin.copy_, h1, run_underlying hu, hlen, hro.sizeOf] at g4 ⊢
    simp [g4, goInt]
  case slE =>
    cases hm; cases h4
    cases hd with
    | slE a c =>
      have hl0 : l' = [] := by
        have := g3.length
        simp at g1
        cases l' <;> simp_all
      subst hl0
      refine Gives.comes h ⟨.int .i64 ((min n 0 : Nat) : Int), ?_, .int _ _⟩
      simp [Builtin.copy_, h1, run_underlying hu, hlen, hro.sizeOf] at g4 ⊢
      simp [g4, goInt, storeCells]
  case sl b off len cap ex sz =>
    cases hm
    obtain ⟨st1, h5, h6⟩ := ob_eq h4
    cases h6
    cases hd with
    | sl _ _ _ _ _ _ p c hp hcap hex hlen' hlim =>
      obtain ⟨w', k1, k2, k3⟩ := writeCs_sound (P := P) h h5 hp g3 g2
      refine ⟨ρ, w', .int .i64 ((min n m : Nat) : Int), ?_, k2, k3, .int _ _⟩
      simp [Builtin.copy_, h1, run_underlying hu, hlen, hro.sizeOf, hmin, g4, goInt, k1]

theorem clear_sound (ht : TabOK P tb) (h : Rel ρ st w) {ts : Array TypeId} {ty t : TypeId} {re : Row} {x v : V} {x' : Value} (h1 : ts[0]? = some t) (hre : slElem tb t = some re)
    (hx : RelV ρ x x') (h0 : clearA re st x = some (v, st')) : Comes1 P ρ st w (Builtin.clear_ ts ty #[x']) v st' := by
  obtain ⟨e, hu, hro⟩ := slElem_eq ht hre
  obtain ⟨z, hz, _, hz2, hzs, hzl⟩ := hro.zero ρ w
  unfold clearA at h0
  cases x <;> first | (cases h0; done) | skip
  case nilsl =>
    cases h0; cases hx
    exact Gives.comes h ⟨.tuple #[], by simp [Builtin.clear_, h1, run_underlying hu], .tuple _ _ .nil⟩
  case slE =>
    cases h0
    cases hx with
    | slE a c => exact Gives.comes h ⟨.tuple #[], by simp [Builtin.clear_, h1, run_underlying hu], .tuple _ _ .nil⟩
  case sl b off len cap ex sz =>
    obtain ⟨st1, h5, h6⟩ := ob_eq h0
    cases h6
    cases hx with
    | sl _ _ _ _ _ _ p c hp hcap hex hlen hlim =>
      obtain ⟨w', k1, k2, k3⟩ := writeCs_sound (P := P) h h5 hp (zeroCells_rel len hz2) (lrep_sc hzs)
      cases len with
      | zero =>
        have : (lrep 0 re.zero) = [] := rfl
        rw [this] at h5
        cases h5
        exact Gives.comes h ⟨.tuple #[], by simp [Builtin.clear_, h1, run_underlying hu], .tuple _ _ .nil⟩
      | succ len =>
        refine ⟨ρ, w', .tuple #[], ?_, k2, k3, .tuple _ _ .nil⟩
        simp [Builtin.clear_, h1, run_underlying hu, hz, k1]

theorem cells_sound2 {ρ : Ren} {st : St} {w : World} (h : Rel ρ st w) {b off k : Nat} {l : List V} {p : Pl} (hr : readCs st b off k = some l) (hp : ρ b = some p) :
    l.length = k ∧ (∀ v ∈ l, v.scalar = true) ∧ ∃ l', RelL ρ l l' ∧ ∀ w2 : World, w2.heap = w.heap → (loadCells ⟨p.blk, p.base + off, none⟩ k).run P w2 = .ok l'.toArray w2 := by
  obtain ⟨n, c, ro, hb, hx⟩ := atCells_eq hr
  obtain ⟨h1, h2⟩ := readN_eq k off l hx
  obtain ⟨arr, e, lo, hi, ho, hn, hl, hf, hc⟩ := h.cells hb hp
  have key : ∀ j v, l[j]? = some v → v.scalar = true ∧ ∃ v', arr[p.base + (off + j)]? = some v' ∧ RelV ρ v v' := by
    intro j v hj
    obtain ⟨q1, q2⟩ := h2 j v hj
    exact hc _ v q1 q2
  refine ⟨h1, ?_, (List.range k).map (fun j => arr.getD (p.base + (off + j)) undef), ?_, ?_⟩
  · intro v hv
    obtain ⟨j, hj⟩ := List.getElem?_of_mem hv
    exact (key j v hj).1
  · refine RelL.mk (by simp [h1]) ?_
    intro j v v' hj hj'
    obtain ⟨_, u, hu, hv⟩ := key j v hj
    simp only [List.getElem?_map] at hj'
    have hjk : j < k := by rw [← h1]; exact (List.getElem?_eq_some_iff.1 hj).1
    simp only [List.getElem?_range hjk, Option.map_some, Option.some.injEq] at hj'
    rw [← hj', Array.getD_eq_getD_getElem?, hu]
    exact hv
  · intro w2 hw2
    rw [← hw2] at ho
    have hk : k = ((List.range k).map (fun j => arr.getD (p.base + (off + j)) undef)).length := by simp
    conv => lhs; rw [hk]
    apply run_loadCells_list
    intro j v hj
    rw [addr_add, cell_of ho]
    simp only [List.getElem?_map] at hj
    have hjk : j < k := by
      rcases Nat.lt_or_ge j k with h | h
      · exact h
      · rw [List.getElem?_eq_none (by simpa using h)] at hj; cases hj
    simp only [List.getElem?_range hjk, Option.map_some, Option.some.injEq] at hj
    obtain ⟨_, u, hu, hv⟩ := key j (l[j]'(by omega)) (by simp)
    rw [Array.getD_eq_getD_getElem?, hu] at hj
    simp at hj
    rw [show p.base + off + j = p.base + (off + j) by omega, hu, hj]


theorem firstA_sound2 (hr : Rel ρ st w) {sz n : Nat} {x : V} {x' : Value} {l : List V} (h : firstA st sz n x = some l) (hv : RelV ρ x x') :
    l.length = n * sz ∧ (∀ v ∈ l, v.scalar = true) ∧ ∃ l', RelL ρ l l' ∧ ∀ w2 : World, w2.heap = w.heap → (Builtin.firstCells sz n x').run P w2 = .ok l'.toArray w2 := by
  cases hv <;> first | (cases h; done) | skip
  case str s =>
    obtain ⟨hz, h1⟩ := gd_eq h
    obtain ⟨q, hq, h2⟩ := ob_eq h1
    cases h2
    have hz' := beq_true hz
    subst hz'
    obtain ⟨g1, g2⟩ := ltake_eq _ _ _ hq
    refine ⟨by rw [bytesV_eq, g2]; simp; omega, scalar_bytes q, _, RelL.bytes ρ q, fun w2 hw2 => ?_⟩
    simp only [Builtin.firstCells, Sem.run_pure]
    congr 1
    apply Array.ext'
    rw [str_extract, g2]
    simp
  case sl b off len cap exact sz' p c hp hcap hex hlen hlim =>
    obtain ⟨hle, h1⟩ := gd_eq h
    obtain ⟨g1, g2, l', g3, g4⟩ := cells_sound2 (P := P) hr h1 hp
    exact ⟨g1, g2, l', g3, fun w2 hw2 => by simpa [Builtin.firstCells] using g4 w2 hw2⟩
  case slE a c =>
    cases n with
    | succ n => cases h
    | zero =>
      cases h
      exact ⟨by simp, by simp, [], .nil, fun w2 _ => by simp [Builtin.firstCells, loadCells, loadCellsFrom]⟩
  case nilsl =>
    cases n with
    | succ n => cases h
    | zero => cases h; exact ⟨by simp, by simp, [], .nil, fun _ _ => rfl⟩


theorem RowOK.zeros {t : TypeId} {r : Row} (h : RowOK P t r) : ∃ z, (∀ w, (zeroValue t).run P w = .ok z w) ∧ (∀ ρ, RelL ρ r.zero z.cells.toList) ∧ (∀ v ∈ r.zero, v.scalar = true) ∧ z.cells.size = r.size ∧ r.zero.length = r.size := by
  obtain ⟨i, z, h1, h2, h3, h4, h5, h6, h7, h8, h9⟩ := h.ex
  have hl := (mapO_rel (fun _ => none) h8).1.length
  simp only [Array.length_toList] at hl
  exact ⟨z, fun w => by simp [zeroValue, typeInfo, h1, h2], fun ρ => (mapO_rel ρ h8).1, (mapO_rel (fun _ => none) h8).2, by omega, by omega⟩

theorem appendA_sound (h : Rel ρ st w) {ts : Array TypeId} {ty e : TypeId} {re : Row} (ha : AppArgs P ts e false) (hre : RowOK P e re) {s x v : V} {s' x' : Value} (hs : RelV ρ s s') (hx : RelV ρ x x')
    (h0 : appendA re st s x = some (v, st')) : Comes1 P ρ st w (Builtin.append_ ts ty #[s', x']) v st' := by
  obtain ⟨n, hn, h1⟩ := ob_eq (o := lenV x) h0
  obtain ⟨new, hnew, h2⟩ := ob_eq (o := firstA st re.size n x) h1
  obtain ⟨z, hz, _, _, hzs, _⟩ := hre.zeros
  obtain ⟨g1, g2, l', g3, g4⟩ := firstA_sound2 (P := P) h hnew hx
  refine appendN_sound h ha hre hz hzs hs ⟨?_, ?_, g3, g1, g2⟩ h2
  · show NewCells P w re.size n false z.cells x' l'
    unfold NewCells
    rw [if_neg (by simp)]
    exact ⟨lenV_sound hn hx, g4 w rfl⟩
  · show NewCells P w.drew re.size n false z.cells x' l'
    unfold NewCells
    rw [if_neg (by simp)]
    exact ⟨lenV_sound hn hx, g4 w.drew rfl⟩

theorem appendZ_sound (h : Rel ρ st w) {ts : Array TypeId} {ty e : TypeId} {re : Row} (ha : AppArgs P ts e true) (hre : RowOK P e re) {n : Nat} {s v : V} {s' : Value} (hs : RelV ρ s s')
    (h0 : appendZ re st s n = some (v, st')) : Comes1 P ρ st w (Builtin.append_ ts ty #[s', .int .i64 (n : Int)]) v st' := by
  obtain ⟨hr, h1⟩ := gd_eq h0
  obtain ⟨z, hz, hzr, hzc, hzs, hzl⟩ := hre.zeros
  have hn := (roomy_eq hr).1
  refine appendN_sound h ha hre hz hzs hs ⟨?_, ?_, zeroCells_rel n (hzr ρ), by rw [lrep_len, hzl], lrep_sc hzc⟩ h1
  · show NewCells P w re.size n true z.cells _ _
    unfold NewCells
    rw [if_pos rfl]
    exact ⟨rfl, hn, rfl⟩
  · show NewCells P w.drew re.size n true z.cells _ _
    unfold NewCells
    rw [if_pos rfl]
    exact ⟨rfl, hn, rfl⟩

theorem appendB_sound (ht : TabOK P tb) (h : Rel ρ st w) {ts : Array TypeId} {ty t : TypeId} {re : Row} {s x v : V} {s' x' : Value} (h1 : ts[0]? = some t) (hre : slElem tb t = some re) (hs : RelV ρ s s') (hx : RelV ρ x x')
    (h0 : appendB tb ts.toList re st s x = some (v, st')) : Comes1 P ρ st w (Builtin.append_ ts ty #[s', x']) v st' := by
  obtain ⟨e, hu, hro⟩ := slElem_eq ht hre
  obtain ⟨t1, ht1, h2⟩ := ob_eq (o := lget ts.toList 1) h0
  rw [lget_eq] at ht1
  have ht1' : ts[1]? = some t1 := by simpa using ht1
  obtain ⟨r1, hr1, h3⟩ := ob_eq (o := row tb t1) h2
  obtain ⟨_, _, _, _, u1, _⟩ := (row_ok ht hr1).ex
  rcases bcase_some h3 with ⟨hb, h4⟩ | ⟨hb, h4⟩
  · obtain ⟨n, hn, h5⟩ := ob_eq h4
    have ha : AppArgs P ts e true := ⟨⟨t, h1, hu⟩, ⟨t1, _, ht1', u1, by
      unfold isIntD at hb
      split at hb
      · rename_i k hk; rw [hk]; exact ⟨fun _ => ⟨k, rfl⟩, fun _ => rfl⟩
      · cases hb⟩⟩
    have hk : x' = .int .i64 (n : Int) := by
      unfold nat64 at hn
      cases x <;> first | (cases hn; done) | skip
      rename_i k m
      cases k <;> first | (cases hn; done) | skip
      cases m with
      | negSucc a => cases hn
      | ofNat a => cases hn; cases hx; rfl
    subst hk
    exact appendZ_sound h ha hro hs h5
  · have ha : AppArgs P ts e false := ⟨⟨t, h1, hu⟩, ⟨t1, _, ht1', u1, by
      constructor
      · intro e; cases e
      · rintro ⟨k, hk⟩; rw [hk] at hb; cases hb⟩⟩
    exact appendA_sound h ha hro hs hx h4

theorem cap_sound {ts : Array TypeId} {ty t e : TypeId} {x v : V} {x' : Value} (h1 : ts[0]? = some t) (hu : P.underlying t = some (.slice e)) (hx : RelV ρ x x')
    (h0 : capA st x = some (v, st')) : st' = st ∧ Gives P ρ w (Builtin.cap_ ts ty #[x']) v := by
  unfold capA at h0
  cases x <;> first | (cases h0; done) | skip
  case nilsl =>
    cases h0; cases hx
    exact ⟨rfl, .int .i64 0, by simp [Builtin.cap_, h1, run_underlying hu, goInt], .int _ _⟩
  case sl b off len cap ex sz =>
    obtain ⟨hb, h2⟩ := gd_eq h0
    cases h2
    cases hx with
    | sl _ _ _ _ _ _ p c hp hcap hex hlen hlim =>
      have := hex hb
      subst this
      exact ⟨rfl, .int .i64 (c : Int), by simp [Builtin.cap_, h1, run_underlying hu, goInt], .int _ _⟩

theorem len_sound (ht : TabOK P tb) (h : Rel ρ st w) {ts : Array TypeId} {ty t : TypeId} {r : Row} {x v : V} {x' : Value} (h1 : ts[0]? = some t) (hr : row tb t = some r) (hx : RelV ρ x x')
    (h0 : lenA tb t r.desc st x = some (v, st')) : st' = st ∧ Gives P ρ w (Builtin.len_ ts ty #[x']) v := by
  obtain ⟨_, _, _, _, hu, _⟩ := (row_ok ht hr).ex
  unfold lenA at h0
  split at h0
  · rename_i a b hd
    rw [hd] at hu
    unfold getMap at h0
    cases x <;> first | (cases h0; done) | skip
    case nilmap =>
      cases h0; cases hx
      exact ⟨rfl, .int .i64 0, by simp [Builtin.len_, h1, run_underlying hu, goInt], .int _ _⟩
    case map b =>
      obtain ⟨bk, hb, h2⟩ := ob_eq h0
      cases hx with
      | map _ p hp =>
        obtain ⟨p1, o, hp1, ho, hr⟩ := h.blk b bk hb
        rw [hp] at hp1; cases hp1
        obtain ⟨c, c', es, es2, arr, rfl, g1, hes, hpm, _⟩ := blkMapU_eq h2 hr
        cases g1
        refine ⟨rfl, .int .i64 (es.length : Int), ?_, by rw [llen_eq, Nat.zero_add]; exact .int _ _⟩
        have hl : es.length = arr.size := by
          have : ∀ (a : List Ent) (b : List MapEntry), RelEs ρ a b → a.length = b.length := by
            intro a b hab
            induction hab with
            | nil => rfl
            | cons _ _ _ _ _ _ ih => simp [ih]
          have h3 := this _ _ hes
          have h4 := hpm.length_eq
          simp at h3 h4
          omega
        simp [Builtin.len_, h1, run_underlying hu, run_getObj ho, goInt, hl]
  · rename_i e hd
    rw [hd] at hu
    obtain ⟨hb, h2⟩ := gd_eq h0
    obtain ⟨n, hn, h3⟩ := ob_eq h2
    cases h3
    refine ⟨rfl, .int .i64 (n : Int), ?_, .int _ _⟩
    unfold isSlV at hb
    cases hx <;> first | (cases hb; done) | skip
    all_goals
      cases hn
      simp [Builtin.len_, h1, run_underlying hu, goInt]
  · rename_i hd
    rw [hd] at hu
    obtain ⟨s, hs, h2⟩ := ob_eq h0
    cases h2
    unfold strK at hs
    cases hx <;> first | (cases hs; done) | skip
    cases hs
    refine ⟨rfl, .int .i64 (s.length : Int), ?_, by rw [llen_eq, Nat.zero_add]; exact .int _ _⟩
    have hsz : (ByteArray.mk s.toArray).size = s.length := by simp [ByteArray.size]
    simp [Builtin.len_, h1, run_underlying hu, goInt, hsz]
  · obtain ⟨n, re, h2, h3⟩ := ob2_eq h0
    cases h3
    obtain ⟨e, _, h4⟩ := arrElem'_eq ht h2
    refine ⟨rfl, .int .i64 (n : Int), ?_, .int _ _⟩
    rcases h4 with h4 | ⟨t2, h4, h5⟩
    · simp [Builtin.len_, h1, run_underlying h4, goInt]
    · simp [Builtin.len_, h1, run_underlying h4, run_underlying h5, goInt]

theorem max2_sound {v w1 u : V} {v' w' : Value} (h : max2A v w1 = some u) (hv : RelV ρ v v') (hw : RelV ρ w1 w') : Gives P ρ w (Builtin.max2 v' w') u := by
  unfold max2A at h
  cases v <;> first | (cases h; done) | skip
  obtain ⟨j, n, rfl, h2⟩ := intK_eq h
  cases h2
  cases hv; cases hw
  refine ⟨_, by simp only [Builtin.max2, Sem.run_pure]; rfl, ?_⟩
  rw [bcase_eq, ilt_eq]
  simp only [decide_eq_true_eq, gt_iff_lt]
  exact .int _ _
theorem min2_sound {v w1 u : V} {v' w' : Value} (h : min2A v w1 = some u) (hv : RelV ρ v v') (hw : RelV ρ w1 w') : Gives P ρ w (Builtin.min2 v' w') u := by
  unfold min2A at h
  cases v <;> first | (cases h; done) | skip
  obtain ⟨j, n, rfl, h2⟩ := intK_eq h
  cases h2
  cases hv; cases hw
  refine ⟨_, by simp only [Builtin.min2, Sem.run_pure]; rfl, ?_⟩
  rw [bcase_eq, ilt_eq]
  simp only [decide_eq_true_eq]
  exact .int _ _
theorem fold_sound {f : V → V → Option V} {g : Value → Value → Sem Value} (hfg : ∀ v w1 u v' w', f v w1 = some u → RelV ρ v v' → RelV ρ w1 w' → Gives P ρ w (g v' w') u) :
    ∀ {l : List V} {l' : List Value} {v u : V} {v' : Value}, foldA f l v = some u → RelV ρ v v' → RelL ρ l l' → Gives P ρ w (l'.foldlM g v') u := by
  intro l
  induction l with
  | nil => intro l' v u v' h hv hl; cases h; cases hl; exact ⟨v', by simp, hv⟩
  | cons x l ih =>
    intro l' v u v' h hv hl
    obtain ⟨y, hy, h2⟩ := ob_eq (o := f v x) h
    cases hl with
    | cons _ x' _ l' hx hl =>
      obtain ⟨y', g1, g2⟩ := hfg _ _ _ _ _ hy hv hx
      obtain ⟨z', g3, g4⟩ := ih h2 g2 hl
      exact ⟨z', by simp [List.foldlM_cons, g1, g3], g4⟩
theorem fold1_sound {f : V → V → Option V} {g : Value → Value → Sem Value} (hfg : ∀ v w1 u v' w', f v w1 = some u → RelV ρ v v' → RelV ρ w1 w' → Gives P ρ w (g v' w') u)
    {l : List V} {l' : List Value} {u : V} (h : fold1A f l = some u) (hl : RelL ρ l l') : ∃ x' r', l' = x' :: r' ∧ Gives P ρ w (r'.foldlM g x') u := by
  cases l with
  | nil => cases h
  | cons x l => cases hl with | cons _ x' _ l' hx hl => exact ⟨x', l', rfl, fold_sound hfg h hx hl⟩

end Go.Ab

namespace Go.Ab
open Go
variable {P : Program} {ρ : Ren} {st st' : St} {w : World} {tb : Tab}

/-! The rest. -/
theorem index_sound (ht : TabOK P tb) {fr : T V} {ev : Operand → Value} (hf : Fits ρ fr ev) {t : TypeId} {x ix : Operand} {v : V} (h0 : oIndex tb fr st t x ix = some (v, st')) :
    st' = st ∧ Gives P ρ w (Instr.index t (ev x) (ev ix)) v := by
  obtain ⟨u, hu, h1⟩ := ob_eq (o := opd fr x) h0
  obtain ⟨iv, hiv, h2⟩ := ob_eq (o := opd fr ix) h1
  obtain ⟨i, hi, h3⟩ := ob_eq h2
  obtain ⟨k, hk⟩ := natOf_sound hi (hf.opd ix iv hiv)
  have hx := hf.opd x u hu
  rw [hk]
  generalize ev x = x' at hx ⊢
  unfold indexA at h3
  cases u <;> first | (cases h3; done) | skip
  case str s =>
    obtain ⟨r, hr, h4⟩ := ob_eq (o := row tb t) h3
    obtain ⟨hd, h5⟩ := gd_eq h4
    obtain ⟨b, hb, h6⟩ := ob_eq h5
    cases h6
    have hu' := strD_und ht hr hd
    rw [lget_eq] at hb
    cases hx
    refine ⟨rfl, .int .u8 (b.toNat : Int), ?_, .int _ _⟩
    have hlt := (List.getElem?_eq_some_iff.1 hb).1
    have hb2 : (ByteArray.mk s.toArray)[i]? = some b := by
      rw [getElem?_pos (ByteArray.mk s.toArray) i (by simpa [ByteArray.size] using hlt)]
      have := (List.getElem?_eq_some_iff.1 hb).2
      simp only [Option.some.injEq]
      rw [← this]
      rfl
    simp [Instr.index, asIntOf, run_underlying hu', hb2]
  case agg cs =>
    obtain ⟨n, re, h4, h5⟩ := ob2_eq (o := arrElem tb t) h3
    obtain ⟨hlt, h6⟩ := gd_eq h5
    obtain ⟨y, hy, h7⟩ := ob_eq h6
    cases h7
    obtain ⟨e, hu', hro⟩ := arrElem_eq ht h4
    have hlt' := blt_true hlt
    cases hx with
    | agg _ cs' hl hs =>
      obtain ⟨y', g1, g2⟩ := part_sound (P := P) (w := w) hro hy hl hs
      refine ⟨rfl, y', ?_, g2⟩
      have hlt2 : (i : Int) < (n : Int) := by omega
      simpa [Instr.index, asIntOf, run_underlying hu', hro.sizeOf, hlt2, hlt'] using g1

theorem extract_sound {fr : T V} {ev : Operand → Value} (hf : Fits ρ fr ev) {t : Operand} {i : Nat} {v : V} (h0 : oExtract fr st t i = some (v, st')) :
    st' = st ∧ Gives P ρ w (Instr.extract (ev t) i) v := by
  obtain ⟨u, hu, h1⟩ := ob_eq (o := opd fr t) h0
  have hx := hf.opd t u hu
  generalize ev t = x' at hx ⊢
  cases u <;> first | (cases h1; done) | skip
  rename_i l
  obtain ⟨y, hy, h2⟩ := ob_eq (o := lget l i) h1
  cases h2
  rw [lget_eq] at hy
  cases hx with
  | tuple _ l' hl =>
    obtain ⟨y', g1, g2⟩ := hl.get hy
    have g1' : l'[i]? = some y' := by simpa using g1
    exact ⟨rfl, y', by simp [Instr.extract, g1'], g2⟩

theorem iface_sound (ht : TabOK P tb) {fr : T V} {ev : Operand → Value} (hf : Fits ρ fr ev) {t : TypeId} {x : Operand} {v : V} (h0 : oIface tb fr st t x = some (v, st')) :
    st' = st ∧ Gives P ρ w (Instr.makeInterface t (ev x)) v := by
  obtain ⟨r, hr, h1⟩ := ob_eq (o := row tb t) h0
  obtain ⟨hb, h2⟩ := bcase_none h1
  obtain ⟨u, hu, h3⟩ := ob_eq (o := opd fr x) h2
  cases h3
  obtain ⟨_, _, _, _, ud, _⟩ := (row_ok ht hr).ex
  refine ⟨rfl, .iface t (ev x), ?_, .iface _ _ _ (hf.opd x u hu)⟩
  simp only [Instr.makeInterface, Sem.run_bind, run_underlying ud, Result.andThen_ok]
  cases hd : r.desc <;> first | (rw [hd] at hb; cases hb; done) | rfl

theorem makeFunc_sound {fr : T V} {ev : Operand → Value} (hf : Fits ρ fr ev) {fn : Fn} {first cap : Array Operand} {v : V} (h0 : oFunc fr st fn first.toList cap.toList = some (v, st')) :
    st' = st ∧ Gives P ρ w (Instr.makeFunc fn (first.map ev) (cap.map ev)) v := by
  obtain ⟨hy, h0⟩ := gd_eq h0
  obtain ⟨a, ha, h1⟩ := ob_eq (o := opds fr first.toList) h0
  obtain ⟨b, hb, h2⟩ := ob_eq (o := opds fr cap.toList) h1
  cases h2
  have hfn : RelFn ρ fn fn := by
    cases fn with
    | func f => exact .func f
    | method n => exact .method n
    | methodOf t n => exact .methodOf t n
    | via t p f b => exact .via t p f b
    | yield l => cases hy
  refine ⟨rfl, .func fn (first.map ev) (cap.map ev), by simp [Instr.makeFunc], .func _ _ _ _ _ _ hfn ?_ ?_⟩
  · simpa using hf.opds ha
  · simpa using hf.opds hb

theorem pick_sound {fr : T V} {ev : Operand → Value} (hf : Fits ρ fr ev) {c a b : Operand} {v : V} (h0 : oPick fr st c a b = some (v, st')) :
    st' = st ∧ Gives P ρ w (do pure (if ← asBool (ev c) then ev a else ev b)) v := by
  obtain ⟨u, hu, h1⟩ := ob_eq (o := opd fr c) h0
  have hx := hf.opd c u hu
  cases u <;> first | (cases h1; done) | skip
  rename_i q
  generalize ev c = c' at hx
  cases hx
  cases q with
  | true =>
    obtain ⟨y, hy, h2⟩ := ob_eq (o := opd fr a) h1
    cases h2
    exact ⟨rfl, ev a, by simp [asBool], hf.opd a v hy⟩
  | false =>
    obtain ⟨y, hy, h2⟩ := ob_eq (o := opd fr b) h1
    cases h2
    exact ⟨rfl, ev b, by simp [asBool], hf.opd b v hy⟩

theorem getObj_of {o : Obj} {g : Nat} (h : w.heap[g]? = some o) (hc : ∀ c e f, o ≠ .cells c e f) : (getObj g).run P w = .ok o w := run_getObj h hc

theorem range_sound (ht : TabOK P tb) (h : Rel ρ st w) {t : TypeId} {r : Row} (hr : row tb t = some r) {x v : V} {x' : Value} (hx : RelV ρ x x') (h0 : rangeV st r.desc x = some (v, st')) :
    Comes1 P ρ st w (Instr.range t x') v st' := by
  obtain ⟨_, _, _, _, ud, _⟩ := (row_ok ht hr).ex
  unfold rangeV at h0
  split at h0
  · rename_i hd
    rw [hd] at ud
    obtain ⟨s, hs, h1⟩ := ob_eq h0
    obtain ⟨b, st1, h2, h3⟩ := ob2_eq h1
    cases h3
    obtain ⟨rfl, rfl⟩ := newBlk_eq h2
    unfold strK at hs
    cases x <;> first | (cases hs; done) | skip
    cases hs
    cases hx
    obtain ⟨g1, g2⟩ := h.new (k := .striter s 0) (o := .stringIter ⟨s.toArray⟩ 0) 0 (.striter _ _ _ _ rfl (Nat.zero_le _) (by simp))
    exact ⟨_, _, .pointer (some ⟨w.heap.size, 0, none⟩), by simp [Instr.range, run_underlying ud], g1, g2, RelV.ptr _ 0 ⟨w.heap.size, 0, 0⟩ (Ren.set_self _ _ _)⟩
  · rename_i a b hd
    rw [hd] at ud
    cases x <;> first | (cases h0; done) | skip
    case nilmap =>
      obtain ⟨b, st1, h2, h3⟩ := ob2_eq (o := newBlk st (.iter none 0 [] 0)) h0
      cases h3
      obtain ⟨rfl, rfl⟩ := newBlk_eq h2
      cases hx
      obtain ⟨g1, g2⟩ := h.new (k := .iter none 0 [] 0) (o := .mapIter none 0 #[] 0) 0 (.iterN _ _ _ _ rfl)
      exact ⟨_, _, .pointer (some ⟨w.heap.size, 0, none⟩), by simp [Instr.range, run_underlying ud], g1, g2, RelV.ptr _ 0 ⟨w.heap.size, 0, 0⟩ (Ren.set_self _ _ _)⟩
    case map m =>
      obtain ⟨c, es, hb, h1⟩ := atMap_eq (b := m) h0
      obtain ⟨b, st1, h2, h3⟩ := ob2_eq h1
      cases h3
      obtain ⟨rfl, rfl⟩ := newBlk_eq h2
      cases hx with
      | map _ p hp =>
        obtain ⟨arr, ho, hes⟩ := h.map hb hp
        obtain ⟨g1, g2⟩ := h.new (k := .iter (some m) c [] c) (o := .mapIter (some p.blk) c #[] c) 0 (.iterS _ _ _ _ _ p rfl ((h.le_set _) _ _ hp))
        exact ⟨_, _, .pointer (some ⟨w.heap.size, 0, none⟩), by simp [Instr.range, run_underlying ud, run_getObj ho], g1, g2, RelV.ptr _ 0 ⟨w.heap.size, 0, 0⟩ (Ren.set_self _ _ _)⟩
  · cases h0

end Go.Ab

namespace Go.Ab
open Go
variable {P : Program} {ρ : Ren} {st st' : St} {w : World} {tb : Tab}

/-! Ranging. -/
theorem beq_false {a b : Nat} (h : a ≠ b) : Nat.beq a b = false := by
  cases hb : Nat.beq a b with
  | false => rfl
  | true => exact absurd (Nat.eq_of_beq_eq_true hb) h

theorem memN_eq (n : Nat) (l : List Nat) : memN n l = l.contains n := by
  induction l with
  | nil => rfl
  | cons a l ih =>
    show bcase (Nat.beq a n) true (memN n l) = _
    rw [ih, List.contains_cons, bcase_eq]
    by_cases e : a = n
    · subst e; simp
    · have h1 : Nat.beq a n = false := beq_false e
      have h2 : (n == a) = false := by simp; omega
      rw [h1, h2]; simp

theorem unseen_sound {seen : List Nat} {es : List Ent} {l : List MapEntry} (h : RelEs ρ es l) : RelEs ρ (unseen seen es) (l.filter fun e => !seen.contains e.born) := by
  induction h with
  | nil => exact .nil
  | cons e e' l l' h _ ih =>
    show RelEs ρ (bcase (memN e.2.2 seen) (unseen seen l) (e :: unseen seen l)) _
    rw [memN_eq, bcase_eq, List.filter_cons, h.2.2]
    by_cases hc : seen.contains e'.born = true
    · rw [if_pos hc]; simp only [hc, Bool.not_true, Bool.false_eq_true, if_false]; exact ih
    · rw [if_neg hc]; simp only [Bool.not_eq_true] at hc; simp only [hc, Bool.not_false, if_true]; exact .cons _ _ _ _ h ih

theorem anyBelow_sound {n : Nat} {es : List Ent} {l : List MapEntry} (h : RelEs ρ es l) (hb : anyBelow n es = true) : l.all (fun e => decide (e.born ≥ n)) = false := by
  induction h with
  | nil => cases hb
  | cons e e' l l' h _ ih =>
    have hb' : bcase (Nat.blt e.2.2 n) true (anyBelow n l) = true := hb
    rw [bcase_eq] at hb'
    rw [List.all_cons]
    by_cases hlt : Nat.blt e.2.2 n = true
    · have := blt_true hlt
      rw [h.2.2] at this
      have : decide (e'.born ≥ n) = false := by simp; omega
      rw [this]; rfl
    · rw [if_neg hlt] at hb'
      rw [ih hb', Bool.and_false]

theorem RelEs.len {es : List Ent} {l : List MapEntry} (h : RelEs ρ es l) : es.length = l.length := by
  induction h with
  | nil => rfl
  | cons _ _ _ _ _ _ ih => simp [ih]

theorem utf_ascii (bs : ByteArray) (pos : Nat) (c : UInt8) (s : List UInt8) (h : bs.data.toList.drop pos = c :: s) (hc : c.toNat < 128) : pos < bs.size ∧ Utf8.decode bs pos = (c.toNat, 1) ∧ bs.data.toList.drop (pos + 1) = s := by
  have hlt : pos < bs.data.toList.length := by
    rcases Nat.lt_or_ge pos bs.data.toList.length with h' | h'
    · exact h'
    · rw [List.drop_eq_nil_of_le h'] at h; cases h
  have hsz : pos < bs.data.size := by simpa using hlt
  have hget : bs.data.toList[pos]? = some c := by
    have : (bs.data.toList.drop pos)[0]? = some c := by rw [h]; rfl
    simpa using this
  have hg : bs.get! (pos + 0) = c := by
    have h2 : bs.data[pos]? = some c := by simpa using hget
    show bs.data[pos]! = c
    rw [getElem!_pos bs.data pos hsz]
    exact (Array.getElem?_eq_some_iff.1 h2).2
  refine ⟨hsz, ?_, ?_⟩
  · unfold Utf8.decode
    simp only [hg]
    rw [if_pos (by omega)]
  · have : bs.data.toList.drop (pos + 1) = (bs.data.toList.drop pos).drop 1 := by rw [List.drop_drop]
    rw [this, h]; rfl

theorem putBlk_eq {st st' : St} {b : Nat} {k : Blk} (h : putBlk st b k = some st') : st' = ⟨st.heap.put b k, st.next⟩ := by
  simp only [putBlk, setBlk, T.force_eq, Option.some.injEq] at h
  exact h.symm

theorem ptrK0 {v : V} {v' : Value} {β : Type} {f : Nat → Option β} {y : β} (h : ptrK v (fun b off => ncase off (f b) fun _ => none) = some y) (hv : RelV ρ v v') :
    ∃ b p, f b = some y ∧ ρ b = some p ∧ v' = .pointer (some ⟨p.blk, p.base, none⟩) := by
  obtain ⟨b, off, rfl, h1⟩ := ptrK_eq h
  cases off with
  | succ k => cases h1
  | zero =>
    cases hv with
    | ptr _ _ p hp => exact ⟨b, p, h1, hp, rfl⟩


theorem ptr0 {v : V} {v' : Value} {β : Type} {f : Nat → Option β} {y : β} (h : ptrK v (fun b off => ncase off (f b) fun _ => none) = some y) (hv : RelV ρ v v') :
    ∃ b p, f b = some y ∧ ρ b = some p ∧ v' = .pointer (some ⟨p.blk, p.base, none⟩) := ptrK0 h hv

theorem next_sound (h : Rel ρ st w) {fr : T V} {ev : Operand → Value} (hf : Fits ρ fr ev) {it : Operand} {isS : Bool} {ty : TypeId} {v : V} (h0 : oNext fr st it isS = some (v, st')) :
    Comes1 P ρ st w (Instr.next (ev it) isS ty) v st' := by
  obtain ⟨u, hu, h1⟩ := ob_eq (o := opd fr it) h0
  have hx := hf.opd it u hu
  obtain ⟨b, p, h2, hp, hv⟩ := ptrK0 (f := fun b => ob (st.heap.get b) (nextB isS st b)) h1 hx
  rw [hv]
  obtain ⟨k, hk, h3⟩ := ob_eq h2
  obtain ⟨p1, o, hp1, ho, hr⟩ := h.blk b k hk
  rw [hp] at hp1; cases hp1
  have hfalse : RelV ρ falseT (.tuple #[.bool false]) := .tuple _ _ (.cons _ _ _ _ (.bool false) .nil)
  unfold nextB at h3
  cases hr with
  | cells => cases h3
  | map => cases h3
  | umap => cases h3
  | loop => cases h3
  | iterN since seen last _ hb =>
    obtain ⟨hs, h4⟩ := bcase_none h3
    subst hs
    cases h4
    refine Gives.comes h ⟨_, ?_, hfalse⟩
    have hg := run_getObj (P := P) ho (fun _ _ _ e => by cases e)
    simp [Instr.next, hb, hg]
  | striter s pos _ bs hb hps hd =>
    obtain ⟨hs, h4⟩ := gd_eq h3
    subst hs
    have hg := run_getObj (P := P) ho (fun _ _ _ e => by cases e)
    cases s with
    | nil =>
      cases h4
      refine Gives.comes h ⟨_, ?_, hfalse⟩
      have : ¬ pos < bs.size := by
        intro hlt
        have hl : (bs.data.toList.drop pos).length = 0 := by rw [hd]; rfl
        have hlt' : pos < bs.data.size := hlt
        rw [List.length_drop, Array.length_toList] at hl
        omega
      simp [Instr.next, hb, hg, this]
    | cons c s =>
      obtain ⟨hc, h5⟩ := gd_eq (b := Nat.blt c.toNat 128) h4
      obtain ⟨st1, h6, h7⟩ := ob_eq h5
      cases h7
      have hst := putBlk_eq h6
      subst hst
      obtain ⟨g1, g2, g3⟩ := utf_ascii bs pos c s hd (blt_true hc)
      obtain ⟨k1, k2⟩ := h.put hk hp (k := .striter s (pos + 1)) (o := .stringIter bs (pos + 1)) (.striter _ _ _ _ hb (by omega) g3) trivial
      refine ⟨ρ, _, .tuple #[.bool true, .int .i64 (pos : Int), .int .i32 (c.toNat : Int)], ?_, k1, k2, .tuple _ _ (.cons _ _ _ _ (.bool true) (.cons _ _ _ _ (.int _ _) (.cons _ _ _ _ (.int _ _) .nil)))⟩
      have hs := run_setObj (P := P) (o' := .stringIter bs (pos + 1)) ho (fun _ _ _ e => by cases e)
      simp [Instr.next, hb, hg, g1, g2, hs, goInt]
  | iterS m since seen last _ q hb hq =>
    obtain ⟨hs, h4⟩ := bcase_none h3
    subst hs
    obtain ⟨clock, es, hm, h5⟩ := atMap_eq (b := m) h4
    obtain ⟨hany, h6⟩ := gd_eq h5
    obtain ⟨arr, hmo, hes⟩ := h.map hm hq
    have hg := run_getObj (P := P) ho (fun _ _ _ e => by cases e)
    have hg2 := run_getObj (P := P) hmo (fun _ _ _ e => by cases e)
    have hun := unseen_sound (seen := seen) hes
    have hcond : (!seen.toArray.isEmpty && !arr.isEmpty && arr.all (fun e => decide (e.born ≥ last))) = false := by
      rw [bcase_eq] at hany
      by_cases hn : anyNil seen es = true
      · have : seen.toArray.isEmpty = true ∨ arr.isEmpty = true := by
          unfold anyNil at hn
          cases seen with
          | nil => left; rfl
          | cons a l =>
            right
            cases es with
            | nil =>
              have h9 := hes.len
              have h10 : arr.size = 0 := by simpa using h9.symm
              simp [Array.isEmpty, h10]
            | cons e es => cases hn
        rcases this with e | e <;> simp [e]
      · rw [if_neg hn] at hany
        have := anyBelow_sound hes hany
        have h8 : arr.all (fun e => decide (e.born ≥ last)) = false := by rw [← Array.all_toList]; exact this
        rw [h8, Bool.and_false]
    have hleft : ∀ f : MapEntry → Bool, (arr.filter f).toList = arr.toList.filter f := fun f => by simp
    generalize hL : (arr.filter fun e => !seen.toArray.contains e.born) = left at *
    have hLl : left.toList = arr.toList.filter fun e => !seen.contains e.born := by rw [← hL]; simp
    rw [← hLl] at hun
    cases hus : unseen seen es with
    | nil =>
      rw [hus] at hun h6
      cases h6
      have : left = #[] := by cases hun' : left.toList with
        | nil => simpa using hun'
        | cons a l => rw [hun'] at hun; cases hun
      refine Gives.comes h ⟨_, ?_, hfalse⟩
      subst this
      simp only [Instr.next, hb, Sem.run_bind, hg, hg2, Result.andThen_ok, hcond, hL, Bool.false_eq_true, if_false]
      have hcand : ((if (Array.filter (fun x : MapEntry => decide (x.born < since)) #[]).isEmpty = true then #[none] else #[]) ++
          Array.map some (Array.filter (fun x : MapEntry => decide (x.born < since)) #[] ++ Array.filter (fun x : MapEntry => decide (x.born ≥ since)) #[])) = #[none] := by simp
      rw [hcand]
      simp [Question.forced]
    | cons e l =>
      rw [hus] at hun h6
      cases l with
      | cons e2 l => cases h6
      | nil =>
        obtain ⟨hlt, h7⟩ := gd_eq (b := Nat.blt e.2.2 since) h6
        obtain ⟨st1, h8, h9⟩ := ob_eq h7
        cases h9
        have hst := putBlk_eq h8
        subst hst
        generalize hll : left.toList = ll at hun
        cases hun with
        | cons _ e' _ l' he hl =>
          cases hl
          have hl1 : left = #[e'] := by apply Array.ext'; simpa using hll
          subst hl1
          have hborn : e'.born < since := by rw [← he.2.2]; exact blt_true hlt
          obtain ⟨k1, k2⟩ := h.put hk hp (k := .iter (some m) since (seen ++ [e.2.2]) clock) (o := .mapIter (some q.blk) since (seen ++ [e.2.2]).toArray clock) (.iterS _ _ _ _ _ q hb hq) trivial
          refine ⟨ρ, _, .tuple #[.bool true, e'.key, e'.val], ?_, k1, k2, .tuple _ _ (.cons _ _ _ _ (.bool true) (.cons _ _ _ _ he.1 (.cons _ _ _ _ he.2.1 .nil)))⟩
          have hs := run_setObj (P := P) (o' := .mapIter (some q.blk) since (seen ++ [e.2.2]).toArray clock) ho (fun _ _ _ e => by cases e)
          have hpush : seen.toArray.push e'.born = (seen ++ [e.2.2]).toArray := by rw [he.2.2]; simp
          simp only [Instr.next, hb, Sem.run_bind, hg, hg2, Result.andThen_ok, hcond, hL, Bool.false_eq_true, if_false]
          have hcand : ((if (Array.filter (fun x : MapEntry => decide (x.born < since)) #[e']).isEmpty = true then #[none] else #[]) ++
              Array.map some (Array.filter (fun x : MapEntry => decide (x.born < since)) #[e'] ++ Array.filter (fun x : MapEntry => decide (x.born ≥ since)) #[e'])) = #[some e'] := by
            have h11 : Array.filter (fun x : MapEntry => decide (x.born < since)) #[e'] = #[e'] := by simp [hborn]
            have h12 : Array.filter (fun x : MapEntry => decide (x.born ≥ since)) #[e'] = #[] := by simp [hborn]
            rw [h11, h12]; simp
          rw [hcand]
          simp [Question.forced, ← hpush] at hs ⊢
          simp [hs]

theorem llast_eq (l : List Nat) : llast l = l.getLast? := by
  induction l with
  | nil => rfl
  | cons a l ih =>
    show ocase (llast l) (some a) some = _
    rw [ih]
    cases l with
    | nil => rfl
    | cons b l => simp [List.getLast?_cons]

theorem mborn_sound {n : Nat} {es : List Ent} {l : List MapEntry} (h : RelEs ρ es l) {k x : V} (h0 : mborn n es = some (k, x)) : ∃ e', l.find? (fun e => e.born == n) = some e' ∧ RelV ρ k e'.key ∧ RelV ρ x e'.val := by
  induction h with
  | nil => cases h0
  | cons e e' l l' h _ ih =>
    have h0' : bcase (Nat.beq e.2.2 n) (some (e.1, e.2.1)) (mborn n l) = some (k, x) := h0
    rcases bcase_some h0' with ⟨hb, h1⟩ | ⟨hb, h1⟩
    · cases h1
      have := beq_true hb
      exact ⟨e', by rw [List.find?_cons, ← h.2.2, this]; simp, h.1, h.2.1⟩
    · obtain ⟨e2, g1, g2⟩ := ih h1
      refine ⟨e2, ?_, g2⟩
      have hne : e.2.2 ≠ n := fun hh => by rw [hh] at hb; simp at hb
      rw [List.find?_cons, ← h.2.2]
      have : (e.2.2 == n) = false := by simpa using hne
      rw [this]; exact g1

theorem entry_sound (h : Rel ρ st w) {fr : T V} {ev : Operand → Value} (hf : Fits ρ fr ev) {it : Operand} {v : V} (h0 : oEntry fr st it = some (v, st')) :
    st' = st ∧ Gives P ρ w (Instr.entry (ev it)) v := by
  obtain ⟨u, hu, h1⟩ := ob_eq (o := opd fr it) h0
  have hx := hf.opd it u hu
  obtain ⟨b, p, h2, hp, hv⟩ := ptrK0 (f := fun b => ob (st.heap.get b) (entryB st)) h1 hx
  rw [hv]
  obtain ⟨k, hk, h3⟩ := ob_eq h2
  obtain ⟨p1, o, hp1, ho, hr⟩ := h.blk b k hk
  rw [hp] at hp1; cases hp1
  unfold entryB at h3
  cases hr with
  | cells => cases h3
  | map => cases h3
  | umap => cases h3
  | loop => cases h3
  | iterN => cases h3
  | striter => cases h3
  | iterS m since seen last _ q hb hq =>
    obtain ⟨n, hn, h4⟩ := ob_eq (o := llast seen) h3
    obtain ⟨clock, es, hm, h5⟩ := atMap_eq (b := m) h4
    obtain ⟨hc, h6⟩ := gd_eq h5
    obtain ⟨k, x, hkx, h7⟩ := ob2_eq h6
    cases h7
    have := beq_true hc
    subst this
    obtain ⟨arr, hmo, hes⟩ := h.map hm hq
    obtain ⟨e', g1, g2, g3⟩ := mborn_sound hes hkx
    rw [llast_eq] at hn
    have hback : seen.toArray.back? = some n := by simpa using hn
    have hfind : arr.find? (fun e => e.born == n) = some e' := by simpa using g1
    have hg := run_getObj (P := P) ho (fun _ _ _ e => by cases e)
    have hg2 := run_getObj (P := P) hmo (fun _ _ _ e => by cases e)
    refine ⟨rfl, .tuple #[e'.key, e'.val], ?_, .tuple _ _ (.cons _ _ _ _ g2 (.cons _ _ _ _ g3 .nil))⟩
    simp [Instr.entry, hb, hg, hg2, hback, hfind]

end Go.Ab
