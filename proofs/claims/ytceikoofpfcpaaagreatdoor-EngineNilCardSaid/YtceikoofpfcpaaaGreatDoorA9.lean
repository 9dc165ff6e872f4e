/-
  A PART OF THE PROOF OF EngineNil's TIED CARD: that a region whose order is drawn answers one thing in every order; the evaluator's calls are sound. No condition beyond those that the theorems below bear.
-/
import Derived.Test.YtceikoofpfcpaaaGreatDoorA8
namespace Go.Ab
open Go
variable {P : Program} {tb : Tab} {call : CallF}

/-- what was made anew, but isn't known yet. -/
structure PendAt (all : List Oper) (W : Nat → V) (ss : List St) (w0 : World) (ρ : Ren) (stk : St) (w : World) (a : Act) (p i D : Nat) : Prop where
  ex : ∃ arr e l mk v' sp sp1, w.heap[D]? = some (.cells arr e (0, 0)) ∧ RelL ρ l arr.toList ∧ (∀ v ∈ l, v.scalar = true) ∧ ss[p]? = some sp ∧ ss[p + 1]? = some sp1 ∧ MadeA sp l mk (W i) sp1 ∧
    (∀ t, dstAt all i = some t → a.tmps[t]? = some v') ∧ ∀ (ρ' : Ren) (id : Nat), ρ' id = some ⟨D, 0, arr.size⟩ → RelV ρ' (mk id) v'
  own : ¬ Own ρ stk D
  new : w0.heap.size ≤ D

noncomputable def posOf (tb : Tab) (all : List Oper) (i : Nat) : Nat := (actors tb all 0).countP fun e => decide (e < i)
noncomputable def doneB (tb : Tab) (all : List Oper) (L : Nat → Bool) (k i : Nat) : Bool := L i && (!freshAt all i || decide (posOf tb all i < k))

structure InvB (tb : Tab) (all : List Oper) (fr : T V) (W : Nat → V) (ss : List St) (ρ0 : Ren) (st : St) (w0 : World) (sz : Nat) (dfs : List Deferred) (L : Nat → Bool) (k : Nat) (a : Act) (w : World) (ρ : Ren) (stk : St) (pd : Nat → Nat) : Prop where
  kle : k ≤ (actors tb all 0).length
  low : ∀ (p e : Nat), p < k → (actors tb all 0)[p]? = some e → L e = true
  act : ∀ (p e : Nat), (actors tb all 0)[p]? = some e → freshAt all e = false → L e = true → p < k
  ssk : ss[k]? = some stk
  rel : Rel ρ stk w
  ext : Ext ρ0 st w0 ρ stk w
  frm : ∃ frx, RelT ρ frx a.tmps ∧ (∀ t, (∀ (p i : Nat), (actors tb all 0)[p]? = some i → k ≤ p → L i = true → dstAt all i ≠ some t) → frx.get t = (FL all W fr (doneB tb all L k) all.length).get t) ∧
    ∀ (t p i : Nat), (actors tb all 0)[p]? = some i → k ≤ p → L i = true → dstAt all i = some t → frx.get t = none
  size : a.tmps.size = sz
  defers : a.defers = dfs
  pend : ∀ (p i : Nat), (actors tb all 0)[p]? = some i → k ≤ p → L i = true → PendAt all W ss w0 ρ stk w a p i (pd i)
  inj : ∀ (p i q j : Nat), (actors tb all 0)[p]? = some i → k ≤ p → L i = true → (actors tb all 0)[q]? = some j → k ≤ q → L j = true → i ≠ j → pd i ≠ pd j

theorem fresh_mem {all : List Oper} {j : Nat} (h : freshAt all j = true) : ∃ p : Nat, (actors tb all 0)[p]? = some j := by
  unfold freshAt at h
  rw [lget_eq] at h
  cases ho : all[j]? with
  | none => rw [ho] at h; cases h
  | some o =>
    rw [ho, ocase_some] at h
    have hs : sortOf tb o.op = 0 := by
      unfold isFresh at h
      cases hg : o.guard with
      | some g => rw [hg] at h; cases h
      | none =>
        rw [hg, ocase_none] at h
        cases hd : o.dst with
        | none => rw [hd] at h; cases h
        | some t =>
          rw [hd, ocase_some] at h
          unfold freshOp at h
          cases hop : o.op <;> rw [hop] at h <;> first | rfl | cases h
    exact List.getElem?_of_mem (actors_mem.2 ⟨j, o, ho, by omega, hs⟩)

theorem ro_free {ρ0 ρ : Ren} {st stk : St} {w0 w : World} (h0 : Rel ρ0 st w0) (_h : Rel ρ stk w) (he : Ext ρ0 st w0 ρ stk w) {D : Nat} (hn : ¬ Own ρ stk D) (hnew : w0.heap.size ≤ D) :
    ∀ b k p', stk.heap.get b = some k → ρ b = some p' → p'.blk ≠ D := by
  intro b k p' hb hp hh
  have hrw : ¬ k.rw := fun hr => hn ⟨b, k, p', hb, hr, hp, hh⟩
  cases k with
  | cells n c ro =>
    cases ro with
    | false => exact hrw rfl
    | true =>
      have h1 := he.ro b n c hb
      obtain ⟨p0, o, hp0, ho, _⟩ := h0.blk b _ h1
      have := he.ren b p0 hp0
      rw [hp] at this; cases this
      have := lt_of_some ho
      omega
  | map => exact hrw trivial
  | umap => exact hrw trivial
  | iter => exact hrw trivial
  | striter => exact hrw trivial
  | loop => exact hrw trivial

theorem materialize {all : List Oper} {fr : T V} {st : St} {fr' : T V} {st' : St} {F : Nat → T V} {W : Nat → V} {ss : List St} (D : DrawnB tb call all fr st fr' st' F W ss) {ρ0 : Ren} {w0 : World} (h0 : Rel ρ0 st w0)
    {sz : Nat} {dfs : List Deferred} {L : Nat → Bool} {k : Nat} {a : Act} {w : World} {ρ : Ren} {stk : St} {pd : Nat → Nat} (h : InvB tb all fr W ss ρ0 st w0 sz dfs L k a w ρ stk pd)
    {i : Nat} (hi : (actors tb all 0)[k]? = some i) (hl : L i = true) : ∃ ρ' stk', ρ.le ρ' ∧ InvB tb all fr W ss ρ0 st w0 sz dfs L (k + 1) a w ρ' stk' pd := by
  have hf : freshAt all i = true := by
    cases hx : freshAt all i with
    | true => rfl
    | false => have := h.act k i hi hx hl; omega
  have hpi := pos_count actors_sorted hi
  obtain ⟨⟨arr, e, l, mk, v', sp, sp1, q1, q2, q3, q4, q5, ⟨q6, q7⟩, q8, q9⟩, hown, hnew⟩ := h.pend k i hi (Nat.le_refl _) hl
  have hsp : sp = stk := by have := h.ssk; rw [q4] at this; cases this; rfl
  subst hsp
  have hfree := ro_free h0 h.rel h.ext hown hnew
  have hle := h.rel.le_set ⟨pd i, 0, arr.size⟩
  have hlen := q2.length
  have hlen' : l.length = arr.size := by simpa using hlen
  have hblk : RelBlk (ρ.set sp.next ⟨pd i, 0, arr.size⟩) (.cells (llen l 0) (putAll l 0 .nil) false) ⟨pd i, 0, arr.size⟩ (.cells arr e (0, 0)) := by
    refine .cells _ _ _ _ _ _ _ _ (by rw [llen_eq]; show 0 + l.length ≤ arr.size; omega) (by show 0 + arr.size ≤ arr.size; omega) (fun _ => .inl rfl) ?_
    intro j u hj hu
    rw [putAll_get] at hu
    split at hu
    · rw [Nat.sub_zero] at hu
      obtain ⟨u', g1, g2⟩ := q2.get hu
      exact ⟨q3 u (List.mem_of_getElem? hu), u', by simpa using g1, g2.mono hle⟩
    · cases hu
  have hrel := h.rel.add (p := ⟨pd i, 0, arr.size⟩) (o := .cells arr e (0, 0)) q1 hblk hfree
  rw [← q7] at hrel
  refine ⟨ρ.set sp.next ⟨pd i, 0, arr.size⟩, sp1, hle, ?_⟩
  have hold : ∀ x, Own (ρ.set sp.next ⟨pd i, 0, arr.size⟩) sp1 x → Own ρ sp x ∨ x = pd i := by
    intro x hx
    rw [q7] at hx
    rcases Own.of_add hx with h1 | h1
    · exact .inl h1
    · exact .inr h1
  refine ⟨?_, ?_, ?_, q5, hrel, ?_, ?_, h.size, h.defers, ?_, ?_⟩
  · have := (List.getElem?_eq_some_iff.1 hi).1; omega
  · intro p e hp he
    by_cases e1 : p = k
    · subst e1; rw [hi] at he; cases he; exact hl
    · exact h.low p e (by omega) he
  · intro p e he hfe hle2
    have := h.act p e he hfe hle2
    omega
  · refine ⟨Ren.le_trans h.ext.ren hle, h.ext.os, h.ext.tape, h.ext.output, h.ext.size, fun x hx hn => ?_, fun b n c hb => ?_⟩
    · obtain ⟨g1, g2⟩ := h.ext.keep x hx hn
      refine ⟨g1, fun ho => ?_⟩
      rcases hold x ho with h1 | h1
      · exact g2 h1
      · omega
    · rw [q7] at hb
      have hb2 : (sp.heap.put sp.next (.cells (llen l 0) (putAll l 0 .nil) false)).get b = some (.cells n c true) := hb
      rw [T.get_put] at hb2
      by_cases e1 : b = sp.next
      · rw [if_pos e1] at hb2; cases hb2
      · rw [if_neg e1] at hb2; exact h.ext.ro b n c hb2
  · have hadd : ∀ j, doneB tb all L (k + 1) j = (doneB tb all L k j || decide (j = i)) := by
      intro j
      by_cases e1 : j = i
      · subst e1
        unfold doneB posOf
        rw [hl, hpi]; simp
      · have e2 : decide (j = i) = false := by simp [e1]
        rw [e2, Bool.or_false]
        unfold doneB
        cases hfj : freshAt all j with
        | false => simp
        | true =>
          obtain ⟨p, hp⟩ := fresh_mem (tb := tb) hfj
          have hpj := pos_count actors_sorted hp
          have hpk : p ≠ k := fun e => by subst e; rw [hi] at hp; cases hp; exact e1 rfl
          have : decide (posOf tb all j < k + 1) = decide (posOf tb all j < k) := by
            unfold posOf; rw [hpj]; congr 1; apply propext; omega
          rw [this]
    have hnd : doneB tb all L k i = false := by unfold doneB posOf; rw [hl, hf, hpi]; simp
    have hiN : i < all.length := by
      obtain ⟨q, o, hq, h6, _⟩ := actors_mem.1 (List.mem_of_getElem? hi)
      have := (List.getElem?_eq_some_iff.1 hq).1
      omega
    have hget := fun x => FL_add (all := all) (W := W) (fr := fr) (L := doneB tb all L k) (L2 := doneB tb all L (k + 1)) (i := i) hnd hadd x all.length hiN (by
      intro j hj1 hj2 _ hdi hdj
      have hoj : all[j]? = some all[j] := by simp [hj2]
      have hdst : dstOf all i = some x := by
        unfold dstOf; rw [lget_eq]
        unfold dstAt at hdi
        cases ho : all[i]? with
        | none => rw [ho] at hdi; cases hdi
        | some o => rw [ho] at hdi; exact hdi
      exact (D.user j _ k i hoj hi hf).2 (by omega) x hdst (by simpa [dstAt, hoj] using hdj))
    obtain ⟨frx, f1, f2, f3⟩ := h.frm
    refine ⟨putT frx (dstAt all i) (W i), ?_, ?_, ?_⟩
    · intro t u hu
      rw [get_putT] at hu
      by_cases e1 : dstAt all i = some t
      · rw [if_pos e1] at hu
        cases hu
        refine ⟨v', q8 t e1, ?_⟩
        rw [q6]
        exact q9 _ _ (Ren.set_self _ _ _)
      · rw [if_neg e1] at hu
        obtain ⟨u', g1, g2⟩ := f1 t u hu
        exact ⟨u', g1, g2.mono hle⟩
    · intro t hno
      rw [hget, get_putT, get_putT]
      by_cases e1 : dstAt all i = some t
      · rw [if_pos e1, if_pos e1]
      · rw [if_neg e1, if_neg e1]
        refine f2 t fun p j hp hkp hlj => ?_
        by_cases hpk : p = k
        · subst hpk; rw [hi] at hp; cases hp; exact e1
        · exact hno p j hp (by omega) hlj
    · intro t p j hp hkp hlj hd
      have hji : j ≠ i := fun e1 => by
        subst e1
        have := pos_count actors_sorted hp
        omega
      rw [get_putT]
      have hne : dstAt all i ≠ some t := by
        intro hdi
        obtain ⟨q, o, hq, h6, _⟩ := actors_mem.1 (List.mem_of_getElem? hp)
        have hqj : q = j := by omega
        subst hqj
        have hdst : dstOf all i = some t := by
          unfold dstOf; rw [lget_eq]
          unfold dstAt at hdi
          cases ho : all[i]? with
          | none => rw [ho] at hdi; cases hdi
          | some o => rw [ho] at hdi; exact hdi
        exact (D.user q o k i hq hi hf).2 (fun e1 => hji e1.symm) t hdst (by simpa [dstAt, hq] using hd)
      rw [if_neg hne]
      exact f3 t p j hp (by omega) hlj hd
  · intro p j hp hkp hlj
    have hne : i ≠ j := fun e1 => by
      subst e1
      have := pos_count actors_sorted hp
      omega
    obtain ⟨⟨arr2, e2, l2, mk2, v2, sp2, sp3, r1, r2, r3, r4⟩, r5, r6⟩ := h.pend p j hp (by omega) hlj
    refine ⟨⟨arr2, e2, l2, mk2, v2, sp2, sp3, r1, r2.mono hle, r3, r4⟩, fun ho => ?_, r6⟩
    rcases hold _ ho with h1 | h1
    · exact r5 h1
    · exact h.inj k i p j hi (Nat.le_refl _) hl hp (by omega) hlj hne h1.symm
  · intro p x q y hp h1 hlx hq h2 hly hne
    exact h.inj p x q y hp (by omega) hlx hq (by omega) hly hne

end Go.Ab

namespace Go.Ab
open Go
variable {P : Program} {tb : Tab} {call : CallF}

theorem materialize_to {all : List Oper} {fr : T V} {st : St} {fr' : T V} {st' : St} {F : Nat → T V} {W : Nat → V} {ss : List St} (D : DrawnB tb call all fr st fr' st' F W ss) {ρ0 : Ren} {w0 : World} (h0 : Rel ρ0 st w0)
    {sz : Nat} {dfs : List Deferred} {L : Nat → Bool} {a : Act} {w : World} {pd : Nat → Nat} : ∀ (d k : Nat) {ρ : Ren} {stk : St}, InvB tb all fr W ss ρ0 st w0 sz dfs L k a w ρ stk pd → k + d ≤ (actors tb all 0).length →
    (∀ (p e : Nat), k ≤ p → p < k + d → (actors tb all 0)[p]? = some e → L e = true) → ∃ ρ' stk', ρ.le ρ' ∧ InvB tb all fr W ss ρ0 st w0 sz dfs L (k + d) a w ρ' stk' pd := by
  intro d
  induction d with
  | zero => intro k ρ stk h _ _; exact ⟨ρ, stk, Ren.le_refl _, h⟩
  | succ d ih =>
    intro k ρ stk h hk hl
    have hkl : k < (actors tb all 0).length := by omega
    have hi : (actors tb all 0)[k]? = some (actors tb all 0)[k] := by simp [hkl]
    obtain ⟨ρ1, st1, g1, g2⟩ := materialize D h0 h hi (hl k _ (Nat.le_refl _) (by omega) hi)
    obtain ⟨ρ2, st2, g3, g4⟩ := ih (k + 1) g2 (by omega) fun p e h1 h2 h3 => hl p e (by omega) (by omega) h3
    exact ⟨ρ2, st2, Ren.le_trans g1 g3, by rw [show k + (d + 1) = k + 1 + d by omega]; exact g4⟩

/-- how far what was made anew is to be known, ahead of an operation that looks at it. -/
theorem need_to (all : List Oper) (o : Oper) (k : Nat) : ∀ n : Nat, ∃ k2, k ≤ k2 ∧ (∀ (p e : Nat), p < n → (actors tb all 0)[p]? = some e → freshAt all e = true → looksAt all o e = true → p + 1 ≤ k2) ∧
    (k2 = k ∨ ∃ p e : Nat, p < n ∧ k2 = p + 1 ∧ (actors tb all 0)[p]? = some e ∧ freshAt all e = true ∧ looksAt all o e = true) := by
  intro n
  induction n with
  | zero => exact ⟨k, Nat.le_refl _, fun p e h => by omega, .inl rfl⟩
  | succ n ih =>
    obtain ⟨k2, h1, h2, h3⟩ := ih
    by_cases hx : n + 1 > k2 ∧ ∃ e, (actors tb all 0)[n]? = some e ∧ freshAt all e = true ∧ looksAt all o e = true
    · obtain ⟨hgt, e, g1, g2, g3⟩ := hx
      refine ⟨n + 1, by omega, fun p e2 hp _ _ _ => by omega, .inr ⟨n, e, by omega, rfl, g1, g2, g3⟩⟩
    · refine ⟨k2, h1, fun p e hp he hf hl => ?_, h3.imp id fun ⟨p, e, g1, g2⟩ => ⟨p, e, by omega, g2⟩⟩
      by_cases hpn : p = n
      · subst hpn
        rcases Nat.lt_or_ge k2 (p + 1) with h4 | h4
        · exact absurd ⟨h4, e, he, hf, hl⟩ hx
        · exact h4
      · exact h2 p e (by omega) he hf hl

end Go.Ab

namespace Go.Ab
open Go
variable {P : Program} {tb : Tab} {call : CallF} {ρ : Ren} {w : World}

theorem isFresh_eq {o : Oper} (h : isFresh o = true) : o.guard = none ∧ (∃ t, o.dst = some t) ∧ freshOp o.op = true := by
  unfold isFresh at h
  cases hg : o.guard with
  | some g => rw [hg] at h; cases h
  | none =>
    rw [hg, ocase_none] at h
    cases hd : o.dst with
    | none => rw [hd] at h; cases h
    | some t => rw [hd, ocase_some] at h; exact ⟨rfl, ⟨t, rfl⟩, h⟩

/-- an operation that makes something anew, in whatever state. -/
theorem fresh_sound (ht : TabOK P tb) {o : Oper} (hfo : freshOp o.op = true) {a : Act} {fr : T V} (hf : Fits ρ fr a.eval) {st1 st2 : St} {v : V} (h0 : opA tb call o.op fr st1 = some (v, st2)) :
    ∃ l mk arr e v', MadeA st1 l mk v st2 ∧ RelL ρ l arr.toList ∧ (∀ v ∈ l, v.scalar = true) ∧ (∀ (ρ' : Ren) (id : Nat), ρ' id = some ⟨w.heap.size, 0, arr.size⟩ → RelV ρ' (mk id) v') ∧
      ∀ (ro : Option Nat) (n : Nat) (next : Act → World → Prop) (Q : Exit → Act → World → Prop), next (a.put o.dst v') { w with heap := w.heap.push (.cells arr e (0, 0)) } → o.wpIn (Fr ro) n P a w next Q := by
  have key : ∀ {s : Sem Value} {l : List V} {mk : Nat → V}, MadeA st1 l mk v st2 → Fresh P ρ w s l mk → (∀ ro, (o.semAt ro a.eval).run P w = (do pure (Next.value (← s)) : Sem Next).run P w) →
      ∃ l mk arr e v', MadeA st1 l mk v st2 ∧ RelL ρ l arr.toList ∧ (∀ v ∈ l, v.scalar = true) ∧ (∀ (ρ' : Ren) (id : Nat), ρ' id = some ⟨w.heap.size, 0, arr.size⟩ → RelV ρ' (mk id) v') ∧
      ∀ (ro : Option Nat) (n : Nat) (next : Act → World → Prop) (Q : Exit → Act → World → Prop), next (a.put o.dst v') { w with heap := w.heap.push (.cells arr e (0, 0)) } → o.wpIn (Fr ro) n P a w next Q := by
    intro s l mk hm hfr hs
    obtain ⟨arr, e, v', g1, g2, g3, g4⟩ := hfr
    refine ⟨l, mk, arr, e, v', hm, g2, g3, g4, fun ro n next Q hn => ⟨fun _ _ => trivial, ?_⟩⟩
    rw [hs]
    simp only [Sem.run_bind, g1, Result.andThen_ok, Sem.run_pure, Oper.uponIn_value]
    exact hn
  have hsem : ∀ ro, o.semAt ro a.eval = execOp a.eval o := fun ro => Oper.semAt_eq _ _ _ (by
    intro c e
    rw [e] at h0
    cases h0)
  cases hop : o.op <;> rw [hop] at hfo <;> first | (cases hfo; done) | skip
  case alloc e =>
    rw [hop] at h0
    obtain ⟨l, mk, g1, g2⟩ := alloc_fresh (P := P) (ρ := ρ) (w := w) ht (show oAlloc tb st1 e = some (v, st2) from h0)
    exact key g1 g2 fun ro => by rw [hsem]; unfold execOp; rw [hop]
  case makeSlice t x y =>
    rw [hop] at h0
    obtain ⟨l, mk, g1, g2⟩ := makeSlice_fresh (P := P) (ρ := ρ) (w := w) ht hf (show oMakeSlice tb fr st1 t x y = some (v, st2) from h0)
    exact key g1 g2 fun ro => by rw [hsem]; unfold execOp; rw [hop]
  case buildSlice t len parts =>
    rw [hop] at h0
    obtain ⟨l, mk, g1, g2⟩ := buildSlice_fresh (P := P) (ρ := ρ) (w := w) ht hf (show oBuildSlice tb fr st1 t len parts.toList = some (v, st2) from h0)
    exact key g1 g2 fun ro => by rw [hsem]; unfold execOp; rw [hop]

theorem put_other (a : Act) (d : Option Tmp) (v : Value) : ∀ t, d ≠ some t → (a.put d v).tmps[t]? = a.tmps[t]? := by
  intro t h
  cases d with
  | none => rfl
  | some x => show (a.tmps.setIfInBounds x v)[t]? = _; rw [Array.getElem?_setIfInBounds_ne (fun e => h (by rw [e]))]

theorem step_sound2 {ro : Option Nat} {n : Nat} {Q : Exit → Act → World → Prop} {st st' : St} (ht : TabOK P tb) (hc : CallOK P call) (hg : Glob ρ) (h : Rel ρ st w) {ops : Array Oper} {o : Oper} {a : Act} {fr : T V} (hfr : RelT ρ fr a.tmps) (hd : dstLt a.tmps.size o.dst = true) {v : V}
    (h0 : stepA tb call ops.toList o fr st = some (v, st')) {K : Act → World → Prop}
    (hK : ∀ ρ' w' a', Rel ρ' st' w' → Ext ρ st w ρ' st' w' → RelT ρ' (putT fr o.dst v) a'.tmps → a'.tmps.size = a.tmps.size → a'.defers = a.defers → (∀ t, o.dst ≠ some t → a'.tmps[t]? = a.tmps[t]?) → K a' w') :
    if Region.wanted o (yielded ops a.tmps) then o.wpIn (Fr ro) n P a w K Q else (∀ f, o.about P w a.eval = some f → (Fr ro).fn f) ∧ K (a.put o.dst undef) w := by
  obtain ⟨b, hb, h1⟩ := ob_eq (o := wantedA ops.toList o fr) h0
  rw [wanted_sound hfr hb]
  cases b with
  | false =>
    cases h1
    refine ⟨fun _ _ => trivial, hK ρ w _ h (Ext.refl _ _ _) (putT_rel hfr (.tuple _ _ .nil) hd) (put_size _ _ _) (put_defers _ _ _) (put_other _ _ _)⟩
  | true =>
    exact op_sound ht hc hg h hfr h1 fun ρ' w' v' q1 q2 q3 => hK ρ' w' _ q1 q2 (putT_rel (hfr.mono q2.ren) q3 hd) (put_size _ _ _) (put_defers _ _ _) (put_other _ _ _)


end Go.Ab

namespace Go.Ab
open Go
variable {P : Program} {tb : Tab} {call : CallF}

theorem draw_anyB (ht : TabOK P tb) (hc : CallOK P call) {ops : Array Oper} {fr : T V} {st : St} {fr' : T V} {st' : St} {F : Nat → T V} {W : Nat → V} {ss : List St} (D : DrawnB tb call ops.toList fr st fr' st' F W ss)
    {ρ0 : Ren} {w0 : World} (hg : Glob ρ0) (h0 : Rel ρ0 st w0) {sz : Nat} {dfs : List Deferred} (hlt : opsLt sz ops.toList = true) {ro : Option Nat} {n : Nat} {Q : Exit → Act → World → Prop}
    (hQ : ∀ ρ' w' a', Rel ρ' st' w' → Ext ρ0 st w0 ρ' st' w' → RelT ρ' fr' a'.tmps → a'.tmps.size = sz → a'.defers = dfs → Q .normal a' w') :
    ∀ (fuel : Nat) (listed : Array Bool) (a : Act) (w : World) (ρ : Ren) (stk : St) (k : Nat) (pd : Nat → Nat), listed.size = ops.size → Closed ops.toList (fun i => listed.getD i false) → (List.range ops.size).countP (fun i => !listed.getD i false) ≤ fuel →
      InvB tb ops.toList fr W ss ρ0 st w0 sz dfs (fun i => listed.getD i false) k a w ρ stk pd → wpAnyIn (Fr ro) n P .any ops Q fuel listed a w := by
  have hN : ops.toList.length = ops.size := by simp
  have hend : ∀ (listed : Array Bool) (a : Act) (w : World) (ρ : Ren) (stk : St) (k : Nat) (pd : Nat → Nat), (∀ i, i < ops.size → listed.getD i false = true) → InvB tb ops.toList fr W ss ρ0 st w0 sz dfs (fun i => listed.getD i false) k a w ρ stk pd → Q .normal a w := by
    intro listed a w ρ stk k pd hall h
    have hmem : ∀ (p e : Nat), (actors tb ops.toList 0)[p]? = some e → listed.getD e false = true := by
      intro p e hp
      obtain ⟨q, o, hq, h6, _⟩ := actors_mem.1 (List.mem_of_getElem? hp)
      have := (List.getElem?_eq_some_iff.1 hq).1
      exact hall e (by omega)
    obtain ⟨ρ1, st1, g1, g⟩ := materialize_to D h0 ((actors tb ops.toList 0).length - k) k h (by have := h.kle; omega) fun p e _ _ hp => hmem p e hp
    rw [show k + ((actors tb ops.toList 0).length - k) = (actors tb ops.toList 0).length by have := h.kle; omega] at g
    have hst := g.ssk
    rw [D.sN] at hst
    cases hst
    obtain ⟨frx, f1, f2, _⟩ := g.frm
    have hT : RelT ρ1 (FL ops.toList W fr (doneB tb ops.toList (fun j => listed.getD j false) (actors tb ops.toList 0).length) ops.toList.length) a.tmps :=
      f1.congr fun x => (f2 x fun p i hp hk _ => by have := (List.getElem?_eq_some_iff.1 hp).1; omega).symm
    have hF : FL ops.toList W fr (doneB tb ops.toList (fun i => listed.getD i false) (actors tb ops.toList 0).length) ops.toList.length = fr' := by
      rw [FL_all D.f0 D.fS _ (Nat.le_refl _) (fun j hj => by
        unfold doneB
        rw [show (fun i => listed.getD i false) j = true from hall j (by omega)]
        cases hf : freshAt ops.toList j with
        | false => rfl
        | true =>
          obtain ⟨p, hp⟩ := fresh_mem (tb := tb) hf
          have h7 := pos_count actors_sorted hp
          have h8 := (List.getElem?_eq_some_iff.1 hp).1
          unfold posOf
          rw [h7]; simp; exact h8)]
      exact D.fN
    rw [hF] at hT
    exact hQ ρ1 w a g.rel g.ext hT g.size g.defers
  -- some operation is next, as long as not all are listed
  have hsome : ∀ (listed : Array Bool), listed.size = ops.size → Region.ready .any ops listed = [] → ∀ i, i < ops.size → listed.getD i false = true := by
    intro listed hls hnil i
    induction i using Nat.strongRecOn with
    | _ i ih =>
      intro hi
      cases hl : listed.getD i false with
      | true => rfl
      | false =>
        exfalso
        have hmem : i ∈ Region.ready .any ops listed := by
          unfold Region.ready
          rw [List.mem_filter]
          refine ⟨by simpa using hi, ?_⟩
          have h1 : listed.getD i true = false := by
            rw [Array.getD_eq_getD_getElem?] at hl ⊢
            have : listed[i]? = some listed[i] := by simp [hls, hi]
            rw [this] at hl ⊢
            exact hl
          rw [h1]
          have ho : ops[i]? = some ops[i] := by simp [hi]
          rw [ho]
          simp only [Option.map_some, Option.getD_some, Bool.not_false, Bool.true_and]
          rw [Array.all_eq_true_iff_forall_mem]
          intro e hem
          rw [binds_any]
          by_cases ha : anyEdge e.ground = true
          · have := backs_eq D.back i ops[i] (by simp) e (by simpa using hem) ha
            rw [ih e.on (by omega) (by omega)]; simp
          · simp only [Bool.not_eq_true] at ha; rw [ha]; rfl
        rw [hnil] at hmem
        cases hmem
  intro fuel
  induction fuel with
  | zero =>
    intro listed a w ρ stk k pd hls hcl hcount h
    have hall : ∀ i, i < ops.size → listed.getD i false = true := by
      intro i hi
      have := List.countP_eq_zero.1 (Nat.le_zero.1 hcount) i (by simpa using hi)
      simpa using this
    refine ⟨?_, hend listed a w ρ stk k pd hall h⟩
    unfold Region.ready
    rw [List.filter_eq_nil_iff]
    intro i hi
    have := hall i (by simpa using hi)
    have h3 : listed.getD i true = true := by
      rw [Array.getD_eq_getD_getElem?] at this ⊢
      cases hx : listed[i]? with
      | none => rfl
      | some b => rw [hx] at this; exact this
    rw [h3]; simp
  | succ fuel ih =>
    intro listed a w ρ stk k pd hls hcl hcount h
    refine ⟨fun hnil => hend listed a w ρ stk k pd (hsome listed hls hnil) h, fun i hi => ?_⟩
    unfold Region.ready at hi
    rw [List.mem_filter] at hi
    obtain ⟨hi1, hi2⟩ := hi
    have hiN : i < ops.size := by simpa using hi1
    have ho : ops[i]? = some ops[i] := by simp [hiN]
    rw [ho] at hi2
    simp only [Option.map_some, Option.getD_some, Bool.and_eq_true, Bool.not_eq_true'] at hi2
    obtain ⟨hi3, hi4⟩ := hi2
    generalize hoi : ops[i] = o at ho hi4
    have hol : ops.toList[i]? = some o := by simpa using ho
    have hnot : listed.getD i false = false := by
      rw [Array.getD_eq_getD_getElem?] at hi3 ⊢
      have : listed[i]? = some listed[i] := by simp [hls, hiN]
      rw [this] at hi3 ⊢
      exact hi3
    have hready : ∀ j, Bf ops.toList i j = true → listed.getD j false = true := by
      intro j hj
      obtain ⟨e, g1, g2, g3, g4⟩ := Bf_edge D.back hol hj
      rw [Array.all_eq_true_iff_forall_mem] at hi4
      have h5 := hi4 e (by simpa using g1)
      rw [binds_any, g2] at h5
      have h6 : listed.getD e.on false = true := by simpa using h5
      rcases g4 with g4 | g4
      · rw [← g4]; exact h6
      · exact hcl _ _ h6 g4
    -- what is listed behind it
    have hset : ∀ j, (listed.setIfInBounds i true).getD j false = (listed.getD j false || decide (j = i)) := by
      intro j
      rw [Array.getD_eq_getD_getElem?, Array.getD_eq_getD_getElem?]
      by_cases e : j = i
      · subst e
        rw [Array.getElem?_setIfInBounds_self_of_lt (by omega)]
        simp
      · rw [Array.getElem?_setIfInBounds_ne (fun hh => e hh.symm)]
        have : decide (j = i) = false := by simp [e]
        rw [this, Bool.or_false]
    have hcl2 : Closed ops.toList (fun j => (listed.setIfInBounds i true).getD j false) := by
      intro x j hx hb
      simp only [hset] at hx ⊢
      by_cases e : x = i
      · subst e; rw [hready j hb]; rfl
      · have : decide (x = i) = false := by simp [e]
        rw [this, Bool.or_false] at hx
        have h9 : listed.getD j false = true := hcl x j hx hb
        rw [h9]; rfl
    have hmemi : sortOf tb o.op = 0 → ∃ p : Nat, (actors tb ops.toList 0)[p]? = some i := fun hs => List.getElem?_of_mem (actors_mem.2 ⟨i, o, hol, by omega, hs⟩)
    have hkle := h.kle
    have hlk : ∀ e, looksAt ops.toList o e = true → ∃ t oe, ops.toList[e]? = some oe ∧ oe.dst = some t ∧ t ∈ looks ops.toList o := by
      intro e hl
      unfold looksAt dstOf at hl
      rw [lget_eq] at hl
      cases hoe : ops.toList[e]? with
      | none => rw [hoe] at hl; cases hl
      | some oe =>
        rw [hoe, ob_some] at hl
        cases hd : oe.dst with
        | none => rw [hd] at hl; cases hl
        | some t => rw [hd, ocase_some] at hl; exact ⟨t, oe, rfl, hd, memN_mem.1 hl⟩
    obtain ⟨k2, hk2, hlen2, hlist2, hneed, hactpos⟩ : ∃ k2, k ≤ k2 ∧ k2 ≤ (actors tb ops.toList 0).length ∧ (∀ (p e : Nat), k ≤ p → p < k2 → (actors tb ops.toList 0)[p]? = some e → listed.getD e false = true) ∧
        (∀ (p e : Nat), (actors tb ops.toList 0)[p]? = some e → freshAt ops.toList e = true → looksAt ops.toList o e = true → p + 1 ≤ k2) ∧ (sortOf tb o.op = 0 → freshAt ops.toList i = false → (actors tb ops.toList 0)[k2]? = some i) := by
      by_cases hA : sortOf tb o.op = 0 ∧ freshAt ops.toList i = false
      · obtain ⟨p, hp⟩ := hmemi hA.1
        have hpl := (List.getElem?_eq_some_iff.1 hp).1
        refine ⟨p, ?_, by omega, fun q e _ hqp he => hready e (D.chain p i hp hA.2 q e hqp he), fun q e he hf hl => ?_, fun _ _ => hp⟩
        · rcases Nat.lt_or_ge p k with h1 | h1
          · have h2 : listed.getD i false = true := h.low p i h1 hp
            rw [hnot] at h2; cases h2
          · exact h1
        · have h1 := ((D.user i o q e hol he hf).1 hl).1
          have := (pos_lt actors_sorted he hp).2 h1
          omega
      · obtain ⟨k2, g1, g2, g3⟩ := need_to (tb := tb) ops.toList o k (actors tb ops.toList 0).length
        refine ⟨k2, g1, ?_, ?_, fun p e he hf hl => g2 p e (List.getElem?_eq_some_iff.1 he).1 he hf hl, fun h1 h2 => absurd ⟨h1, h2⟩ hA⟩
        · rcases g3 with g3 | ⟨p, e, q1, q2, _⟩ <;> omega
        · intro p e hkp hp he
          rcases g3 with g3 | ⟨p2, e2, q1, q2, q3, q4, q5⟩
          · omega
          · have hu := (D.user i o p2 e2 hol q3 q4).1 q5
            by_cases hpp : p = p2
            · subst hpp
              have hee : e2 = e := by rw [q3] at he; exact Option.some.inj he
              subst hee
              obtain ⟨t, oe, r1, r2, r3⟩ := hlk e2 q5
              rcases D.agree i e2 o oe hol hu.1 r1 with hb | hb
              · exact hready _ hb
              · exact absurd r3 ((agreeT_eq hb).1 t r2).1
            · exact hready e (hu.2 p e (by omega) he)
    obtain ⟨ρ2, stk2, hle2, h2⟩ := materialize_to D h0 (k2 - k) k h (by omega) fun p e h1 h2 h3 => hlist2 p e h1 (by omega) h3
    rw [show k + (k2 - k) = k2 by omega] at h2
    have hlooks : ∀ t ∈ looks ops.toList o, (F i).get t = (FL ops.toList W fr (doneB tb ops.toList (fun j => listed.getD j false) k2) ops.toList.length).get t := by
      intro t htl
      have hdl : ∀ j, doneB tb ops.toList (fun j => listed.getD j false) k2 j = true → listed.getD j false = true := by
        intro j hj
        unfold doneB at hj
        exact (Bool.and_eq_true_iff.1 hj).1
      have h5 := FL_above (all := ops.toList) (W := W) (fr := fr) (L := doneB tb ops.toList (fun j => listed.getD j false) k2) (i := i) (x := t) ops.toList.length (by omega) (by
        intro j hj1 hj2 hlj hd
        have hlj := hdl j hlj
        by_cases e : j = i
        · subst e; rw [hnot] at hlj; cases hlj
        · have hoj : ops.toList[j]? = some ops.toList[j] := by simp at hj2; simp [hj2]
          rcases D.agree j i _ o hoj (by omega) hol with hb | hb
          · have h9 : listed.getD i false = true := hcl j i hlj hb
            rw [hnot] at h9; cases h9
          · have hdj : ops.toList[j].dst = some t := by simpa [dstAt, hoj] using hd
            exact (agreeT_eq hb).2 t hdj htl)
      rw [h5]
      exact (FL_below D.f0 D.fS i (by omega) (by
        intro j hj hd
        have hjN : j < ops.toList.length := by omega
        have hoj : ops.toList[j]? = some ops.toList[j] := by simp at hjN; simp [hjN]
        have hdj : ops.toList[j].dst = some t := by simpa [dstAt, hoj] using hd
        have hlj : listed.getD j false = true := by
          rcases D.agree i j o _ hol hj hoj with hb | hb
          · exact hready j hb
          · exact absurd htl ((agreeT_eq hb).1 t hdj).1
        unfold doneB
        rw [show (fun j => listed.getD j false) j = true from hlj]
        cases hf : freshAt ops.toList j with
        | false => rfl
        | true =>
          obtain ⟨p, hp⟩ := fresh_mem (tb := tb) hf
          have h7 := pos_count actors_sorted hp
          have hlo : looksAt ops.toList o j = true := by
            unfold looksAt dstOf
            rw [lget_eq, hoj, ob_some, hdj, ocase_some]
            exact memN_mem.2 htl
          have h8 := hneed p j hp hf hlo
          unfold posOf
          rw [h7]; simp; omega)).symm
    obtain ⟨frx, f1, f2, f3⟩ := h2.frm
    have hlx : ∀ t ∈ looks ops.toList o, (F i).get t = frx.get t := by
      intro t htl
      rw [f2 t (by
        intro p e hp hkp hle hd
        have hfe : freshAt ops.toList e = true := by
          cases hx : freshAt ops.toList e with
          | true => rfl
          | false => have := h2.act p e hp hx hle; omega
        have hlo : looksAt ops.toList o e = true := by
          unfold looksAt dstOf
          rw [lget_eq]
          unfold dstAt at hd
          cases hoe : ops.toList[e]? with
          | none => rw [hoe] at hd; cases hd
          | some oe =>
            rw [hoe] at hd
            have hd' : oe.dst = some t := hd
            rw [ob_some, hd', ocase_some]
            exact memN_mem.2 htl
        have := hneed p e hp hfe hlo
        omega)]
      exact hlooks t htl
    have hL2 : ∀ (q e : Nat), q < k2 → (actors tb ops.toList 0)[q]? = some e → Bf ops.toList e i = true → False := by
      intro q e hq he hb
      have h8 : listed.getD e false = true := h2.low q e hq he
      have h9 : listed.getD i false = true := hcl e i h8 hb
      rw [hnot] at h9; cases h9
    have hcnt2 : (List.range ops.size).countP (fun j => !(listed.setIfInBounds i true).getD j false) ≤ fuel := by
      have := countP_drop (l := List.range ops.size) (p := fun j => !listed.getD j false) (p' := fun j => !(listed.setIfInBounds i true).getD j false) (i := i) (by simpa using hiN) (by simp only [hnot]; rfl) (by simp only [hset]; simp) (by
        intro x hx
        simp only [hset] at hx
        simp at hx ⊢
        exact hx.1)
      omega
    by_cases hfi : freshAt ops.toList i = true
    · obtain ⟨p0, hp0⟩ := fresh_mem (tb := tb) hfi
      have hp0l := (List.getElem?_eq_some_iff.1 hp0).1
      have hfo : isFresh o = true := by
        unfold freshAt at hfi
        rw [lget_eq, hol, ocase_some] at hfi
        exact hfi
      obtain ⟨hgn, ⟨t0, hdst⟩, hfop⟩ := isFresh_eq hfo
      have hdi : dstAt ops.toList i = some t0 := by simp [dstAt, hol, hdst]
      have hdo : dstOf ops.toList i = some t0 := by unfold dstOf; rw [lget_eq, hol, ob_some, hdst]
      have hkp : k2 ≤ p0 := by
        rcases Nat.lt_or_ge p0 k2 with h8 | h8
        · have h9 : listed.getD i false = true := h2.low p0 i h8 hp0
          rw [hnot] at h9; cases h9
        · exact h8
      obtain ⟨st1, st2, q1, q2, q3⟩ := D.next i o p0 hol (fun _ => hp0) (by omega) (by
        intro p e he hb
        have hei : e < i := by
          cases hx : freshAt ops.toList e with
          | true => rw [hx, bcase_true] at hb; exact ((D.user i o p e hol he hx).1 hb).1
          | false => rw [hx, bcase_false] at hb; exact Bf_lt D.back hb
        exact (pos_lt actors_sorted he hp0).2 hei) (by
        intro p e he hx hb
        have := (pos_lt actors_sorted hp0 he).2 (Bf_lt D.back hb)
        omega)
      have hs0 : sortOf tb o.op = 0 := by
        obtain ⟨q, o2, g1, g2, g3⟩ := actors_mem.1 (List.mem_of_getElem? hp0)
        have hqi : q = i := by omega
        rw [hqi, hol] at g1
        cases g1
        exact g3
      rw [if_pos hs0] at q3
      rw [stepA_congr hlx] at q2
      have hwt : wantedA ops.toList o frx = some true := by unfold wantedA; rw [hgn]; rfl
      have q4 : opA tb call o.op frx st1 = some (W i, st2) := by
        unfold stepA at q2
        rw [hwt] at q2
        exact q2
      obtain ⟨l, mk, arr, e, v', m1, m2, m3, m4, m5⟩ := fresh_sound (P := P) (w := w) ht hfop (fits_of f1 (hg.mono h2.ext.ren)) q4
      have hdlt : dstLt a.tmps.size o.dst = true := by rw [h2.size]; exact opsLt_get hlt o (List.mem_of_getElem? hol)
      have ht0 : t0 < a.tmps.size := by
        rw [hdst] at hdlt
        have : Nat.blt t0 a.tmps.size = true := hdlt
        simpa using this
      obtain ⟨r1, r2⟩ := h2.rel.push (.cells arr e (0, 0))
      have hlisted : ∀ j, j ≠ i → (listed.setIfInBounds i true).getD j false = listed.getD j false := by
        intro j hj
        rw [hset j]; simp [hj]
      have hpendlt : ∀ (p j : Nat), (actors tb ops.toList 0)[p]? = some j → k2 ≤ p → listed.getD j false = true → pd j < w.heap.size := by
        intro p j hp hkp2 hlj
        obtain ⟨⟨arr2, e2, l2, mk2, v2, sp2, sp3, z1, _⟩, _, _⟩ := h2.pend p j hp hkp2 hlj
        exact lt_of_some z1
      have hnd0 : doneB tb ops.toList (fun j => (listed.setIfInBounds i true).getD j false) k2 = doneB tb ops.toList (fun j => listed.getD j false) k2 := by
        funext j
        by_cases hji : j = i
        · subst hji
          have h7 := pos_count actors_sorted hp0
          unfold doneB posOf
          rw [h7, hfi]
          have h8 : decide (p0 < k2) = false := by simp; omega
          rw [h8]; simp
        · unfold doneB
          show ((listed.setIfInBounds i true).getD j false && _) = (listed.getD j false && _)
          rw [hlisted j hji]
      have hinv : InvB tb ops.toList fr W ss ρ0 st w0 sz dfs (fun j => (listed.setIfInBounds i true).getD j false) k2 (a.put o.dst v') { w with heap := w.heap.push (.cells arr e (0, 0)) } ρ2 stk2 (fun j => if j = i then w.heap.size else pd j) := by
        refine ⟨h2.kle, ?_, ?_, h2.ssk, r1, h2.ext.trans r2, ?_, (put_size _ _ _).trans h2.size, (put_defers _ _ _).trans h2.defers, ?_, ?_⟩
        · intro p j hp hj
          show (listed.setIfInBounds i true).getD j false = true
          have h8 : listed.getD j false = true := h2.low p j hp hj
          rw [hset j, h8]; rfl
        · intro p j hj hfj hlj
          by_cases hji : j = i
          · subst hji; rw [hfi] at hfj; cases hfj
          · have hlj' : (listed.setIfInBounds i true).getD j false = true := hlj
            rw [hlisted j hji] at hlj'
            exact h2.act p j hj hfj hlj'
        · refine ⟨frx.del t0, ?_, ?_, ?_⟩
          · intro t u hu
            rw [T.get_del] at hu
            by_cases e1 : t = t0
            · rw [if_pos e1] at hu; cases hu
            · rw [if_neg e1] at hu
              obtain ⟨u', g1, g2⟩ := f1 t u hu
              refine ⟨u', ?_, g2⟩
              rw [put_other _ _ _ t (by rw [hdst]; intro hh; exact e1 (Option.some.inj hh).symm)]
              exact g1
          · intro t hno
            have e1 : t ≠ t0 := fun hh => hno p0 i hp0 hkp (by rw [hset i]; simp) (by rw [hdi, hh])
            rw [T.get_del, if_neg e1, hnd0]
            refine f2 t fun p j hp hkp2 hlj => hno p j hp hkp2 ?_
            have hlj' : listed.getD j false = true := hlj
            show (listed.setIfInBounds i true).getD j false = true
            rw [hset j, hlj']; rfl
          · intro t p j hp hkp2 hlj hd
            rw [T.get_del]
            by_cases e1 : t = t0
            · rw [if_pos e1]
            · rw [if_neg e1]
              have hji : j ≠ i := fun hh => by subst hh; rw [hdi] at hd; exact e1 (Option.some.inj hd).symm
              have hlj' : (listed.setIfInBounds i true).getD j false = true := hlj
              rw [hlisted j hji] at hlj'
              exact f3 t p j hp hkp2 hlj' hd
        · intro p j hp hkp2 hlj
          by_cases hji : j = i
          · subst hji
            have hpp : p = p0 := by
              have h7 := pos_count actors_sorted hp
              have h8 := pos_count actors_sorted hp0
              omega
            subst hpp
            simp only [if_pos]
            refine ⟨⟨arr, e, l, mk, v', st1, st2, by simp, m2, m3, q1, q3, m1, ?_, m4⟩, ?_, h2.ext.size⟩
            · intro t hd
              rw [hdi] at hd
              cases hd
              show ((a.put o.dst v').tmps)[t0]? = some v'
              rw [hdst]
              show (a.tmps.setIfInBounds t0 v')[t0]? = some v'
              rw [Array.getElem?_setIfInBounds_self_of_lt ht0]
            · rintro ⟨b, kb, pb, g1, g2, g3, g4⟩
              obtain ⟨pb', ob', g5, g6, _⟩ := h2.rel.blk b kb g1
              rw [g3] at g5; cases g5
              have := lt_of_some g6
              omega
          · have hlj' : (listed.setIfInBounds i true).getD j false = true := hlj
            rw [hlisted j hji] at hlj'
            have hlt2 := hpendlt p j hp hkp2 hlj'
            obtain ⟨⟨arr2, e2, l2, mk2, v2, sp2, sp3, z1, z2, z3, z4, z5, z6, z7, z8⟩, z9, z10⟩ := h2.pend p j hp hkp2 hlj'
            have hfj : freshAt ops.toList j = true := by
              cases hx : freshAt ops.toList j with
              | true => rfl
              | false => have := h2.act p j hp hx hlj'; omega
            simp only [if_neg hji]
            refine ⟨⟨arr2, e2, l2, mk2, v2, sp2, sp3, ?_, z2, z3, z4, z5, z6, ?_, z8⟩, z9, z10⟩
            · show (w.heap.push (.cells arr e (0, 0)))[pd j]? = _
              rw [Array.getElem?_push_lt hlt2, ← z1]
              simp [hlt2]
            · intro t hd
              have hdj : dstOf ops.toList j = some t := by
                unfold dstOf; rw [lget_eq]
                unfold dstAt at hd
                cases hoj : ops.toList[j]? with
                | none => rw [hoj] at hd; cases hd
                | some oj => rw [hoj] at hd; exact hd
              rw [put_other _ _ _ t ((D.user i o p j hol hp hfj).2 hji t hdj)]
              exact z7 t hd
        · intro p x q y hp hkp2 hlx2 hq hkq2 hly2 hne
          have hlx' : (listed.setIfInBounds i true).getD x false = true := hlx2
          have hly' : (listed.setIfInBounds i true).getD y false = true := hly2
          by_cases hxi : x = i
          · have hyi : y ≠ i := fun hh => hne (by rw [hxi, hh])
            rw [hlisted y hyi] at hly'
            have := hpendlt q y hq hkq2 hly'
            simp only [if_pos hxi, if_neg hyi]; omega
          · rw [hlisted x hxi] at hlx'
            have h7 := hpendlt p x hp hkp2 hlx'
            by_cases hyi : y = i
            · simp only [if_neg hxi, if_pos hyi]; omega
            · rw [hlisted y hyi] at hly'
              simp only [if_neg hxi, if_neg hyi]
              exact h2.inj p x q y hp hkp2 hlx' hq hkq2 hly' hne
      unfold wpOpIn
      rw [ho]
      show if Region.wanted o (yielded ops a.tmps) = true then _ else _
      rw [wanted_sound f1 hwt]
      rw [if_pos rfl]
      refine m5 ro n _ Q (ih (listed.setIfInBounds i true) _ _ ρ2 stk2 k2 _ (by simp [hls]) hcl2 ?_ hinv)
      exact hcnt2
    · have hfi' : freshAt ops.toList i = false := by simpa using hfi
      obtain ⟨st1, st2, q1, q2, q3⟩ := D.next i o k2 hol (fun hs => hactpos hs hfi') hlen2 (by
        intro p e he hb
        cases hx : freshAt ops.toList e with
        | true => rw [hx, bcase_true] at hb; exact hneed p e he hx hb
        | false =>
          rw [hx, bcase_false] at hb
          have h8 : listed.getD e false = true := hready e hb
          have := h2.act p e he hx h8
          omega) (by
        intro p e he hx hb
        rcases Nat.lt_or_ge p k2 with h8 | h8
        · exact (hL2 p e h8 he hb).elim
        · exact h8)
      rw [h2.ssk] at q1
      cases q1
      rw [stepA_congr hlx] at q2
      have hdlt : dstLt a.tmps.size o.dst = true := by rw [h2.size]; exact opsLt_get hlt o (List.mem_of_getElem? hol)
      have hstep := step_sound2 (ro := ro) (n := n) (Q := Q) ht hc (hg.mono h2.ext.ren) h2.rel (ops := ops) f1 hdlt q2 (K := wpAnyIn (Fr ro) n P .any ops Q fuel (listed.setIfInBounds i true)) (by
        intro ρ' w' a' r1 r2 r3 r4 r5 r6
        have hlisted : ∀ j, j ≠ i → (listed.setIfInBounds i true).getD j false = listed.getD j false := by
          intro j hj
          rw [hset j]; simp [hj]
        have hfl : ∀ (p j : Nat), (actors tb ops.toList 0)[p]? = some j → k2 ≤ p → listed.getD j false = true → freshAt ops.toList j = true := by
          intro p j hp hkp hlj
          cases hx : freshAt ops.toList j with
          | true => rfl
          | false => have := h2.act p j hp hx hlj; omega
        -- what is pending stays so, and nothing more is
        have hpe : ∀ (p j : Nat), (actors tb ops.toList 0)[p]? = some j → (k2 + if sortOf tb o.op = 0 then 1 else 0) ≤ p → (listed.setIfInBounds i true).getD j false = true → k2 ≤ p ∧ j ≠ i ∧ listed.getD j false = true := by
          intro p j hp hkp hlj
          have hji : j ≠ i := by
            intro hh
            subst hh
            have hs0 : sortOf tb o.op = 0 := by
              obtain ⟨q, o2, g1, g2, g3⟩ := actors_mem.1 (List.mem_of_getElem? hp)
              have hqi : q = j := by omega
              rw [hqi, hol] at g1
              cases g1
              exact g3
            rw [if_pos hs0] at hkp
            have h7 := pos_count actors_sorted hp
            have h8 := pos_count actors_sorted (hactpos hs0 hfi')
            omega
          rw [hlisted j hji] at hlj
          exact ⟨by omega, hji, hlj⟩
        have hpe2 : ∀ (p j : Nat), (actors tb ops.toList 0)[p]? = some j → k2 ≤ p → listed.getD j false = true → (k2 + if sortOf tb o.op = 0 then 1 else 0) ≤ p ∧ (listed.setIfInBounds i true).getD j false = true := by
          intro p j hp hkp hlj
          refine ⟨?_, by rw [hset j, hlj]; rfl⟩
          by_cases hs : sortOf tb o.op = 0
          · rw [if_pos hs]
            have hne : p ≠ k2 := fun hh => by
              subst hh
              rw [hactpos hs hfi'] at hp
              cases hp
              rw [hnot] at hlj; cases hlj
            omega
          · rw [if_neg hs]; exact hkp
        have hdo : dstAt ops.toList i = o.dst := by simp [dstAt, hol]
        have hne_dst : ∀ (p j t : Nat), (actors tb ops.toList 0)[p]? = some j → k2 ≤ p → listed.getD j false = true → dstAt ops.toList j = some t → o.dst ≠ some t := by
          intro p j t hp hkp hlj hd
          have hji : j ≠ i := fun hh => by subst hh; rw [hnot] at hlj; cases hlj
          have hdj : dstOf ops.toList j = some t := by
            unfold dstOf; rw [lget_eq]
            unfold dstAt at hd
            cases hoj : ops.toList[j]? with
            | none => rw [hoj] at hd; cases hd
            | some oj => rw [hoj] at hd; exact hd
          exact (D.user i o p j hol hp (hfl p j hp hkp hlj)).2 hji t hdj
        have hdone : ∀ j, doneB tb ops.toList (fun j => (listed.setIfInBounds i true).getD j false) (k2 + if sortOf tb o.op = 0 then 1 else 0) j = (doneB tb ops.toList (fun j => listed.getD j false) k2 j || decide (j = i)) := by
          intro j
          by_cases hji : j = i
          · subst hji
            unfold doneB
            show ((listed.setIfInBounds j true).getD j false && _) = _
            rw [hset j, hfi']; simp
          · have e2 : decide (j = i) = false := by simp [hji]
            rw [e2, Bool.or_false]
            unfold doneB
            show ((listed.setIfInBounds i true).getD j false && _) = (listed.getD j false && _)
            rw [hlisted j hji]
            cases hfj : freshAt ops.toList j with
            | false => simp
            | true =>
              obtain ⟨p, hp⟩ := fresh_mem (tb := tb) hfj
              have hpj := pos_count actors_sorted hp
              have : decide (posOf tb ops.toList j < (k2 + if sortOf tb o.op = 0 then 1 else 0)) = decide (posOf tb ops.toList j < k2) := by
                unfold posOf; rw [hpj]; congr 1; apply propext
                by_cases hs : sortOf tb o.op = 0
                · rw [if_pos hs]
                  have hne : p ≠ k2 := fun hh => by
                    subst hh
                    rw [hactpos hs hfi'] at hp
                    cases hp
                    exact hji rfl
                  omega
                · rw [if_neg hs]; rfl
              rw [this]
        have hnd : doneB tb ops.toList (fun j => listed.getD j false) k2 i = false := by
          unfold doneB
          show (listed.getD i false && _) = false
          rw [hnot]; rfl
        have hget := fun x => FL_add (all := ops.toList) (W := W) (fr := fr) (L := doneB tb ops.toList (fun j => listed.getD j false) k2) (L2 := doneB tb ops.toList (fun j => (listed.setIfInBounds i true).getD j false) (k2 + if sortOf tb o.op = 0 then 1 else 0)) (i := i) hnd hdone x ops.toList.length (by omega) (by
          intro j hj1 hj2 hlj hdi hdj
          have hlj' : listed.getD j false = true := by
            unfold doneB at hlj
            exact (Bool.and_eq_true_iff.1 hlj).1
          have hoj : ops.toList[j]? = some ops.toList[j] := by simp at hj2; simp [hj2]
          rcases D.agree j i _ o hoj hj1 hol with hb | hb
          · have h9 : listed.getD i false = true := hcl j i hlj' hb
            rw [hnot] at h9; cases h9
          · have hdj' : ops.toList[j].dst = some x := by simpa [dstAt, hoj] using hdj
            exact ((agreeT_eq hb).1 x (by rw [← hdo]; exact hdi)).2 hdj')
        refine ih (listed.setIfInBounds i true) a' w' ρ' st2 (k2 + if sortOf tb o.op = 0 then 1 else 0) pd (by simp [hls]) hcl2 hcnt2 ⟨?_, ?_, ?_, q3, r1, h2.ext.trans r2, ?_, r4.trans h2.size, r5.trans h2.defers, ?_, ?_⟩
        · by_cases hs : sortOf tb o.op = 0
          · rw [if_pos hs]
            have := (List.getElem?_eq_some_iff.1 (hactpos hs hfi')).1
            omega
          · rw [if_neg hs]; exact hlen2
        · intro p e hp he
          show (listed.setIfInBounds i true).getD e false = true
          by_cases hei : e = i
          · subst hei; rw [hset e]; simp
          · rw [hlisted e hei]
            refine h2.low p e ?_ he
            by_cases hs : sortOf tb o.op = 0
            · rw [if_pos hs] at hp
              have hne : p ≠ k2 := fun hh => by
                subst hh
                rw [hactpos hs hfi'] at he
                cases he
                exact hei rfl
              omega
            · rw [if_neg hs] at hp; exact hp
        · intro p e he hfe hle
          have hle' : (listed.setIfInBounds i true).getD e false = true := hle
          by_cases hei : e = i
          · subst hei
            have hs0 : sortOf tb o.op = 0 := by
              obtain ⟨q, o2, g1, g2, g3⟩ := actors_mem.1 (List.mem_of_getElem? he)
              have hqi : q = e := by omega
              rw [hqi, hol] at g1
              cases g1
              exact g3
            have h7 := pos_count actors_sorted he
            have h8 := pos_count actors_sorted (hactpos hs0 hfi')
            rw [if_pos hs0]; omega
          · rw [hlisted e hei] at hle'
            have := h2.act p e he hfe hle'
            omega
        · refine ⟨putT frx o.dst (W i), r3, ?_, ?_⟩
          · intro t hno
            rw [hget, hdo, get_putT, get_putT]
            by_cases e1 : o.dst = some t
            · rw [if_pos e1, if_pos e1]
            · rw [if_neg e1, if_neg e1]
              refine f2 t fun p j hp hkp hlj => ?_
              obtain ⟨g1, g2⟩ := hpe2 p j hp hkp hlj
              exact hno p j hp g1 g2
          · intro t p j hp hkp hlj hd
            obtain ⟨g1, g2, g3⟩ := hpe p j hp hkp hlj
            rw [get_putT, if_neg (hne_dst p j t hp g1 g3 hd)]
            exact f3 t p j hp g1 g3 hd
        · intro p j hp hkp hlj
          obtain ⟨g1, g2, g3⟩ := hpe p j hp hkp hlj
          obtain ⟨⟨arr2, e2, l2, mk2, v2, sp2, sp3, z1, z2, z3, z4, z5, z6, z7, z8⟩, z9, z10⟩ := h2.pend p j hp g1 g3
          obtain ⟨y1, y2⟩ := r2.keep (pd j) (lt_of_some z1) z9
          refine ⟨⟨arr2, e2, l2, mk2, v2, sp2, sp3, y1.trans z1, z2.mono r2.ren, z3, z4, z5, z6, ?_, z8⟩, y2, z10⟩
          intro t hd
          rw [r6 t (hne_dst p j t hp g1 g3 hd)]
          exact z7 t hd
        · intro p x q y hp hkp hlx2 hq hkq hly2 hne
          obtain ⟨g1, _, g3⟩ := hpe p x hp hkp hlx2
          obtain ⟨g4, _, g6⟩ := hpe q y hq hkq hly2
          exact h2.inj p x q y hp g1 g3 hq g4 g6 hne)
      unfold wpOpIn
      rw [ho]
      exact hstep

end Go.Ab

namespace Go.Ab
open Go
variable {P : Program} {tb : Tab} {call : CallF} {ρ : Ren} {w : World}

/-! Regions that hold a map's literal: what their plan says. -/
theorem insAt_eq {t : Tmp} {o : Op} {q : TypeId × Operand × Operand} (h : insAt t o = some q) : o = .insert q.1 (.tmp t) q.2.1 q.2.2 := by
  unfold insAt at h
  split at h
  · rename_i ty m k x
    rcases bcase_some h with ⟨h1, h2⟩ | ⟨_, h2⟩
    · cases h2; rw [beq_true h1]
    · cases h2
  · cases h
theorem isIns_eq {t : Tmp} {o : Oper} (h : isIns t o = true) : ∃ q, insAt t o.op = some q := by
  unfold isIns at h
  cases hq : insAt t o.op with
  | none => rw [hq] at h; cases h
  | some q => exact ⟨q, rfl⟩
theorem isMM_eq {o : Op} (h : isMM o = true) : ∃ ty, o = .makeMap ty none := by
  unfold isMM at h
  split at h
  · exact ⟨_, rfl⟩
  · cases h
theorem mmAt_eq {o : Oper} {t : Tmp} (h : mmAt o = some t) : o.guard = none ∧ o.dst = some t ∧ ∃ ty, o.op = .makeMap ty none := by
  unfold mmAt at h
  cases hg : o.guard with
  | some g => rw [hg] at h; cases h
  | none =>
    rw [hg, ocase_none] at h
    rcases bcase_some h with ⟨h1, h2⟩ | ⟨_, h2⟩
    · exact ⟨rfl, h2, isMM_eq h1⟩
    · cases h2
theorem findMM_eq : ∀ {l : List Oper} {i m : Nat} {t : Tmp}, findMM l i = some (m, t) → i ≤ m ∧ ∃ o, l[m - i]? = some o ∧ mmAt o = some t := by
  intro l
  induction l with
  | nil => intro i m t h; cases h
  | cons o l ih =>
    intro i m t h
    have h' : ocase (mmAt o) (findMM l (i + 1)) (fun t => some (i, t)) = some (m, t) := h
    cases hm : mmAt o with
    | some u =>
      rw [hm] at h'
      cases h'
      exact ⟨Nat.le_refl _, o, by simp, hm⟩
    | none =>
      rw [hm, ocase_none] at h'
      obtain ⟨h1, o2, h2, h3⟩ := ih h'
      refine ⟨by omega, o2, ?_, h3⟩
      rw [show m - i = (m - (i + 1)) + 1 by omega]
      simpa using h2

theorem dumbed_get {m : Nat} {t : Tmp} : ∀ (l : List Oper) (i q : Nat), (dumbed m t l i)[q]? = (l[q]?).map fun o => if inG m t (i + q) o = true then dumb o else o := by
  intro l
  induction l with
  | nil => intro i q; simp [dumbed]
  | cons o l ih =>
    intro i q
    have h : dumbed m t (o :: l) i = bcase (inG m t i o) (dumb o) o :: dumbed m t l (i + 1) := rfl
    rw [h]
    cases q with
    | zero => simp [bcase_eq]
    | succ q =>
      rw [List.getElem?_cons_succ, List.getElem?_cons_succ, ih]
      rw [show i + 1 + q = i + (q + 1) by omega]
theorem dumbed_len {m : Nat} {t : Tmp} : ∀ (l : List Oper) (i : Nat), (dumbed m t l i).length = l.length := by
  intro l
  induction l with
  | nil => intro i; rfl
  | cons o l ih => intro i; show (_ :: dumbed m t l (i + 1)).length = _; simp [ih]
theorem sort_dumb (o : Oper) : sortOf tb (dumb o).op = 2 := rfl

theorem okGs_eq {hd : List Oper} {ms : T Nat} {m : Nat} {t : Tmp} : ∀ {l : List Oper} {i : Nat}, okGs hd ms m t l i = true → ∀ (q : Nat) (o : Oper), l[q]? = some o → okG hd ms m t (i + q) o = true := by
  intro l
  induction l with
  | nil => intro i _ q o h; simp at h
  | cons a l ih =>
    intro i h q o ho
    obtain ⟨h1, h2⟩ := and_true' (p := okG hd ms m t i a) (q := okGs hd ms m t l (i + 1)) h
    cases q with
    | zero => simp at ho; subst ho; exact h1
    | succ q =>
      rw [show i + (q + 1) = i + 1 + q by omega]
      exact ih h2 q o (by simpa using ho)
theorem okG_ins {hd : List Oper} {ms : T Nat} {m : Nat} {t : Tmp} {i : Nat} {o : Oper} (h : okG hd ms m t i o = true) (him : i ≠ m) (hi : isIns t o = true) : o.guard = none ∧ o.dst = none ∧ bit (mget ms i) m = true := by
  unfold okG at h
  have hb : Nat.beq i m = false := by
    cases hx : Nat.beq i m with
    | true => exact absurd (beq_true hx) him
    | false => rfl
  rw [hb, bcase_false, hi, bcase_true] at h
  obtain ⟨h1, h2⟩ := and_true' h
  obtain ⟨h3, h4⟩ := and_true' h2
  refine ⟨?_, ?_, h4⟩
  · cases hg : o.guard with
    | none => rfl
    | some g => rw [hg] at h1; cases h1
  · cases hg : o.dst with
    | none => rfl
    | some g => rw [hg] at h3; cases h3
theorem okG_oth {hd : List Oper} {ms : T Nat} {m : Nat} {t : Tmp} {i : Nat} {o : Oper} (h : okG hd ms m t i o = true) (hn : inG m t i o = false) : o.dst ≠ some t ∧ ∀ g, o.guard = some g → gOf hd m t g.1 = false := by
  unfold inG at hn
  have hb : Nat.beq i m = false := by
    cases hx : Nat.beq i m with
    | true => rw [hx] at hn; cases hn
    | false => rfl
  rw [hb, bcase_false] at hn
  unfold okG at h
  rw [hb, bcase_false, hn, bcase_false] at h
  have h' : bcase (oeq o.dst (some t)) false (ocase o.guard true fun g => bnot (gOf hd m t g.1)) = true := h
  cases hx : oeq o.dst (some t) with
  | true => rw [hx] at h'; cases h'
  | false =>
    rw [hx, bcase_false] at h'
    refine ⟨fun e => ?_, fun g hg => ?_⟩
    · rw [e] at hx
      have : Nat.beq t t = false := hx
      rw [Nat.beq_refl] at this; cases this
    · rw [hg, ocase_some, bnot_eq] at h'
      simpa using h'

theorem writesNo_eq {ts : List Nat} : ∀ {l : List Oper}, writesNo ts l = true → ∀ p ∈ l, ∀ u, p.dst = some u → u ∉ ts := by
  intro l
  induction l with
  | nil => intro _ p hp; cases hp
  | cons a l ih =>
    intro h p hp u hu
    have h' : bcase (ocase a.dst false fun u => memN u ts) false (writesNo ts l) = true := h
    cases hx : ocase a.dst false fun u => memN u ts with
    | true => rw [hx] at h'; cases h'
    | false =>
      rw [hx, bcase_false] at h'
      rcases List.mem_cons.1 hp with e | e
      · subst e
        rw [hu, ocase_some] at hx
        intro hm
        rw [memN_mem.2 hm] at hx; cases hx
      · exact ih h' p e u hu
theorem stays_eq {hd : List Oper} {t : Tmp} : ∀ {l : List Oper}, stays hd t l = true → ∀ (q : Nat) (o : Oper), l[q]? = some o → isIns t o = true → ∀ (r : Nat) (p : Oper), q < r → l[r]? = some p → ∀ u, p.dst = some u → u ∉ looks hd o := by
  intro l
  induction l with
  | nil => intro _ q o h; simp at h
  | cons a l ih =>
    intro h q o ho hi r p hqr hp u hu
    obtain ⟨h1, h2⟩ := and_true' (p := bcase (isIns t a) (writesNo (looks hd a) l) true) (q := stays hd t l) h
    cases r with
    | zero => omega
    | succ r =>
      have hp' : l[r]? = some p := by simpa using hp
      cases q with
      | zero =>
        simp at ho; subst ho
        rw [hi, bcase_true] at h1
        exact writesNo_eq h1 p (List.mem_of_getElem? hp') u hu
      | succ q => exact ih h2 q o (by simpa using ho) hi r p (by omega) hp' u hu
theorem lowBits_eq {m : Nat} : ∀ {n : Nat}, lowBits m n = true → ∀ k, k < n → bit m k = true := by
  intro n
  induction n with
  | zero => intro _ k hk; omega
  | succ n ih =>
    intro h k hk
    obtain ⟨h1, h2⟩ := and_true' (p := bit m n) (q := lowBits m n) h
    by_cases e : k = n
    · subst e; exact h1
    · exact ih h2 k (by omega)
theorem tailOK_eq {ms : T Nat} : ∀ {l : List Oper} {i : Nat}, tailOK ms l i = true → ∀ (q : Nat) (o : Oper), l[q]? = some o → ∀ k, k < i + q → bit (mget ms (i + q)) k = true := by
  intro l
  induction l with
  | nil => intro i _ q o h; simp at h
  | cons a l ih =>
    intro i h q o ho k hk
    obtain ⟨h1, h2⟩ := and_true' (p := lowBits (mget ms i) i) (q := tailOK ms l (i + 1)) h
    cases q with
    | zero => exact lowBits_eq h1 k hk
    | succ q =>
      rw [show i + (q + 1) = i + 1 + q by omega] at hk ⊢
      exact ih h2 q o (by simpa using ho) k hk

/-- the entry that an operation lays. -/
noncomputable def gEnt (tb : Tab) (t : Tmp) (fr : T V) (o : Oper) : Option Ent := (entOf tb t fr o).join
theorem entsOf_eq {t : Tmp} {fr : T V} : ∀ {l : List Oper} {es : List Ent}, entsOf tb t fr l = some es → es = l.filterMap (gEnt tb t fr) ∧ ∀ o ∈ l, ∃ e, entOf tb t fr o = some e := by
  intro l
  induction l with
  | nil => intro es h; cases h; exact ⟨rfl, fun o ho => by cases ho⟩
  | cons o l ih =>
    intro es h
    obtain ⟨e, h1, h2⟩ := ob_eq (o := entOf tb t fr o) h
    obtain ⟨es2, h3, h4⟩ := ob_eq (o := entsOf tb t fr l) h2
    obtain ⟨g1, g2⟩ := ih h3
    cases h4
    refine ⟨?_, fun o2 ho => ?_⟩
    · rw [List.filterMap_cons]
      have : gEnt tb t fr o = e := by unfold gEnt; rw [h1]; rfl
      rw [this, ← g1]
      cases e <;> rfl
    · rcases List.mem_cons.1 ho with e1 | e1
      · subst e1; exact ⟨e, h1⟩
      · exact g2 o2 e1
theorem entOf_eq {t : Tmp} {fr : T V} {o : Oper} {q : TypeId × Operand × Operand} (hq : insAt t o.op = some q) {e : Option Ent} (h : entOf tb t fr o = some e) :
    ∃ d re kv xv, mapElem tb q.1 = some (d, re) ∧ opd fr q.2.1 = some kv ∧ keyOK d kv = true ∧ opd fr q.2.2 = some xv ∧ e = some (kv, xv, 0) := by
  unfold entOf at h
  rw [hq, ocase_some] at h
  obtain ⟨ty, k, x⟩ := q
  simp only [pcase_mk] at h
  obtain ⟨d, re, h1, h2⟩ := ob2_eq h
  obtain ⟨kv, h3, h4⟩ := ob_eq h2
  obtain ⟨h5, h6⟩ := gd_eq h4
  obtain ⟨xv, h7, h8⟩ := ob_eq h6
  cases h8
  exact ⟨d, re, kv, xv, h1, h3, h5, h7, rfl⟩
theorem entOf_none {t : Tmp} {fr : T V} {o : Oper} (h : isIns t o = false) : gEnt tb t fr o = none := by
  unfold isIns at h
  unfold gEnt entOf
  cases hq : insAt t o.op with
  | none => rfl
  | some q => rw [hq] at h; cases h

theorem filterMap_range {α β : Type} (g : α → Option β) : ∀ (l : List α), l.filterMap g = (List.range l.length).filterMap fun i => (l[i]?).bind g := by
  intro l
  induction l with
  | nil => rfl
  | cons a l ih =>
    rw [List.filterMap_cons, List.length_cons, List.range_succ_eq_map, List.filterMap_cons, List.filterMap_map]
    have h1 : ((fun i => ((a :: l)[i]?).bind g) ∘ Nat.succ) = fun i => (l[i]?).bind g := by funext i; simp
    rw [h1, ← ih]
    simp

/-- what is laid of the literal. -/
noncomputable def lits (g : Nat → Option (V × V)) (L : Nat → Bool) (l : List Nat) : List (V × V) := l.filterMap fun i => if L i = true then g i else none
theorem lits_congr {g : Nat → Option (V × V)} {L L2 : Nat → Bool} : ∀ {l : List Nat}, (∀ i ∈ l, (if L i = true then g i else none) = if L2 i = true then g i else none) → lits g L l = lits g L2 l := by
  intro l
  induction l with
  | nil => intro _; rfl
  | cons a l ih =>
    intro h
    unfold lits
    rw [List.filterMap_cons, List.filterMap_cons, h a List.mem_cons_self]
    have := ih fun i hi => h i (List.mem_cons_of_mem _ hi)
    unfold lits at this
    rw [this]
theorem lits_add {g : Nat → Option (V × V)} {L L2 : Nat → Bool} {i : Nat} {e : V × V} (hi : L i = false) (h2 : ∀ j, L2 j = (L j || decide (j = i))) (hg : g i = some e) : ∀ {l : List Nat}, l.Nodup → i ∈ l → (lits g L2 l).Perm (e :: lits g L l) := by
  intro l
  induction l with
  | nil => intro _ h; cases h
  | cons a l ih =>
    intro hn hm
    obtain ⟨n1, n2⟩ := List.nodup_cons.1 hn
    by_cases e1 : a = i
    · subst e1
      have h3 : lits g L2 l = lits g L l := lits_congr fun j hj => by
        have : j ≠ a := fun hh => n1 (hh ▸ hj)
        rw [h2 j]; simp [this]
      have hL2 : L2 a = true := by rw [h2 a]; simp
      unfold lits at h3 ⊢
      rw [List.filterMap_cons, List.filterMap_cons, hL2, hi, if_pos rfl, if_neg (by simp), hg, h3]
    · have hm2 : i ∈ l := (List.mem_cons.1 hm).resolve_left (fun hh => e1 hh.symm)
      have := ih n2 hm2
      have hLa : L2 a = L a := by rw [h2 a]; simp [e1]
      unfold lits at this ⊢
      rw [List.filterMap_cons, List.filterMap_cons, hLa]
      cases hx : (if L a = true then g a else none) with
      | none => exact this
      | some x => exact (this.cons x).trans (List.Perm.swap _ _ _)
theorem lits_sub {g : Nat → Option (V × V)} {L : Nat → Bool} : ∀ {l : List Nat}, (lits g L l).Sublist (l.filterMap g) := by
  intro l
  induction l with
  | nil => exact .slnil
  | cons a l ih =>
    unfold lits at ih ⊢
    rw [List.filterMap_cons, List.filterMap_cons]
    by_cases h : L a = true
    · rw [if_pos h]
      cases g a with
      | none => exact ih
      | some x => exact ih.cons_cons x
    · rw [if_neg h]
      cases g a with
      | none => exact ih
      | some x => exact ih.cons x
theorem lits_all {g : Nat → Option (V × V)} {L : Nat → Bool} {l : List Nat} (h : ∀ i ∈ l, L i = true) : lits g L l = l.filterMap g := by
  induction l with
  | nil => rfl
  | cons a l ih =>
    have := ih fun i hi => h i (List.mem_cons_of_mem _ hi)
    unfold lits at this ⊢
    rw [List.filterMap_cons, List.filterMap_cons, h a List.mem_cons_self, if_pos rfl, this]
theorem lits_nil {g : Nat → Option (V × V)} {L : Nat → Bool} : ∀ {l : List Nat}, (∀ i ∈ l, L i = true → g i = none) → lits g L l = [] := by
  intro l
  induction l with
  | nil => intro _; rfl
  | cons a l ih =>
    intro h
    have h1 := ih fun i hi => h i (List.mem_cons_of_mem _ hi)
    unfold lits at h1 ⊢
    rw [List.filterMap_cons]
    have : (if L a = true then g a else none) = none := by
      split
      · rename_i hl; exact h a List.mem_cons_self hl
      · rfl
    rw [this, h1]

theorem mset_new {k x : V} {c : Nat} : ∀ {es : List Ent}, (∀ e ∈ es, keyEq k e.1 = some false) → mset k x c es = some (c + 1, es ++ [(k, x, c)]) := by
  intro es
  induction es with
  | nil => intro _; rfl
  | cons e es ih =>
    intro h
    rw [mset_cons, h e List.mem_cons_self, ob_some, bcase_false, ih fun e he => h e (List.mem_cons_of_mem _ he)]
    rfl

theorem F_same {all : List Oper} {F : Nat → T V} {W : Nat → V} (hF : ∀ i, i < all.length → F (i + 1) = putT (F i) (dstAt all i) (W i)) {i x : Nat} : ∀ j, i ≤ j → j ≤ all.length → (∀ q, i ≤ q → q < j → dstAt all q ≠ some x) → (F j).get x = (F i).get x := by
  intro j
  induction j with
  | zero => intro h _ _; have : i = 0 := by omega
            subst this; rfl
  | succ j ih =>
    intro h hj hq
    by_cases e : i = j + 1
    · subst e; rfl
    · rw [hF j (by omega), get_putT, if_neg (hq j (by omega) (by omega))]
      exact ih (by omega) (by omega) fun q h1 h2 => hq q h1 (by omega)

/-- a step of a drawn region, as its run has shown it. -/
theorem drawn_step {all : List Oper} {fr : T V} {st : St} {fr' : T V} {st' : St} {F : Nat → T V} {W : Nat → V} {ss : List St} (D : Drawn tb call all fr st fr' st' F W ss) {L L2 : Nat → Bool} (hcl : Closed all L) {i : Nat} {o : Oper} (hol : all[i]? = some o)
    (hnot : L i = false) (hready : ∀ j, Bf all i j = true → L j = true) (hset : ∀ j, L2 j = (L j || decide (j = i))) {stk : St} (hk : ss[(actors tb all 0).countP fun e => L e]? = some stk) :
    ∃ st2, stepA tb call all o (FL all W fr L all.length) stk = some (W i, st2) ∧ ss[(actors tb all 0).countP fun e => L2 e]? = some st2 ∧
      (∀ x, (FL all W fr L2 all.length).get x = (putT (FL all W fr L all.length) o.dst (W i)).get x) := by
  have hiN : i < all.length := (List.getElem?_eq_some_iff.1 hol).1
  have hcl2 : Closed all L2 := by
    intro x j hx hb
    rw [hset] at hx ⊢
    by_cases e : x = i
    · subst e; rw [hready j hb]; rfl
    · have : decide (x = i) = false := by simp [e]
      rw [this, Bool.or_false] at hx
      rw [hcl x j hx hb]; rfl
  have hact : sortOf tb o.op = 0 → (actors tb all 0).countP (fun e => L e) = (actors tb all 0).countP fun e => decide (e < i) := by
    intro hs
    have hmem : i ∈ actors tb all 0 := actors_mem.2 ⟨i, o, hol, by omega, hs⟩
    apply List.countP_congr
    intro e hem
    constructor
    · intro hle
      simp only [decide_eq_true_eq]
      rcases Nat.lt_trichotomy e i with h | h | h
      · exact h
      · subst h; rw [hnot] at hle; cases hle
      · have := chain_pw hcl actors_sorted D.chain i hmem e hem h hle
        rw [hnot] at this
        cases this
    · intro hlt2
      simp only [decide_eq_true_eq] at hlt2
      have := chain_pw hcl2 actors_sorted D.chain e hem i hmem hlt2 (by rw [hset]; simp)
      rw [hset] at this
      have hne : decide (e = i) = false := by simp; omega
      rw [hne, Bool.or_false] at this
      exact this
  have hlo : (actors tb all 0).countP (fun e => Bf all i e) ≤ (actors tb all 0).countP fun e => L e := List.countP_mono_left fun e _ hb => hready e hb
  have hhi : ((actors tb all 0).countP fun e => L e) ≤ (actors tb all 0).countP fun e => !Bf all e i := List.countP_mono_left fun e _ hle => by
    cases hb : Bf all e i with
    | false => rfl
    | true =>
      have := hcl e i hle hb
      rw [hnot] at this
      cases this
  obtain ⟨st1, st2, q1, q2, q3⟩ := D.next i o _ hol hact List.countP_le_length hlo hhi
  rw [hk] at q1
  cases q1
  have hlooks : ∀ t ∈ looks all o, (F i).get t = (FL all W fr L all.length).get t := by
    intro t htl
    have h5 := FL_above (all := all) (W := W) (fr := fr) (L := L) (i := i) (x := t) all.length (by omega) (by
      intro j hj1 hj2 hlj hd
      by_cases e : j = i
      · subst e; rw [hnot] at hlj; cases hlj
      · have hoj : all[j]? = some all[j] := by simp [hj2]
        rcases D.agree j i _ o hoj (by omega) hol with hb | hb
        · have := hcl j i hlj hb
          rw [hnot] at this; cases this
        · have hdj : all[j].dst = some t := by simpa [dstAt, hoj] using hd
          exact (agreeT_eq hb).2 t hdj htl)
    rw [h5]
    exact (FL_below D.f0 D.fS i (by omega) (by
      intro j hj hd
      have hjN : j < all.length := by omega
      have hoj : all[j]? = some all[j] := by simp [hjN]
      rcases D.agree i j o _ hol hj hoj with hb | hb
      · exact hready j hb
      · have hdj : all[j].dst = some t := by simpa [dstAt, hoj] using hd
        exact absurd htl ((agreeT_eq hb).1 t hdj).1)).symm
  rw [stepA_congr hlooks] at q2
  refine ⟨st2, q2, ?_, fun x => ?_⟩
  · have hcnt : (actors tb all 0).countP (fun e => L2 e) = (actors tb all 0).countP (fun e => L e) + if sortOf tb o.op = 0 then 1 else 0 := by
      have gen : ∀ (l : List Nat), l.Pairwise (· < ·) → l.countP (fun e => (L e || decide (e = i))) = l.countP (fun e => L e) + if i ∈ l then 1 else 0 := by
        intro l
        induction l with
        | nil => intro _; rfl
        | cons b l ihl =>
          intro hp
          obtain ⟨p1, p2⟩ := List.pairwise_cons.1 hp
          rw [List.countP_cons, List.countP_cons, ihl p2]
          by_cases e : b = i
          · subst e
            have hnl : b ∉ l := fun hh => by have := p1 b hh; omega
            rw [if_neg hnl, if_pos List.mem_cons_self, hnot]
            simp
          · have e1 : decide (b = i) = false := by simp [e]
            rw [e1, Bool.or_false]
            have e2 : (i ∈ b :: l) ↔ i ∈ l := ⟨fun h => (List.mem_cons.1 h).resolve_left (fun hh => e hh.symm), List.mem_cons_of_mem _⟩
            by_cases e3 : i ∈ l
            · rw [if_pos e3, if_pos (e2.2 e3)]; omega
            · rw [if_neg e3, if_neg (fun hh => e3 (e2.1 hh))]; omega
      have hfun : (fun e => L2 e) = fun e => (L e || decide (e = i)) := by funext e; exact hset e
      rw [hfun, gen _ actors_sorted]
      congr 1
      by_cases hs : sortOf tb o.op = 0
      · rw [if_pos hs, if_pos (actors_mem.2 ⟨i, o, hol, by omega, hs⟩)]
      · have hni : ¬ (i ∈ actors tb all 0) := by
          intro hh
          obtain ⟨q, o2, g1, g2, g3⟩ := actors_mem.1 hh
          have hqi : q = i := by omega
          rw [hqi, hol] at g1
          cases g1
          exact hs g3
        rw [if_neg hs, if_neg hni]
    rw [hcnt]; exact q3
  · have hd : dstAt all i = o.dst := by simp [dstAt, hol]
    have := FL_add (all := all) (W := W) (fr := fr) (L := L) (L2 := L2) (i := i) hnot hset x all.length hiN (by
      intro j hj1 hj2 hlj hdi hdj
      have hoj : all[j]? = some all[j] := by simp [hj2]
      rcases D.agree j i _ o hoj hj1 hol with hb | hb
      · have := hcl j i hlj hb
        rw [hnot] at this; cases this
      · have hdj' : all[j].dst = some x := by simpa [dstAt, hoj] using hdj
        exact ((agreeT_eq hb).1 x (by rw [← hd]; exact hdi)).2 hdj')
    rw [this, hd]

end Go.Ab

namespace Go.Ab
open Go
variable {P : Program} {tb : Tab} {call : CallF}

/-! The end of a region, whose operations come one behind the other. -/
theorem tail_any (ht : TabOK P tb) (hc : CallOK P call) {ops : Array Oper} (hback : backs ops.toList 0 = true) {n0 : Nat} (htail : ∀ j, n0 ≤ j → j < ops.size → ∀ k, k < j → Bf ops.toList j k = true) {frZ : T V} {stZ : St} {ρ0 : Ren} {st : St} {w0 : World} (hg : Glob ρ0)
    {sz : Nat} {dfs : List Deferred} (hlt : opsLt sz ops.toList = true) {ro : Option Nat} {n : Nat} {Q : Exit → Act → World → Prop}
    (hQ : ∀ ρ' w' a', Rel ρ' stZ w' → Ext ρ0 st w0 ρ' stZ w' → RelT ρ' frZ a'.tmps → a'.tmps.size = sz → a'.defers = dfs → Q .normal a' w') :
    ∀ (rest : List Oper) (p fuel : Nat) (listed : Array Bool) (a : Act) (w : World) (ρ : Ren) (stp : St) (frp : T V), ops.toList.drop p = rest → n0 ≤ p → listed.size = ops.size → (∀ j, j < ops.size → listed.getD j false = decide (j < p)) → ops.size - p ≤ fuel →
      Rel ρ stp w → Ext ρ0 st w0 ρ stp w → RelT ρ frp a.tmps → a.tmps.size = sz → a.defers = dfs → opsA tb call ops.toList rest frp stp = some (frZ, stZ) → wpAnyIn (Fr ro) n P .any ops Q fuel listed a w := by
  have hN : ops.toList.length = ops.size := by simp
  have hready : ∀ (p : Nat) (listed : Array Bool), listed.size = ops.size → (∀ j, j < ops.size → listed.getD j false = decide (j < p)) → ∀ i ∈ Region.ready .any ops listed, i < ops.size ∧ ¬ i < p ∧ ∀ j, Bf ops.toList i j = true → j < p := by
    intro p listed hls hl i hi
    unfold Region.ready at hi
    rw [List.mem_filter] at hi
    obtain ⟨hi1, hi2⟩ := hi
    have hiN : i < ops.size := by simpa using hi1
    have ho : ops[i]? = some ops[i] := by simp [hiN]
    rw [ho] at hi2
    simp only [Option.map_some, Option.getD_some, Bool.and_eq_true, Bool.not_eq_true'] at hi2
    obtain ⟨hi3, hi4⟩ := hi2
    have hnot : listed.getD i false = false := by
      rw [Array.getD_eq_getD_getElem?] at hi3 ⊢
      have : listed[i]? = some listed[i] := by simp [hls, hiN]
      rw [this] at hi3 ⊢
      exact hi3
    rw [hl i hiN] at hnot
    refine ⟨hiN, by simpa using hnot, fun j hj => ?_⟩
    have hol : ops.toList[i]? = some ops[i] := by simp
    obtain ⟨e, g1, g2, g3, g4⟩ := Bf_edge hback hol hj
    rw [Array.all_eq_true_iff_forall_mem] at hi4
    have h5 := hi4 e (by simpa using g1)
    rw [binds_any, g2] at h5
    have h6 : listed.getD e.on false = true := by simpa using h5
    have heN : e.on < ops.size := by
      have := backs_eq hback i _ hol e g1 g2
      omega
    rw [hl _ heN] at h6
    have h7 : e.on < p := by simpa using h6
    rcases g4 with g4 | g4
    · omega
    · have := Bf_lt hback g4; omega
  intro rest
  induction rest with
  | nil =>
    intro p fuel listed a w ρ stp frp hd hp hls hl hf hr he hT h1 h2 h0
    cases h0
    have hpN : ops.size ≤ p := by
      have : (ops.toList.drop p).length = 0 := by rw [hd]; rfl
      rw [List.length_drop] at this
      omega
    have hnil : Region.ready .any ops listed = [] := by
      rw [List.eq_nil_iff_forall_not_mem]
      intro i hi
      obtain ⟨g1, g2, _⟩ := hready p listed hls hl i hi
      omega
    cases fuel with
    | zero => exact ⟨hnil, hQ ρ w a hr he hT h1 h2⟩
    | succ fuel => exact ⟨fun _ => hQ ρ w a hr he hT h1 h2, fun i hi => by rw [hnil] at hi; cases hi⟩
  | cons o rest ih =>
    intro p fuel listed a w ρ stp frp hd hp hls hl hf hr he hT h1 h2 h0
    have hpN : p < ops.size := by
      have : (ops.toList.drop p).length = (o :: rest).length := by rw [hd]
      rw [List.length_drop] at this
      simp at this; omega
    have hop : ops[p]? = some o := by
      have : (ops.toList.drop p)[0]? = some o := by rw [hd]; rfl
      simpa using this
    have hd' : ops.toList.drop (p + 1) = rest := by
      have : ops.toList.drop (p + 1) = (ops.toList.drop p).drop 1 := by rw [List.drop_drop]
      rw [this, hd]; rfl
    obtain ⟨v, st1, h3, h4⟩ := ob2_eq (o := stepA tb call ops.toList o frp stp) h0
    rw [T.force_eq] at h4
    cases fuel with
    | zero => omega
    | succ fuel =>
      have hmem : p ∈ Region.ready .any ops listed := by
        unfold Region.ready
        rw [List.mem_filter]
        refine ⟨by simpa using hpN, ?_⟩
        have h5 := hl p hpN
        have h6 : listed.getD p true = false := by
          rw [Array.getD_eq_getD_getElem?] at h5 ⊢
          have : listed[p]? = some listed[p] := by simp [hls, hpN]
          rw [this] at h5 ⊢
          simpa using h5
        rw [h6, hop]
        simp only [Option.map_some, Option.getD_some, Bool.not_false, Bool.true_and]
        rw [Array.all_eq_true_iff_forall_mem]
        intro e hem
        rw [binds_any]
        by_cases ha : anyEdge e.ground = true
        · have := backs_eq hback p o (by simpa using hop) e (by simpa using hem) ha
          rw [hl e.on (by omega)]
          have : decide (e.on < p) = true := by simp; omega
          rw [this]; simp
        · simp only [Bool.not_eq_true] at ha; rw [ha]; rfl
      refine ⟨fun hnil => (by rw [hnil] at hmem; cases hmem), fun i hi => ?_⟩
      obtain ⟨g1, g2, g3⟩ := hready p listed hls hl i hi
      have hip : i = p := by
        rcases Nat.lt_trichotomy i p with h | h | h
        · exact absurd h g2
        · exact h
        · have := g3 p (htail i (by omega) g1 p h)
          omega
      subst hip
      have hdlt : dstLt a.tmps.size o.dst = true := by rw [h1]; exact opsLt_get hlt o (List.mem_of_getElem? (i := i) (by simpa using hop))
      have hstep := step_sound2 (ro := ro) (n := n) (Q := Q) ht hc (hg.mono he.ren) hr (ops := ops) hT hdlt h3 (K := wpAnyIn (Fr ro) n P .any ops Q fuel (listed.setIfInBounds i true)) (by
        intro ρ' w' a' r1 r2 r3 r4 r5 _
        refine ih (i + 1) fuel (listed.setIfInBounds i true) a' w' ρ' st1 _ hd' (by omega) (by simp [hls]) ?_ (by omega) r1 (he.trans r2) r3 (r4.trans h1) (r5.trans h2) h4
        intro j hj
        rw [Array.getD_eq_getD_getElem?]
        by_cases e : j = i
        · subst e
          rw [Array.getElem?_setIfInBounds_self_of_lt (by omega)]
          simp
        · rw [Array.getElem?_setIfInBounds_ne (fun hh => e hh.symm), ← Array.getD_eq_getD_getElem?, hl j hj]
          congr 1; apply propext; omega)
      unfold wpOpIn
      rw [hop]
      exact hstep

/-- what the plan of a region with a map's literal says. -/
structure CPlan (tb : Tab) (call : CallF) (all hd : List Oper) (n m : Nat) (t : Tmp) (fr : T V) (st : St) (fr1 : T V) (st1 : St) (es : List Ent) (F : Nat → T V) (W : Nat → V) (ss : List St) : Prop where
  hdE : hd = all.take n
  nle : n ≤ all.length
  back : backs all 0 = true
  D : Drawn tb call (dumbed m t hd 0) (fr.del t) st fr1 st1 F W ss
  ok : ∀ (q : Nat) (o : Oper), hd[q]? = some o → okG hd (masks (dumbed m t hd 0) 0 .nil) m t q o = true
  agree : ∀ (i j : Nat) (o p : Oper), hd[i]? = some o → j < i → hd[j]? = some p → Bf (dumbed m t hd 0) i j = true ∨ agreeT hd o p = true
  stays : ∀ (q : Nat) (o : Oper), hd[q]? = some o → isIns t o = true → ∀ (r : Nat) (p : Oper), q < r → hd[r]? = some p → ∀ u, p.dst = some u → u ∉ looks hd o
  tail : ∀ j, n ≤ j → j < all.length → ∀ k, k < j → Bf all j k = true
  mlt : m < n
  mm : ∃ om, hd[m]? = some om ∧ mmAt om = some t
  ents : entsOf tb t fr1 hd = some es
  apart : apartK es = true

noncomputable def gLit (tb : Tab) (t : Tmp) (fr1 : T V) (hd : List Oper) (i : Nat) : Option (V × V) := (hd[i]?).bind fun o => (gEnt tb t fr1 o).map strip

structure InvC (tb : Tab) (hd : List Oper) (n m : Nat) (t : Tmp) (fr fr1 : T V) (W : Nat → V) (ss : List St) (ρ0 : Ren) (st : St) (w0 : World) (sz : Nat) (dfs : List Deferred) (L : Nat → Bool) (a : Act) (w : World) (ρ : Ren) (stk : St) : Prop where
  cnt : ss[(actors tb (dumbed m t hd 0) 0).countP fun e => L e]? = some stk
  rel : Rel ρ stk w
  ext : Ext ρ0 st w0 ρ stk w
  frm : RelT ρ (FL (dumbed m t hd 0) W (fr.del t) L (dumbed m t hd 0).length) a.tmps
  size : a.tmps.size = sz
  defers : a.defers = dfs
  high : ∀ j, n ≤ j → L j = false
  lit : L m = true → ∃ D0 arr clock es2, w.heap[D0]? = some (.map arr clock) ∧ a.tmps[t]? = some (.map (some D0)) ∧ ¬ Own ρ stk D0 ∧ w0.heap.size ≤ D0 ∧ RelEs ρ es2 arr.toList ∧
    (es2.map strip).Perm (lits (gLit tb t fr1 hd) L (List.range n))

section
variable {all hd : List Oper} {n m : Nat} {t : Tmp} {fr : T V} {st : St} {fr1 : T V} {st1 : St} {es : List Ent} {F : Nat → T V} {W : Nat → V} {ss : List St} {ρ0 : Ren} {w0 : World} {sz : Nat} {dfs : List Deferred}

theorem CPlan.hdlen (C : CPlan tb call all hd n m t fr st fr1 st1 es F W ss) : hd.length = n := by rw [C.hdE, List.length_take]; have := C.nle; omega
theorem CPlan.alen (C : CPlan tb call all hd n m t fr st fr1 st1 es F W ss) : (dumbed m t hd 0).length = n := by rw [dumbed_len, C.hdlen]
theorem CPlan.hget (C : CPlan tb call all hd n m t fr st fr1 st1 es F W ss) {i : Nat} {o : Oper} (hi : i < n) (h : all[i]? = some o) : hd[i]? = some o := by
  rw [C.hdE, List.getElem?_take, if_pos hi]; exact h
theorem CPlan.hget2 (C : CPlan tb call all hd n m t fr st fr1 st1 es F W ss) {i : Nat} {o : Oper} (h : hd[i]? = some o) : i < n ∧ all[i]? = some o := by
  rw [C.hdE, List.getElem?_take] at h
  split at h
  · exact ⟨by assumption, h⟩
  · cases h
theorem CPlan.aget (_C : CPlan tb call all hd n m t fr st fr1 st1 es F W ss) {i : Nat} {o : Oper} (h : hd[i]? = some o) : (dumbed m t hd 0)[i]? = some (if inG m t i o = true then dumb o else o) := by
  rw [dumbed_get, h, Nat.zero_add]; rfl
theorem CPlan.adst (C : CPlan tb call all hd n m t fr st fr1 st1 es F W ss) {i u : Nat} (h : dstAt (dumbed m t hd 0) i = some u) : ∃ o, hd[i]? = some o ∧ inG m t i o = false ∧ o.dst = some u ∧ u ≠ t := by
  unfold dstAt at h
  rw [dumbed_get] at h
  cases ho : hd[i]? with
  | none => rw [ho] at h; cases h
  | some o =>
    rw [ho, Nat.zero_add] at h
    simp only [Option.map_some, Option.bind_some] at h
    by_cases hg : inG m t i o = true
    · rw [if_pos hg] at h; cases h
    · rw [if_neg hg] at h
      have hg' : inG m t i o = false := by simpa using hg
      refine ⟨o, rfl, hg', h, fun e => ?_⟩
      subst e
      exact (okG_oth (C.ok i o ho) hg').1 h
theorem CPlan.fl_t (C : CPlan tb call all hd n m t fr st fr1 st1 es F W ss) (L : Nat → Bool) : ∀ k, (FL (dumbed m t hd 0) W (fr.del t) L k).get t = none := by
  intro k
  induction k with
  | zero => show (fr.del t).get t = none; rw [T.get_del, if_pos rfl]
  | succ k ih =>
    rw [FL_succ]
    split
    · rw [get_putT]
      split
      · rename_i h
        obtain ⟨o, _, _, _, h4⟩ := C.adst h
        exact absurd rfl h4
      · exact ih
    · exact ih
theorem CPlan.lit_es (C : CPlan tb call all hd n m t fr st fr1 st1 es F W ss) : es.map strip = (List.range n).filterMap (gLit tb t fr1 hd) := by
  obtain ⟨h1, _⟩ := entsOf_eq C.ents
  rw [h1, List.map_filterMap, filterMap_range, C.hdlen]
  rfl

/-- all of the literal is laid: it is a block of the state. -/
theorem InvC.whole (C : CPlan tb call all hd n m t fr st fr1 st1 es F W ss) (h0 : Rel ρ0 st w0) {L : Nat → Bool} {a : Act} {w : World} {ρ : Ren} {stk : St} (h : InvC tb hd n m t fr fr1 W ss ρ0 st w0 sz dfs L a w ρ stk) (hall : ∀ j, j < n → L j = true) :
    ∃ ρ', Rel ρ' ⟨st1.heap.put st1.next (.umap es), st1.next + 1⟩ w ∧ Ext ρ0 st w0 ρ' ⟨st1.heap.put st1.next (.umap es), st1.next + 1⟩ w ∧ RelT ρ' (fr1.put t (.map st1.next)) a.tmps := by
  have hst : stk = st1 := by
    have hc := h.cnt
    have : (actors tb (dumbed m t hd 0) 0).countP (fun e => L e) = (actors tb (dumbed m t hd 0) 0).length := by
      rw [List.countP_eq_length]
      intro e he
      obtain ⟨q, o, hq, h6, _⟩ := actors_mem.1 he
      have := (List.getElem?_eq_some_iff.1 hq).1
      rw [C.alen] at this
      exact hall e (by omega)
    rw [this, C.D.sN] at hc
    cases hc; rfl
  subst hst
  have hF : FL (dumbed m t hd 0) W (fr.del t) L (dumbed m t hd 0).length = fr1 := by
    rw [FL_all C.D.f0 C.D.fS _ (Nat.le_refl _) (fun j hj => hall j (by rw [C.alen] at hj; exact hj))]
    exact C.D.fN
  have hT := h.frm
  rw [hF] at hT
  obtain ⟨D0, arr, clock, es2, q1, q2, hown, hnew, q3, q4⟩ := h.lit (hall m C.mlt)
  rw [lits_all (fun i hi => hall i (by simpa using hi)), ← C.lit_es] at q4
  have hfree := ro_free h0 h.rel h.ext hown hnew
  have hle := h.rel.le_set ⟨D0, 0, 0⟩
  have hrel := h.rel.add (p := ⟨D0, 0, 0⟩) (k := .umap es) (o := .map arr clock) q1 (.umap _ _ _ _ es2 q4 (q3.mono hle)) hfree
  refine ⟨ρ.set stk.next ⟨D0, 0, 0⟩, hrel, ⟨Ren.le_trans h.ext.ren hle, h.ext.os, h.ext.tape, h.ext.output, h.ext.size, fun x hx hn => ?_, fun b k c hb => ?_⟩, ?_⟩
  · obtain ⟨g1, g2⟩ := h.ext.keep x hx hn
    refine ⟨g1, fun ho => ?_⟩
    rcases Own.of_add ho with h1 | h1
    · exact g2 h1
    · have h1' : x = D0 := h1
      omega
  · have hb2 : (stk.heap.put stk.next (.umap es)).get b = some (.cells k c true) := hb
    rw [T.get_put] at hb2
    by_cases e1 : b = stk.next
    · rw [if_pos e1] at hb2; cases hb2
    · rw [if_neg e1] at hb2; exact h.ext.ro b k c hb2
  · intro u v hu
    rw [T.get_put] at hu
    by_cases e1 : u = t
    · subst e1
      rw [if_pos rfl] at hu
      cases hu
      exact ⟨_, q2, RelV.map _ ⟨D0, 0, 0⟩ (Ren.set_self _ _ _)⟩
    · rw [if_neg e1] at hu
      obtain ⟨u', g1, g2⟩ := hT u v hu
      exact ⟨u', g1, g2.mono hle⟩
end

end Go.Ab

namespace Go.Ab
open Go
variable {P : Program} {tb : Tab} {call : CallF}

theorem stepA_of_dumbed {all hd : List Oper} {n m : Nat} {t : Tmp} {fr : T V} {st : St} {fr1 : T V} {st1 : St} {es : List Ent} {F : Nat → T V} {W : Nat → V} {ss : List St} (C : CPlan tb call all hd n m t fr st fr1 st1 es F W ss)
    {i : Nat} {o : Oper} (ho : hd[i]? = some o) (hn : inG m t i o = false) {f : T V} {stk : St} {r : V × St} (h : stepA tb call (dumbed m t hd 0) o f stk = some r) : stepA tb call all o f stk = some r := by
  have hw : ∀ b, wantedA (dumbed m t hd 0) o f = some b → wantedA all o f = some b := by
    intro b hb
    unfold wantedA at hb ⊢
    cases hg : o.guard with
    | none => rw [hg] at hb; exact hb
    | some g =>
      rw [hg, ocase_some] at hb
      rw [ocase_some]
      obtain ⟨q, hq, h1⟩ := ob_eq hb
      rw [lget_eq, dumbed_get, Nat.zero_add] at hq
      cases hq2 : hd[g.1]? with
      | none => rw [hq2] at hq; cases hq
      | some q2 =>
        rw [hq2] at hq
        have hng := (okG_oth (C.ok i o ho) hn).2 g hg
        unfold gOf at hng
        rw [lget_eq, hq2, ocase_some] at hng
        simp only [Option.map_some, hng, Bool.false_eq_true, if_false, Option.some.injEq] at hq
        subst hq
        rw [lget_eq, (C.hget2 hq2).2]
        exact h1
  unfold stepA at h ⊢
  obtain ⟨b, hb, h1⟩ := ob_eq h
  rw [hw b hb]
  exact h1

theorem opd_congr {fr fr2 : T V} {o : Operand} (h : ∀ t, tmpOf o = some t → fr.get t = fr2.get t) : opd fr o = opd fr2 o := by
  cases o with
  | tmp t => exact h t rfl
  | const v => rfl
  | global g => rfl
  | func f => rfl

theorem eval_tmp {a : Act} {t : Tmp} {v : Value} (h : a.tmps[t]? = some v) : a.eval (.tmp t) = v := by
  simp [Act.eval, h]

theorem draw_anyC (ht : TabOK P tb) (hc : CallOK P call) {ops : Array Oper} {hd : List Oper} {n m : Nat} {t : Tmp} {fr : T V} {st : St} {fr1 : T V} {st1 : St} {es : List Ent} {F : Nat → T V} {W : Nat → V} {ss : List St}
    (C : CPlan tb call ops.toList hd n m t fr st fr1 st1 es F W ss) {frZ : T V} {stZ : St} (hZ : opsA tb call ops.toList (ops.toList.drop n) (fr1.put t (.map st1.next)) ⟨st1.heap.put st1.next (.umap es), st1.next + 1⟩ = some (frZ, stZ))
    {ρ0 : Ren} {w0 : World} (hg : Glob ρ0) (h0 : Rel ρ0 st w0) {sz : Nat} {dfs : List Deferred} (hlt : opsLt sz ops.toList = true) {ro : Option Nat} {n1 : Nat} {Q : Exit → Act → World → Prop}
    (hQ : ∀ ρ' w' a', Rel ρ' stZ w' → Ext ρ0 st w0 ρ' stZ w' → RelT ρ' frZ a'.tmps → a'.tmps.size = sz → a'.defers = dfs → Q .normal a' w') :
    ∀ (fuel : Nat) (listed : Array Bool) (a : Act) (w : World) (ρ : Ren) (stk : St), listed.size = ops.size → Closed (dumbed m t hd 0) (fun i => listed.getD i false) → Closed ops.toList (fun i => listed.getD i false) → (List.range ops.size).countP (fun i => !listed.getD i false) ≤ fuel →
      InvC tb hd n m t fr fr1 W ss ρ0 st w0 sz dfs (fun i => listed.getD i false) a w ρ stk → wpAnyIn (Fr ro) n1 P .any ops Q fuel listed a w := by
  have hN : ops.toList.length = ops.size := by simp
  have hnle : n ≤ ops.size := by have := C.nle; omega
  -- all of the first part are listed
  have hend : ∀ (fuel : Nat) (listed : Array Bool) (a : Act) (w : World) (ρ : Ren) (stk : St), listed.size = ops.size → (List.range ops.size).countP (fun i => !listed.getD i false) ≤ fuel →
      InvC tb hd n m t fr fr1 W ss ρ0 st w0 sz dfs (fun i => listed.getD i false) a w ρ stk → (∀ j, j < n → listed.getD j false = true) → wpAnyIn (Fr ro) n1 P .any ops Q fuel listed a w := by
    intro fuel listed a w ρ stk hls hcount h hall
    obtain ⟨ρ', g1, g2, g3⟩ := h.whole C h0 hall
    have hL : ∀ j, j < ops.size → listed.getD j false = decide (j < n) := by
      intro j hj
      by_cases hjn : j < n
      · rw [hall j hjn]; simp [hjn]
      · have h5 : listed.getD j false = false := h.high j (by omega)
        rw [h5]; simp [hjn]
    refine tail_any ht hc C.back (n0 := n) (fun j h1 h2 => C.tail j h1 (by omega)) hg hlt hQ (ops.toList.drop n) n fuel listed a w ρ' _ _ rfl (Nat.le_refl _) hls hL ?_ g1 g2 g3 h.size h.defers hZ
    have hcnt : (List.range ops.size).countP (fun i => !listed.getD i false) = (List.range ops.size).countP fun i => !decide (i < n) := by
      apply List.countP_congr
      intro x hx
      rw [hL x (by simpa using hx)]
    have hc2 : ∀ (N : Nat), n ≤ N → N - n ≤ (List.range N).countP fun i => !decide (i < n) := by
      intro N
      induction N with
      | zero => intro _; simp
      | succ N ihN =>
        intro hNn
        rw [List.range_succ, List.countP_append]
        by_cases e : n = N + 1
        · omega
        · have := ihN (by omega)
          have h6 : [N].countP (fun i => !decide (i < n)) = 1 := by
            have : ¬ N < n := by omega
            simp [this]
          omega
    have := hc2 ops.size hnle
    omega
  -- some operation is next, as long as not all are listed
  have hsome : ∀ (listed : Array Bool), listed.size = ops.size → Region.ready .any ops listed = [] → ∀ i, i < ops.size → listed.getD i false = true := by
    intro listed hls hnil i
    induction i using Nat.strongRecOn with
    | _ i ih =>
      intro hi
      cases hl : listed.getD i false with
      | true => rfl
      | false =>
        exfalso
        have hmem : i ∈ Region.ready .any ops listed := by
          unfold Region.ready
          rw [List.mem_filter]
          refine ⟨by simpa using hi, ?_⟩
          have h1 : listed.getD i true = false := by
            rw [Array.getD_eq_getD_getElem?] at hl ⊢
            have : listed[i]? = some listed[i] := by simp [hls, hi]
            rw [this] at hl ⊢
            exact hl
          rw [h1]
          have ho : ops[i]? = some ops[i] := by simp [hi]
          rw [ho]
          simp only [Option.map_some, Option.getD_some, Bool.not_false, Bool.true_and]
          rw [Array.all_eq_true_iff_forall_mem]
          intro e hem
          rw [binds_any]
          by_cases ha : anyEdge e.ground = true
          · have := backs_eq C.back i ops[i] (by simp) e (by simpa using hem) ha
            rw [ih e.on (by omega) (by omega)]; simp
          · simp only [Bool.not_eq_true] at ha; rw [ha]; rfl
        rw [hnil] at hmem
        cases hmem
  intro fuel
  induction fuel with
  | zero =>
    intro listed a w ρ stk hls hcl hcl' hcount h
    refine hend 0 listed a w ρ stk hls hcount h fun i hi => ?_
    have := List.countP_eq_zero.1 (Nat.le_zero.1 hcount) i (by simp; omega)
    simpa using this
  | succ fuel ih =>
    intro listed a w ρ stk hls hcl hcl' hcount h
    by_cases hall : ∀ j, j < n → listed.getD j false = true
    · exact hend (fuel + 1) listed a w ρ stk hls hcount h hall
    refine ⟨fun hnil => absurd (fun j hj => hsome listed hls hnil j (by omega)) hall, fun i hi => ?_⟩
    unfold Region.ready at hi
    rw [List.mem_filter] at hi
    obtain ⟨hi1, hi2⟩ := hi
    have hiN : i < ops.size := by simpa using hi1
    have ho : ops[i]? = some ops[i] := by simp [hiN]
    rw [ho] at hi2
    simp only [Option.map_some, Option.getD_some, Bool.and_eq_true, Bool.not_eq_true'] at hi2
    obtain ⟨hi3, hi4⟩ := hi2
    generalize hoi : ops[i] = o at ho hi4
    have hol : ops.toList[i]? = some o := by simpa using ho
    have hnot : listed.getD i false = false := by
      rw [Array.getD_eq_getD_getElem?] at hi3 ⊢
      have : listed[i]? = some listed[i] := by simp [hls, hiN]
      rw [this] at hi3 ⊢
      exact hi3
    have hedge : ∀ e ∈ o.after.toList, anyEdge e.ground = true → listed.getD e.on false = true := by
      intro e g1 g2
      rw [Array.all_eq_true_iff_forall_mem] at hi4
      have h5 := hi4 e (by simpa using g1)
      rw [binds_any, g2] at h5
      simpa using h5
    have hready' : ∀ j, Bf ops.toList i j = true → listed.getD j false = true := by
      intro j hj
      obtain ⟨e, g1, g2, g3, g4⟩ := Bf_edge C.back hol hj
      have h6 := hedge e g1 g2
      rcases g4 with g4 | g4
      · rw [← g4]; exact h6
      · exact hcl' _ _ h6 g4
    have hin : i < n := by
      rcases Nat.lt_or_ge i n with h5 | h5
      · exact h5
      · exact absurd (fun j hj => hready' j (C.tail i h5 (by omega) j (by omega))) hall
    have hoh := C.hget hin hol
    have hoa := C.aget hoh
    have hready : ∀ j, Bf (dumbed m t hd 0) i j = true → listed.getD j false = true := by
      intro j hj
      obtain ⟨e, g1, g2, g3, g4⟩ := Bf_edge C.D.back hoa hj
      have haf : (if inG m t i o = true then dumb o else o).after = o.after := by split <;> rfl
      rw [haf] at g1
      have h6 := hedge e g1 g2
      rcases g4 with g4 | g4
      · rw [← g4]; exact h6
      · exact hcl _ _ h6 g4
    have hset : ∀ j, (listed.setIfInBounds i true).getD j false = (listed.getD j false || decide (j = i)) := by
      intro j
      rw [Array.getD_eq_getD_getElem?, Array.getD_eq_getD_getElem?]
      by_cases e : j = i
      · subst e
        rw [Array.getElem?_setIfInBounds_self_of_lt (by omega)]
        simp
      · rw [Array.getElem?_setIfInBounds_ne (fun hh => e hh.symm)]
        have : decide (j = i) = false := by simp [e]
        rw [this, Bool.or_false]
    have hclo : ∀ {all : List Oper}, Closed all (fun j => listed.getD j false) → (∀ j, Bf all i j = true → listed.getD j false = true) → Closed all (fun j => (listed.setIfInBounds i true).getD j false) := by
      intro all hc1 hr1 x j hx hb
      simp only [hset] at hx ⊢
      by_cases e : x = i
      · subst e; rw [hr1 j hb]; rfl
      · have : decide (x = i) = false := by simp [e]
        rw [this, Bool.or_false] at hx
        have h9 : listed.getD j false = true := hc1 x j hx hb
        rw [h9]; rfl
    have hcl2 := hclo hcl hready
    have hcl2' := hclo hcl' hready'
    have hcnt2 : (List.range ops.size).countP (fun j => !(listed.setIfInBounds i true).getD j false) ≤ fuel := by
      have := countP_drop (l := List.range ops.size) (p := fun j => !listed.getD j false) (p' := fun j => !(listed.setIfInBounds i true).getD j false) (i := i) (by simpa using hiN) (by simp only [hnot]; rfl) (by simp only [hset]; simp) (by
        intro x hx
        simp only [hset] at hx
        simp at hx ⊢
        exact hx.1)
      omega
    have hhigh : ∀ j, n ≤ j → (listed.setIfInBounds i true).getD j false = false := by
      intro j hj
      have h5 : listed.getD j false = false := h.high j hj
      rw [hset, h5]; simp; omega
    have hlitm : (listed.setIfInBounds i true).getD m false = true → i ≠ m → listed.getD m false = true := by
      intro hm hne
      rw [hset] at hm
      have : decide (m = i) = false := by simp; exact fun e => hne e.symm
      rwa [this, Bool.or_false] at hm
    have hdlt : dstLt a.tmps.size o.dst = true := by rw [h.size]; exact opsLt_get hlt o (List.mem_of_getElem? hol)
    obtain ⟨st2, q2, q3, q4⟩ := drawn_step (L := fun j => listed.getD j false) (L2 := fun j => (listed.setIfInBounds i true).getD j false) C.D hcl hoa hnot hready hset h.cnt
    cases hG : inG m t i o with
    | false =>
      rw [hG] at q2 q4
      simp only [Bool.false_eq_true, if_false] at q2 q4
      have q2' := stepA_of_dumbed C hoh hG q2
      obtain ⟨hdt, _⟩ := okG_oth (C.ok i o hoh) hG
      have him : i ≠ m := fun e => by
        subst e
        unfold inG at hG
        rw [Nat.beq_refl] at hG; cases hG
      have hins : isIns t o = false := by
        unfold inG at hG
        rw [bcase_eq] at hG
        split at hG
        · cases hG
        · exact hG
      have hstep := step_sound2 (ro := ro) (n := n1) (Q := Q) ht hc (hg.mono h.ext.ren) h.rel (ops := ops) h.frm hdlt q2' (K := wpAnyIn (Fr ro) n1 P .any ops Q fuel (listed.setIfInBounds i true)) (by
        intro ρ' w' a' r1 r2 r3 r4 r5 r6
        refine ih (listed.setIfInBounds i true) a' w' ρ' st2 (by simp [hls]) hcl2 hcl2' hcnt2 ⟨q3, r1, h.ext.trans r2, r3.congr q4, r4.trans h.size, r5.trans h.defers, hhigh, fun hm => ?_⟩
        obtain ⟨D0, arr, clock, es2, g1, g2, g3, g4, g5, g6⟩ := h.lit (hlitm hm him)
        obtain ⟨k1, k2⟩ := r2.keep D0 (lt_of_some g1) g3
        refine ⟨D0, arr, clock, es2, k1.trans g1, (r6 t hdt).trans g2, k2, g4, g5.mono r2.ren, ?_⟩
        have hle : lits (gLit tb t fr1 hd) (fun j => (listed.setIfInBounds i true).getD j false) (List.range n) = lits (gLit tb t fr1 hd) (fun j => listed.getD j false) (List.range n) := lits_congr fun j _ => by
          by_cases e : j = i
          · subst e
            have hgn : gLit tb t fr1 hd j = none := by unfold gLit; rw [hoh]; simp [entOf_none hins]
            simp [hgn]
          · have : (listed.setIfInBounds i true).getD j false = listed.getD j false := by rw [hset]; simp [e]
            simp only [this]
        rw [hle]; exact g6)
      unfold wpOpIn
      rw [ho]
      exact hstep
    | true =>
      rw [hG] at q2 q4
      simp only [if_true] at q2 q4
      have hst2 : st2 = stk := ((stepA_sort q2).1 (sort_dumb o)).1
      subst hst2
      have hFLx : ∀ x, (FL (dumbed m t hd 0) W (fr.del t) (fun j => (listed.setIfInBounds i true).getD j false) (dumbed m t hd 0).length).get x = (FL (dumbed m t hd 0) W (fr.del t) (fun j => listed.getD j false) (dumbed m t hd 0).length).get x := by
        intro x; rw [q4]; rfl
      have hgd : o.guard = none := by
        by_cases him : i = m
        · subst him
          obtain ⟨om, hom, hmm⟩ := C.mm
          rw [hoh] at hom; cases hom
          exact (mmAt_eq hmm).1
        · have hins : isIns t o = true := by
            unfold inG at hG
            rw [bcase_eq] at hG
            split at hG
            · rename_i hb; exact absurd (beq_true hb) him
            · exact hG
          exact (okG_ins (C.ok i o hoh) him hins).1
      have hwt : wantedA ops.toList o (FL (dumbed m t hd 0) W (fr.del t) (fun j => listed.getD j false) (dumbed m t hd 0).length) = some true := by unfold wantedA; rw [hgd]; rfl
      have hf := fits_of h.frm (hg.mono h.ext.ren)
      unfold wpOpIn
      rw [ho]
      show if Region.wanted o (yielded ops a.tmps) = true then _ else _
      rw [wanted_sound h.frm hwt, if_pos rfl]
      refine ⟨fun _ _ => trivial, ?_⟩
      by_cases him : i = m
      · -- the map itself
        subst him
        obtain ⟨om, hom, hmm⟩ := C.mm
        rw [hoh] at hom; cases hom
        obtain ⟨_, hdst, ty, hop⟩ := mmAt_eq hmm
        have hsem : o.semAt (Fr ro).round a.eval = execOp a.eval o := Oper.semAt_eq _ _ _ (by intro c e; rw [hop] at e; cases e)
        have hrun : (execOp a.eval o).run P w = .ok (.value (.map (some w.heap.size))) { w with heap := w.heap.push (.map #[] 0) } := by
          unfold execOp
          rw [hop]
          simp [Instr.makeMap]
        rw [hsem, hrun, Oper.uponIn_value]
        obtain ⟨r1, r2⟩ := h.rel.push (.map #[] 0)
        have htl : t < a.tmps.size := by
          rw [hdst] at hdlt
          have : Nat.blt t a.tmps.size = true := hdlt
          simpa using this
        refine ih (listed.setIfInBounds i true) _ _ ρ st2 (by simp [hls]) hcl2 hcl2' hcnt2 ⟨q3, r1, h.ext.trans r2, ?_, (put_size _ _ _).trans h.size, (put_defers _ _ _).trans h.defers, hhigh, fun _ => ?_⟩
        · intro u v hu
          rw [hFLx] at hu
          by_cases e : u = t
          · subst e; rw [C.fl_t] at hu; cases hu
          · obtain ⟨v', g1, g2⟩ := h.frm u v hu
            refine ⟨v', ?_, g2⟩
            rw [put_other _ _ _ u (by rw [hdst]; intro hh; exact e (Option.some.inj hh).symm)]
            exact g1
        · refine ⟨w.heap.size, #[], 0, [], by simp, ?_, not_own_new h.rel (Nat.le_refl _), h.ext.size, .nil, ?_⟩
          · rw [hdst]
            show (a.tmps.setIfInBounds t (.map (some w.heap.size)))[t]? = _
            rw [Array.getElem?_setIfInBounds_self_of_lt htl]
          · rw [lits_nil]
            · exact .refl _
            · intro j hj hL
              have hjn : j < n := by simpa using hj
              have hjN : j < hd.length := by rw [C.hdlen]; exact hjn
              have hoj : hd[j]? = some hd[j] := by simp [hjN]
              unfold gLit
              rw [hoj, Option.bind_some]
              by_cases e : j = i
              · subst e
                rw [hoh] at hoj
                have : isIns t o = false := by
                  unfold isIns insAt
                  rw [hop]; rfl
                have h9 : hd[j] = o := (Option.some.inj hoj).symm
                rw [h9, entOf_none this]; rfl
              · have hlj : listed.getD j false = true := by
                  rw [hset] at hL
                  have : decide (j = i) = false := by simp [e]
                  rwa [this, Bool.or_false] at hL
                cases hi5 : isIns t hd[j] with
                | false => rw [entOf_none hi5]; rfl
                | true =>
                  have := (okG_ins (C.ok j _ hoj) e hi5).2.2
                  have h9 : listed.getD i false = true := hcl j i hlj this
                  rw [hnot] at h9; cases h9
      · -- an entry
        have hins : isIns t o = true := by
          unfold inG at hG
          rw [bcase_eq] at hG
          split at hG
          · rename_i hb; exact absurd (beq_true hb) him
          · exact hG
        obtain ⟨_, hdst, hbit⟩ := okG_ins (C.ok i o hoh) him hins
        obtain ⟨q, hq⟩ := isIns_eq hins
        have hop := insAt_eq hq
        have hLm : listed.getD m false = true := hready m hbit
        obtain ⟨D0, arr, clock, es2, g1, g2, g3, g4, g5, g6⟩ := h.lit hLm
        obtain ⟨hes, hesA⟩ := entsOf_eq C.ents
        obtain ⟨eo, heo⟩ := hesA o (List.mem_of_getElem? hoh)
        obtain ⟨d, re, kv, xv, e1, e2, e3, e4, e5⟩ := entOf_eq hq heo
        have hgE : gEnt tb t fr1 o = some (kv, xv, 0) := by unfold gEnt; rw [heo, e5]; rfl
        have hgL : gLit tb t fr1 hd i = some (kv, xv) := by unfold gLit; rw [hoh, Option.bind_some, hgE]; rfl
        -- its operands, as the frame has them
        have hlk : ∀ u ∈ looks hd o, (FL (dumbed m t hd 0) W (fr.del t) (fun j => listed.getD j false) (dumbed m t hd 0).length).get u = fr1.get u := by
          intro u hu
          have hAl := C.alen
          have h5 := FL_above (all := dumbed m t hd 0) (W := W) (fr := fr.del t) (L := fun j => listed.getD j false) (i := i) (x := u) (dumbed m t hd 0).length (by omega) (by
            intro j hj1 hj2 hlj hdj
            obtain ⟨oj, k1, k2, k3, _⟩ := C.adst hdj
            by_cases e : j = i
            · subst e
              have hlj' : listed.getD j false = true := hlj
              rw [hnot] at hlj'; cases hlj'
            · exact C.stays i o hoh hins j oj (by omega) k1 u k3 hu)
          rw [h5]
          have h6 := FL_below (all := dumbed m t hd 0) (W := W) (fr := fr.del t) (L := fun j => listed.getD j false) (x := u) C.D.f0 C.D.fS i (by omega) (by
            intro j hj hdj
            obtain ⟨oj, k1, k2, k3, _⟩ := C.adst hdj
            rcases C.agree i j o oj hoh hj k1 with hb | hb
            · exact hready j hb
            · exact absurd hu ((agreeT_eq hb).1 u k3).1)
          rw [h6, ← C.D.fN]
          refine (F_same C.D.fS _ (by omega) (Nat.le_refl _) fun j hj1 hj2 hdj => ?_).symm
          obtain ⟨oj, k1, k2, k3, _⟩ := C.adst hdj
          by_cases e : j = i
          · subst e
            rw [hoh] at k1; cases k1
            rw [hdst] at k3; cases k3
          · exact C.stays i o hoh hins j oj (by omega) k1 u k3 hu
        have hlooks : ∀ x ∈ o.op.operands.toList, ∀ u, tmpOf x = some u → u ∈ looks hd o := by
          intro x hx u hu
          unfold looks guardT
          rw [hgd]
          exact omap_mem hx hu
        have hk : opd (FL (dumbed m t hd 0) W (fr.del t) (fun j => listed.getD j false) (dumbed m t hd 0).length) q.2.1 = some kv := by
          rw [opd_congr (fun u hu => hlk u (hlooks q.2.1 (by rw [hop]; simp [Op.operands]) u hu))]; exact e2
        have hx : opd (FL (dumbed m t hd 0) W (fr.del t) (fun j => listed.getD j false) (dumbed m t hd 0).length) q.2.2 = some xv := by
          rw [opd_congr (fun u hu => hlk u (hlooks q.2.2 (by rw [hop]; simp [Op.operands]) u hu))]; exact e4
        have rk := hf.opd _ kv hk
        have rx := hf.opd _ xv hx
        obtain ⟨kt, ety, hu, huk, hre⟩ := mapElem_eq ht e1
        -- its key is new
        have hperm := lits_add (g := gLit tb t fr1 hd) (L := fun j => listed.getD j false) (L2 := fun j => (listed.setIfInBounds i true).getD j false) hnot hset hgL (List.nodup_range (n := n)) (by simpa using hin)
        have hpw : (lits (gLit tb t fr1 hd) (fun j => (listed.setIfInBounds i true).getD j false) (List.range n)).Pairwise ApartR := by
          refine List.Pairwise.sublist lits_sub ?_
          rw [← C.lit_es]; exact apartK_eq C.apart
        have hap := (List.pairwise_cons.1 (pw_perm hperm hpw)).1
        have hnew : ∀ e ∈ es2, keyEq kv e.1 = some false := by
          intro e he
          have : strip e ∈ lits (gLit tb t fr1 hd) (fun j => listed.getD j false) (List.range n) := g6.mem_iff.1 (List.mem_map.2 ⟨e, he, rfl⟩)
          exact hap _ this
        have hms := mset_new (x := xv) (c := clock) hnew
        have hsem : o.semAt (Fr ro).round a.eval = execOp a.eval o := Oper.semAt_eq _ _ _ (by intro c e; rw [hop] at e; cases e)
        rcases mset_sound rk rx e3 0 hms g5 with ⟨_, _, _, _, hcc, _⟩ | ⟨k1, _, k3⟩
        · omega
        have hrun : (execOp a.eval o).run P w = .ok .skip (World.putObj w D0 (.map (arr.push { key := a.eval q.2.1, val := a.eval q.2.2, born := clock }) (clock + 1))) := by
          have hmu : (Instr.mapUpdate q.1 (a.eval (.tmp t)) (a.eval q.2.1) (a.eval q.2.2)).run P w = .ok () (World.putObj w D0 (.map (arr.push { key := a.eval q.2.1, val := a.eval q.2.2, born := clock }) (clock + 1))) := by
            rw [eval_tmp g2]
            simp only [Instr.mapUpdate, Sem.run_bind, run_underlying hu, Result.andThen_ok, run_getObj g1 (fun _ _ _ e => by cases e), checkKey_run huk e3 rk, findKey_run huk k1]
            exact run_setObj g1 (fun _ _ _ e => by cases e)
          unfold execOp
          rw [hop]
          simp only [Sem.run_bind, hmu, Result.andThen_ok, Sem.run_pure]
        rw [hsem, hrun, Oper.uponIn_skip]
        have hfree := ro_free h0 h.rel h.ext g3 g4
        have hputT : (a.put o.dst (.tuple #[])) = a := by rw [hdst]; rfl
        have hDlt := lt_of_some g1
        have hput : ∀ v, a.put o.dst v = a := fun v => by rw [hdst]; rfl
        simp only [hput]
        refine ih (listed.setIfInBounds i true) a _ ρ st2 (by simp [hls]) hcl2 hcl2' hcnt2 ⟨q3, h.rel.world hfree, ⟨h.ext.ren, h.ext.os, h.ext.tape, h.ext.output, by simp [World.putObj]; exact h.ext.size, fun x hx hn => ?_, h.ext.ro⟩, h.frm.congr hFLx, h.size, h.defers, hhigh, fun _ => ?_⟩
        · obtain ⟨y1, y2⟩ := h.ext.keep x hx hn
          refine ⟨?_, y2⟩
          rw [← y1]
          show (w.heap.setIfInBounds D0 _)[x]? = _
          rw [Array.getElem?_setIfInBounds_ne (by omega)]
        · refine ⟨D0, _, _, es2 ++ [(kv, xv, clock)], putObj_get g1, g2, g3, g4, by simpa using k3, ?_⟩
          rw [List.map_append]
          have h7 : ((es2.map strip) ++ [strip (kv, xv, clock)]).Perm ((kv, xv) :: es2.map strip) := List.perm_append_singleton _ _
          exact h7.trans ((g6.cons (kv, xv)).trans hperm.symm)

end Go.Ab

namespace Go.Ab
open Go
variable {P : Program} {tb : Tab} {call : CallF}

theorem repl_no {m : Nat} : ∀ i, (Array.replicate m false).getD i false = false := by
  intro i
  rw [Array.getD_eq_getD_getElem?, Array.getElem?_replicate]
  split <;> rfl

theorem drawC_eq {all : List Oper} {fr : T V} {st : St} {r : T V × St} (h : drawC tb call all fr st = some r) : ∃ hd n m t fr1 st1 es F W ss, CPlan tb call all hd n m t fr st fr1 st1 es F W ss ∧
    opsA tb call all (all.drop n) (fr1.put t (.map st1.next)) ⟨st1.heap.put st1.next (.umap es), st1.next + 1⟩ = some r := by
  obtain ⟨m, t, h1, h2⟩ := ob2_eq h
  obtain ⟨hd, h3, h4⟩ := ob_eq h2
  obtain ⟨e1, e2⟩ := ltake_eq _ _ _ h3
  rw [ldrop_eq] at h4
  generalize lastG t all 0 (Nat.succ m) = n at *
  unfold drawC2 at h4
  obtain ⟨g0, h4⟩ := gd_eq h4
  obtain ⟨g1, h4⟩ := gd_eq h4
  obtain ⟨g2, h4⟩ := gd_eq h4
  obtain ⟨g3, h4⟩ := gd_eq h4
  obtain ⟨g4, h4⟩ := gd_eq h4
  obtain ⟨g5, h4⟩ := gd_eq h4
  obtain ⟨ps, h5, h6⟩ := ob_eq h4
  obtain ⟨fr1, st1, h7, h8⟩ := ob2_eq h6
  obtain ⟨es, h9, h10⟩ := ob_eq h8
  obtain ⟨g6, h11⟩ := gd_eq h10
  obtain ⟨b, st2, h12, h13⟩ := ob2_eq h11
  obtain ⟨rfl, rfl⟩ := newBlk_eq h12
  obtain ⟨F, W, ss, D⟩ := drawn_of h5 h7
  have hmn : m < n := by simpa using g0
  obtain ⟨_, om, hom, hmm⟩ := findMM_eq h1
  rw [Nat.sub_zero] at hom
  refine ⟨hd, n, m, t, fr1, st1, es, F, W, ss, ⟨e2, e1, g1, D, ?_, ?_, stays_eq g4, ?_, hmn, ⟨om, ?_, hmm⟩, h9, g6⟩, h13⟩
  · intro q o ho
    have := okGs_eq g2 q o ho
    rwa [Nat.zero_add] at this
  · intro i j o p ho hj hp
    have := allAgree_eq (k := 0) (fun q => by rw [Nat.zero_add]) g3 i j o p ho (by omega) hp
    simpa [Bf] using this
  · intro j hj1 hj2 k hk
    have ho : (all.drop n)[j - n]? = some all[j] := by
      rw [List.getElem?_drop, show n + (j - n) = j by omega]; simp [hj2]
    have := tailOK_eq g5 (j - n) _ ho k (by omega)
    rw [show n + (j - n) = j by omega] at this
    exact this
  · rw [e2, List.getElem?_take, if_pos hmn]; exact hom

theorem draw_ok (ht : TabOK P tb) (hc : CallOK P call) (hm : P.follows .mixedOrders = true) : DrawOK P tb call := by
  intro ops fr st fr' st' h ρ w a ro n id Q hg hr hT hlt hQ
  unfold drawA at h
  have hFL : ∀ L : Nat → Bool, ∀ W : Nat → V, (∀ i, L i = false) → ∀ m, FL ops.toList W fr L m = fr := by
    intro L W hL m
    induction m with
    | zero => rfl
    | succ m ih => rw [FL_succ, if_neg (by rw [hL]; simp), ih]
  have hcl : Closed ops.toList (fun i => (Array.replicate ops.size false).getD i false) := by
    intro i j hi0 _
    have hi : (Array.replicate ops.size false).getD i false = true := hi0
    rw [repl_no] at hi; cases hi
  refine wpIn_region_any hm ?_
  cases hp : planOf tb ops.toList with
  | some qs =>
    rw [hp] at h
    have h1 : runP tb call ops.toList qs fr st = some (fr', st') := h
    obtain ⟨F, W, ss, D⟩ := drawn_of hp h1
    refine draw_any ht hc D hg (sz := a.tmps.size) (dfs := a.defers) hlt hQ ops.size (Array.replicate ops.size false) a { w with drawn := w.drawn + 1 } ρ st (by simp) hcl ?_ ?_ (hr.drew _) (Ext.drew _ _ _ _) ?_ rfl rfl
    · exact Nat.le_trans List.countP_le_length (by simp)
    · have : (actors tb ops.toList 0).countP (fun e => (Array.replicate ops.size false).getD e false) = 0 := by
        rw [List.countP_eq_zero]
        intro e _
        rw [repl_no]; simp
      rw [this]; exact D.s0
    · rw [hFL _ _ repl_no]; exact hT
  | none =>
    rw [hp, ocase_none] at h
    have hno : ∀ {Q : Prop} (j : Nat), (fun i => (Array.replicate ops.size false).getD i false) j = true → Q := by
      intro Q j hj
      have hj' : (Array.replicate ops.size false).getD j false = true := hj
      rw [repl_no] at hj'; cases hj'
    cases hpb : planB tb ops.toList with
    | some qs =>
      rw [hpb] at h
      have h1 : runP tb call ops.toList qs fr st = some (fr', st') := h
      obtain ⟨F, W, ss, D⟩ := drawnB_of hpb h1
      refine draw_anyB ht hc D hg (hr.drew (w.drawn + 1)) (sz := a.tmps.size) (dfs := a.defers) hlt (fun ρ' w' a' e1 e2 => hQ ρ' w' a' e1 ((Ext.drew _ _ _ _).trans e2)) ops.size (Array.replicate ops.size false) a { w with drawn := w.drawn + 1 } ρ st 0 (fun _ => 0) (by simp) hcl ?_ ?_
      · exact Nat.le_trans List.countP_le_length (by simp)
      · refine ⟨Nat.zero_le _, fun p e hp => by omega, fun p e _ _ he => hno e he, D.s0, hr.drew _, Ext.refl _ _ _, ⟨fr, hT, fun t _ => ?_, fun t p i _ _ hi => hno i hi⟩, rfl, rfl, fun p i _ _ hi => hno i hi, fun p i q j _ _ hi => hno i hi⟩
        rw [hFL _ _ (fun i => by unfold doneB; show ((Array.replicate ops.size false).getD i false && _) = false; rw [repl_no]; rfl)]
    | none =>
      rw [hpb] at h
      have h1 : drawC tb call ops.toList fr st = some (fr', st') := h
      obtain ⟨hd, n1, m, t, fr1, st1, es, F, W, ss, C, hZ⟩ := drawC_eq h1
      refine draw_anyC ht hc C hZ hg (hr.drew (w.drawn + 1)) (sz := a.tmps.size) (dfs := a.defers) hlt (fun ρ' w' a' e1 e2 => hQ ρ' w' a' e1 ((Ext.drew _ _ _ _).trans e2)) ops.size (Array.replicate ops.size false) a { w with drawn := w.drawn + 1 } ρ st (by simp) (fun i j hi _ => hno i hi) hcl ?_ ?_
      · exact Nat.le_trans List.countP_le_length (by simp)
      · have hcz : (actors tb (dumbed m t hd 0) 0).countP (fun e => (Array.replicate ops.size false).getD e false) = 0 := by
          rw [List.countP_eq_zero]
          intro e _
          rw [repl_no]; simp
        refine ⟨by rw [hcz]; exact C.D.s0, hr.drew _, Ext.refl _ _ _, ?_, rfl, rfl, fun j _ => repl_no j, fun hm => hno m hm⟩
        intro u v hu
        have hFc : ∀ k, FL (dumbed m t hd 0) W (fr.del t) (fun i => (Array.replicate ops.size false).getD i false) k = fr.del t := by
          intro k
          induction k with
          | zero => rfl
          | succ k ih => rw [FL_succ, if_neg (by simp only [repl_no]; simp), ih]
        rw [hFc, T.get_del] at hu
        split at hu
        · cases hu
        · exact hT u v hu

/-- **calls, as the evaluator runs them.** -/
theorem calls_ok (ht : TabOK P tb) {prim : PrimF} (hp : PrimOK P prim) (hm : P.follows .mixedOrders = true) (d : Nat) : CallOK P (callA tb prim d) :=
  call_ok ht hp (fun _ hc => draw_ok ht hc hm) d

end Go.Ab
