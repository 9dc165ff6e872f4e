/-
  A PART OF THE PROOF OF EngineNil's TIED CARD: that the evaluator's steps, code, calls and ranges over functions answer as the model does. No condition beyond those that the theorems below bear.
-/
import Derived.Test.YtceikoofpfcpaaaGreatDoorA6
import Derived.CallsIn
import Derived.RangeFuncIn
import Derived.RangeFuncLeaves
namespace Go.Ab
open Go
variable {P : Program} {ρ : Ren} {st st' : St} {w : World} {tb : Tab} {call : CallF}

/-! Operations, as the laws of the walk take them. -/
abbrev Fr (ro : Option Nat) : Fence := { Fence.wide with round := ro }

/-- what a call comes to. -/
def Post (ρ : Ren) (st : St) (w : World) (v : V) (st' : St) (e : Ending) (w' : World) : Prop :=
  ∃ v' ρ', e = .returned v' ∧ Rel ρ' st' w' ∧ Ext ρ st w ρ' st' w' ∧ RelV ρ' v v'

structure CallOK (P : Program) (call : CallF) : Prop where
  func : ∀ f args v st st', call (.func f) args st = some (v, st') → ∀ (ρ : Ren) (w : World) (args' : Array Value), Glob ρ → Rel ρ st w → RelL ρ args args'.toList →
    ((callFunc f args').run P w = .ok (.enter f args') w ∧ Calls P f args' w (Post ρ st w v st')) ∨
    (∃ v' ρ' w', (callFunc f args').run P w = .ok (.value v') w' ∧ Rel ρ' st' w' ∧ Ext ρ st w ρ' st' w' ∧ RelV ρ' v v')
  yield : ∀ l args v st st', call (.yield l) args st = some (v, st') → ∀ (ρ : Ren) (w : World) (args' : Array Value) (p : Pl), Glob ρ → Rel ρ st w → RelL ρ args args'.toList → ρ l = some p →
    ∃ f tmps asg body, (Instr.yield p.blk args').run P w = .ok (.round p.blk f tmps asg body) w ∧ ∀ n, RoundIn Fence.wide n P p.blk f tmps asg body w (Post ρ st w v st')
  only : ∀ fn args v st st', call fn args st = some (v, st') → (∃ f, fn = .func f) ∨ ∃ l, fn = .yield l

section
variable {ro : Option Nat} {n : Nat} {o : Oper} {a : Act} {next : Act → World → Prop} {Q : Exit → Act → World → Prop} {v : V}

/-- what is asked behind an operation. -/
def Then (ρ : Ren) (st : St) (w : World) (st' : St) (v : V) (o : Oper) (a : Act) (next : Act → World → Prop) : Prop :=
  ∀ ρ' w' v', Rel ρ' st' w' → Ext ρ st w ρ' st' w' → RelV ρ' v v' → next (a.put o.dst v') w'

theorem upon_v {s : Sem Value} (hs : Comes1 P ρ st w s v st') (hn : Then ρ st w st' v o a next) : o.uponIn (Fr ro) n P a next Q ((do pure (.value (← s)) : Sem Next).run P w) := by
  obtain ⟨ρ', w', v', h1, h2, h3, h4⟩ := hs
  simp only [Sem.run_bind, h1, Result.andThen_ok, Sem.run_pure, Oper.uponIn_value]
  exact hn ρ' w' v' h2 h3 h4
theorem upon_g {s : Sem Value} (h : Rel ρ st w) (hs : st' = st ∧ Gives P ρ w s v) (hn : Then ρ st w st' v o a next) : o.uponIn (Fr ro) n P a next Q ((do pure (.value (← s)) : Sem Next).run P w) := by
  obtain ⟨rfl, g⟩ := hs
  exact upon_v (g.comes h) hn
theorem upon_u {s : Sem Unit} (hs : v = .tuple [] ∧ ∃ w', s.run P w = .ok () w' ∧ Rel ρ st' w' ∧ Ext ρ st w ρ st' w') (hn : Then ρ st w st' v o a next) :
    o.uponIn (Fr ro) n P a next Q ((do s; pure .skip : Sem Next).run P w) := by
  obtain ⟨rfl, w', h1, h2, h3⟩ := hs
  simp only [Sem.run_bind, h1, Result.andThen_ok, Sem.run_pure, Oper.uponIn_skip]
  exact hn ρ w' _ h2 h3 (.tuple _ _ .nil)
theorem upon_p (h : Rel ρ st w) {x : Value} (hx : RelV ρ v x) (hs : st' = st) (hn : Then ρ st w st' v o a next) : o.uponIn (Fr ro) n P a next Q ((pure (.value x) : Sem Next).run P w) := by
  subst hs
  simp only [Sem.run_pure, Oper.uponIn_value]
  exact hn ρ w x h (Ext.refl _ _ _) hx

theorem upon_func (hc : CallOK P call) (hg : Glob ρ) (h : Rel ρ st w) {f : FuncId} {args : List V} {args' : Array Value} (h0 : call (.func f) args st = some (v, st')) (ha : RelL ρ args args'.toList)
    (hn : Then ρ st w st' v o a next) : o.uponIn (Fr ro) n P a next Q ((callFunc f args').run P w) := by
  rcases hc.func f args v st st' h0 ρ w args' hg h ha with ⟨h1, h2⟩ | ⟨v', ρ', w', h1, h2, h3, h4⟩
  · rw [h1, Oper.uponIn_enter]
    refine ⟨fun hd => by simp [Fence.wide] at hd, ?_⟩
    have h3 : CallsIn Fence.wide (n - 1) P f args' w (Post ρ st w v st') := callsIn_wide.2 h2
    refine ⟨trivial, fun cs hr => ?_⟩
    obtain ⟨e, w', fr, r, s, x⟩ := h3.2 cs hr
    refine ⟨e, w', fr, ?_, s, x⟩
    obtain ⟨v', ρ', rfl, k1, k2, k3⟩ := r
    exact hn ρ' w' v' k1 k2 k3
  · rw [h1, Oper.uponIn_value]
    exact hn ρ' w' v' h2 h3 h4

theorem upon_yield (hc : CallOK P call) (hg : Glob ρ) (h : Rel ρ st w) {l : Nat} {p : Pl} {args : List V} {args' : Array Value} (h0 : call (.yield l) args st = some (v, st')) (ha : RelL ρ args args'.toList) (hp : ρ l = some p)
    (hn : Then ρ st w st' v o a next) : o.uponIn (Fr ro) n P a next Q ((Instr.yield p.blk args').run P w) := by
  obtain ⟨f, tmps, asg, body, h1, h2⟩ := hc.yield l args v st st' h0 ρ w args' p hg h ha hp
  rw [h1, Oper.uponIn_round]
  refine ⟨fun hd => by simp [Fence.wide] at hd, ?_⟩
  refine ⟨trivial, fun c cs hr => ?_⟩
  obtain ⟨e, w', r, s⟩ := (h2 (n - 1)).2 c cs hr
  refine ⟨e, w', ?_, s⟩
  obtain ⟨v', ρ', rfl, k1, k2, k3⟩ := r
  exact hn ρ' w' v' k1 k2 k3

theorem nilCheck_sound {fr : T V} {ev : Operand → Value} (hf : Fits ρ fr ev) {x : Operand} {u : V} (hu : opd fr x = some u) (h0 : nilChk st u = some (v, st')) :
    st' = st ∧ RelV ρ v (ev x) ∧ ((∃ q, ev x = .pointer (some q)) ∨ ∃ fn b c, ev x = .func fn b c ∧ ∀ m, fn ≠ .method m) := by
  have hx := hf.opd x u hu
  generalize ev x = x' at hx ⊢
  unfold nilChk at h0
  cases u <;> first | (cases h0; done) | skip
  case ptr b off =>
    cases h0
    cases hx with
    | ptr _ _ p hp => exact ⟨rfl, .ptr _ _ p hp, .inl ⟨_, rfl⟩⟩
  case func fn b c =>
    cases hx with
    | func _ fn' _ _ b' c' hfn hb hc =>
      cases fn <;> first | (cases h0; done) | skip
      all_goals
        cases h0
        refine ⟨rfl, .func _ _ _ _ _ _ hfn hb hc, .inr ⟨_, _, _, rfl, ?_⟩⟩
        intro m e
        rw [e] at hfn
        cases hfn

theorem builtin_sound (ht : TabOK P tb) (h : Rel ρ st w) {b : Builtin} {ts : Array TypeId} {ty : TypeId} {cs : Array Bool} {args : List V} {args' : Array Value} (ha : RelL ρ args args'.toList)
    (h0 : builtinA tb b ts.toList args st = some (v, st')) (hn : Then ρ st w st' v o a next) : o.uponIn (Fr ro) n P a next Q ((builtin b ts ty cs args').run P w) := by
  have arg1' : ∀ {β : Type} {f : V → Option β} {y : β}, arg1 args f = some y → ∃ x x', f x = some y ∧ args' = #[x'] ∧ RelV ρ x x' := by
    intro β f y hy
    cases args with
    | nil => cases hy
    | cons x l =>
      cases l with
      | cons z l => cases hy
      | nil =>
        generalize hq : args'.toList = q at ha
        cases ha with
        | cons _ x' _ l' hx hl =>
          cases hl
          exact ⟨x, x', hy, by apply Array.ext'; simpa using hq, hx⟩
  have arg2' : ∀ {β : Type} {f : V → V → Option β} {y : β}, arg2 args f = some y → ∃ x z x' z', f x z = some y ∧ args' = #[x', z'] ∧ RelV ρ x x' ∧ RelV ρ z z' := by
    intro β f y hy
    cases args with
    | nil => cases hy
    | cons x l =>
      cases l with
      | nil => cases hy
      | cons z l =>
        cases l with
        | cons _ _ => cases hy
        | nil =>
          generalize hq : args'.toList = q at ha
          cases ha with
          | cons _ x' _ l' hx hl =>
            cases hl with
            | cons _ z' _ l' hz hl =>
              cases hl
              exact ⟨x, z, x', z', hy, by apply Array.ext'; simpa using hq, hx, hz⟩
  have t1' : ∀ {β : Type} {f : Row → Option β} {y : β}, t1 tb ts.toList f = some y → ∃ t re, ts[0]? = some t ∧ slElem tb t = some re ∧ f re = some y := by
    intro β f y hy
    cases hts : ts.toList with
    | nil => rw [hts] at hy; cases hy
    | cons t l =>
      rw [hts] at hy
      obtain ⟨re, h1, h2⟩ := ob_eq (o := slElem tb t) hy
      refine ⟨t, re, ?_, h1, h2⟩
      have : ts.toList[0]? = some t := by rw [hts]; rfl
      simpa using this
  have lg : ∀ {t : TypeId}, lget ts.toList 0 = some t → ts[0]? = some t := by
    intro t hq
    rw [lget_eq] at hq
    simpa using hq
  unfold builtinA at h0
  split at h0
  · obtain ⟨x, x', h1, rfl, hx⟩ := arg1' h0
    obtain ⟨t, h2, h3⟩ := ob_eq h1
    obtain ⟨r, h4, h5⟩ := ob_eq h3
    exact upon_g h (len_sound ht h (lg h2) h4 hx h5) hn
  · obtain ⟨x, x', h1, rfl, hx⟩ := arg1' h0
    obtain ⟨t, h2, h3⟩ := ob_eq h1
    obtain ⟨r, h4, h5⟩ := ob_eq h3
    obtain ⟨e, h6, h7⟩ := ob_eq h5
    obtain ⟨_, _, _, _, ud, _⟩ := (row_ok ht h4).ex
    have hd : r.desc = .slice e := by
      unfold elemSl at h6
      split at h6
      · cases h6; assumption
      · cases h6
    rw [hd] at ud
    exact upon_g h (cap_sound (lg h2) ud hx h7) hn
  · obtain ⟨x, z, x', z', h1, rfl, hx, hz⟩ := arg2' h0
    obtain ⟨t, re, h2, h3, h4⟩ := t1' h1
    exact upon_v (appendB_sound ht h h2 h3 hx hz h4) hn
  · obtain ⟨x, z, x', z', h1, rfl, hx, hz⟩ := arg2' h0
    obtain ⟨t, re, h2, h3, h4⟩ := t1' h1
    exact upon_v (copy_sound ht h h2 h3 hx hz h4) hn
  · obtain ⟨x, z, x', z', h1, rfl, hx, hz⟩ := arg2' h0
    obtain ⟨t, h2, h3⟩ := ob_eq h1
    obtain ⟨d, re, h4, h5⟩ := ob2_eq h3
    obtain ⟨h6, h7⟩ := gd_eq h5
    exact upon_v (delete_sound ht h (lg h2) h4 h6 h7 hx hz) hn
  · obtain ⟨rfl, h2⟩ : st' = st ∧ fold1A max2A args = some v := by
      obtain ⟨u, h1, h2⟩ := ob_eq h0
      cases h2
      exact ⟨rfl, h1⟩
    obtain ⟨x', r', h3, h4⟩ := fold1_sound (P := P) (w := w) (g := Builtin.max2) (fun _ _ _ _ _ q1 q2 q3 => max2_sound q1 q2 q3) h2 ha
    refine upon_g (s := Builtin.max_ ts ty args') h ⟨rfl, ?_⟩ hn
    unfold Builtin.max_
    rw [h3]; exact h4
  · obtain ⟨rfl, h2⟩ : st' = st ∧ fold1A min2A args = some v := by
      obtain ⟨u, h1, h2⟩ := ob_eq h0
      cases h2
      exact ⟨rfl, h1⟩
    obtain ⟨x', r', h3, h4⟩ := fold1_sound (P := P) (w := w) (g := Builtin.min2) (fun _ _ _ _ _ q1 q2 q3 => min2_sound q1 q2 q3) h2 ha
    refine upon_g (s := Builtin.min_ ts ty args') h ⟨rfl, ?_⟩ hn
    unfold Builtin.min_
    rw [h3]; exact h4
  · obtain ⟨x, x', h1, rfl, hx⟩ := arg1' h0
    obtain ⟨t, re, h2, h3, h4⟩ := t1' h1
    exact upon_v (clear_sound ht h h2 h3 hx h4) hn
  · cases h0

end
end Go.Ab

namespace Go.Ab
open Go
variable {P : Program} {ρ : Ren} {st st' : St} {w : World} {tb : Tab} {call : CallF}

theorem ret_eq {v : V} {o : Option V} (h : ob o (ret st) = some (v, st')) : o = some v ∧ st' = st := by
  obtain ⟨u, h1, h2⟩ := ob_eq h
  cases h2
  exact ⟨h1, rfl⟩

section
variable {ro : Option Nat} {n : Nat} {o : Oper} {a : Act} {next : Act → World → Prop} {Q : Exit → Act → World → Prop} {v : V}

theorem call_sound (ht : TabOK P tb) (hc : CallOK P call) (hg : Glob ρ) (h : Rel ρ st w) {fr : T V} (hf : Fits ρ fr a.eval) {c : Call} {ty : TypeId} (h0 : oCall tb fr st call c = some (v, st'))
    (hn : Then ρ st w st' v o a next) : o.uponIn (Fr ro) n P a next Q ((do let d ← resolve a.eval c ty; invoke d.target d.args : Sem Next).run P w) := by
  obtain ⟨args, hargs, h1⟩ := ob_eq (o := opds fr c.args.toList) h0
  have ha : RelL ρ args (c.args.map a.eval).toList := by simpa using hf.opds hargs
  cases hcal : c.callee with
  | invoke r m => rw [hcal] at h1; cases h1
  | builtin b =>
    rw [hcal] at h1
    simp only [resolve, hcal, Sem.run_bind, Sem.run_pure, Result.andThen_ok, invoke]
    exact builtin_sound ht h ha h1 hn
  | value f =>
    rw [hcal] at h1
    obtain ⟨fv, hfv, h2⟩ := ob_eq (o := opd fr f) h1
    have hx := hf.opd f fv hfv
    unfold callV at h2
    cases fv <;> first | (cases h2; done) | skip
    rename_i fn first cap
    generalize hev : a.eval f = f' at hx
    cases hx with
    | func _ fn' _ _ first' cap' hfn hfi hca =>
      simp only [resolve, hcal, hev, Deferred.ofValue, Sem.run_bind, Sem.run_pure, Result.andThen_ok]
      cases fn <;> first | (cases h2; done) | skip
      case func g =>
        cases hfn
        simp only [invoke]
        refine upon_func hc hg h h2 ?_ hn
        rw [app_eq, app_eq]
        simpa using hfi.append (ha.append hca)
      case yield l =>
        cases cap with
        | cons _ _ => cases h2
        | nil =>
          cases hfn with
          | yield _ p hp =>
            simp only [invoke]
            refine upon_yield hc hg h h2 ?_ hp hn
            rw [app_eq]
            simpa using hfi.append ha

theorem op_sound (ht : TabOK P tb) (hc : CallOK P call) (hg : Glob ρ) (h : Rel ρ st w) {fr : T V} (hfr : RelT ρ fr a.tmps) (h0 : opA tb call o.op fr st = some (v, st'))
    (hn : Then ρ st w st' v o a next) : Oper.wpIn (Fr ro) n P o a w next Q := by
  have hf : Fits ρ fr a.eval := fits_of hfr hg
  refine ⟨fun _ _ => trivial, ?_⟩
  have hsem : o.semAt (Fr ro).round a.eval = execOp a.eval o := Oper.semAt_eq _ _ _ (by
    intro c e
    rw [e] at h0
    cases h0)
  rw [hsem]
  unfold execOp
  unfold opA at h0
  cases hop : o.op <;> simp only [hop] at h0 ⊢ <;> first | (cases h0; done) | skip
  case move x => obtain ⟨h1, h2⟩ := ret_eq h0; exact upon_p h (hf.opd x _ h1) h2 hn
  case assign x => obtain ⟨h1, h2⟩ := ret_eq h0; exact upon_p h (hf.opd x _ h1) h2 hn
  case pick c x y =>
    have := pick_sound (P := P) (w := w) hf h0
    obtain ⟨rfl, v', g1, g2⟩ := this
    have g1' : (do pure (Next.value (if ← asBool (a.eval c) then a.eval x else a.eval y)) : Sem Next).run P w = .ok (.value v') w := by
      simp only [Sem.run_bind] at g1 ⊢
      cases hb : (asBool (a.eval c)).run P w with
      | ok b w2 => rw [hb] at g1; simp at g1 ⊢; exact g1
      | _ => rw [hb] at g1; simp at g1
    rw [g1', Oper.uponIn_value]
    exact hn ρ w v' h (Ext.refl _ _ _) g2
  case alloc e => exact upon_v (alloc_sound ht h h0) hn
  case box e x => exact upon_v (box_sound hf h h0) hn
  case build t parts => exact upon_g h (build_sound ht hf h0) hn
  case buildSlice t len parts => exact upon_v (buildSlice_sound h ht hf h0) hn
  case load t x =>
    obtain ⟨r, hr, h1⟩ := ob_eq (o := row tb t) h0
    obtain ⟨u, hu, h2⟩ := ob_eq (o := opd fr x) h1
    obtain ⟨h3, h4⟩ := ret_eq h2
    exact upon_g h ⟨h4, load_sound h (row_ok ht hr) h3 (hf.opd x u hu)⟩ hn
  case store t x y =>
    obtain ⟨r, hr, h1⟩ := ob_eq (o := row tb t) h0
    obtain ⟨u, hu, h2⟩ := ob_eq (o := opd fr x) h1
    obtain ⟨u2, hu2, h3⟩ := ob_eq (o := opd fr y) h2
    obtain ⟨st1, h4, h5⟩ := ob_eq h3
    cases h5
    exact upon_u ⟨rfl, store_sound h (row_ok ht hr) h4 (hf.opd x u hu) (hf.opd y u2 hu2)⟩ hn
  case nilCheck x =>
    obtain ⟨u, hu, h2⟩ := ob_eq (o := opd fr x) h0
    obtain ⟨h3, h4, h5⟩ := nilCheck_sound hf hu h2
    rcases h5 with ⟨q, hq⟩ | ⟨fn, b, c, hq, hm⟩
    · rw [hq] at h4 ⊢
      exact upon_p h h4 h3 hn
    · rw [hq] at h4 ⊢
      cases fn <;> first | (exact absurd rfl (hm _)) | exact upon_p h h4 h3 hn
  case binOp op t x y _ => exact upon_g h (bin_sound ht hf h0) hn
  case unOp op t x => exact upon_g h (un_sound hf h0) hn
  case convert s d x => exact upon_v (convert_sound ht h hf h0) hn
  case makeInterface t x => exact upon_g h (iface_sound ht hf h0) hn
  case makeFunc fn fi ca => exact upon_g h (makeFunc_sound hf h0) hn
  case makeMap t r => exact upon_v (makeMap_sound h hf ht h0) hn
  case makeSlice t l c => exact upon_v (makeSlice_sound h ht hf h0) hn
  case slice t x lo hi mx => exact upon_g h (slice_sound ht h hf h0) hn
  case fieldAddr t x f => exact upon_g h (fieldAddr_sound ht hf h0) hn
  case field t x f => exact upon_g h (field_sound ht hf h0) hn
  case indexAddr t x ix => exact upon_g h (indexAddr_sound ht hf h0) hn
  case index t x ix => exact upon_g h (index_sound ht hf h0) hn
  case lookup t x ix ok => exact upon_g h (lookup_sound ht h hf h0) hn
  case mapUpdate t m k x => exact upon_u (mapUpdate_sound ht h hf h0) hn
  case insert t m k x => exact upon_u (mapUpdate_sound ht h hf h0) hn
  case mapEntry t m k => exact upon_v (mapEntry_sound ht h hf h0) hn
  case entryStore t m s x => exact upon_u (entryStore_sound h hf h0) hn
  case range t x =>
    obtain ⟨r, hr, h1⟩ := ob_eq (o := row tb t) h0
    obtain ⟨u, hu, h2⟩ := ob_eq (o := opd fr x) h1
    exact upon_v (range_sound ht h hr (hf.opd x u hu) h2) hn
  case next it isS => exact upon_v (next_sound h hf h0) hn
  case entry it => exact upon_g h (entry_sound h hf h0) hn
  case extract t i => exact upon_g h (extract_sound hf h0) hn
  case call c => exact call_sound ht hc hg h hf h0 hn
end

end Go.Ab

namespace Go.Ab
open Go
variable {P : Program} {ρ : Ren} {st st' : St} {w : World} {tb : Tab} {call : CallF}

/-! Code. -/
theorem putT_rel {fr : T V} {a : Act} {d : Option Tmp} {v : V} {v' : Value} (h : RelT ρ fr a.tmps) (hv : RelV ρ v v') (hd : dstLt a.tmps.size d = true) : RelT ρ (putT fr d v) (a.put d v').tmps := by
  cases d with
  | none => exact h
  | some t =>
    intro t2 u hu
    have hu' : (fr.put t v).get t2 = some u := hu
    rw [T.get_put] at hu'
    show ∃ v'', (a.tmps.setIfInBounds t v')[t2]? = some v'' ∧ _
    by_cases e : t2 = t
    · rw [if_pos e] at hu'
      cases hu'
      subst e
      have hlt : t2 < a.tmps.size := blt_true hd
      exact ⟨v', by simp [hlt], hv⟩
    · rw [if_neg e] at hu'
      obtain ⟨u', h1, h2⟩ := h t2 u hu'
      exact ⟨u', by rw [Array.getElem?_setIfInBounds_ne (fun hh => e hh.symm)]; exact h1, h2⟩
theorem put_size (a : Act) (d : Option Tmp) (v : Value) : (a.put d v).tmps.size = a.tmps.size := by cases d <;> simp [Act.put]
theorem put_defers (a : Act) (d : Option Tmp) (v : Value) : (a.put d v).defers = a.defers := by cases d <;> rfl

theorem wanted_sound {ops : Array Oper} {o : Oper} {fr : T V} {tmps : Array Value} (h : RelT ρ fr tmps) {b : Bool} (h0 : wantedA ops.toList o fr = some b) : Region.wanted o (yielded ops tmps) = b := by
  unfold wantedA at h0
  unfold Region.wanted
  cases hg : o.guard with
  | none => rw [hg] at h0; cases h0; rfl
  | some g =>
    rw [hg] at h0
    obtain ⟨j, want⟩ := g
    obtain ⟨q, hq, h1⟩ := ob_eq (o := lget ops.toList j) h0
    obtain ⟨d, hd, h2⟩ := ob_eq h1
    obtain ⟨v, hv, h3⟩ := ob_eq h2
    rw [lget_eq] at hq
    have hq' : ops[j]? = some q := by simpa using hq
    obtain ⟨v', hv', hr⟩ := h d v hv
    have hb : yieldB v want = b := by simpa using h3
    have hy : yielded ops tmps j = match v' with | .bool b => some b | _ => none := by
      unfold yielded
      rw [hq']
      simp only [Option.bind_some, hd, hv']
      cases v' <;> rfl
    simp only [hy]
    rw [← hb]
    cases hr <;> try rfl
    rename_i x
    show (some x == some want) = beqb x want
    rw [beqb_eq]
    cases x <;> cases want <;> rfl

section
variable {ro : Option Nat} {n : Nat} {Q : Exit → Act → World → Prop}

theorem step_sound (ht : TabOK P tb) (hc : CallOK P call) (hg : Glob ρ) (h : Rel ρ st w) {ops : Array Oper} {o : Oper} {a : Act} {fr : T V} (hfr : RelT ρ fr a.tmps) (hd : dstLt a.tmps.size o.dst = true) {v : V}
    (h0 : stepA tb call ops.toList o fr st = some (v, st')) {K : Act → World → Prop}
    (hK : ∀ ρ' w' a', Rel ρ' st' w' → Ext ρ st w ρ' st' w' → RelT ρ' (putT fr o.dst v) a'.tmps → a'.tmps.size = a.tmps.size → a'.defers = a.defers → K a' w') :
    if Region.wanted o (yielded ops a.tmps) then o.wpIn (Fr ro) n P a w K Q else (∀ f, o.about P w a.eval = some f → (Fr ro).fn f) ∧ K (a.put o.dst undef) w := by
  obtain ⟨b, hb, h1⟩ := ob_eq (o := wantedA ops.toList o fr) h0
  rw [wanted_sound hfr hb]
  cases b with
  | false =>
    cases h1
    refine ⟨fun _ _ => trivial, hK ρ w _ h (Ext.refl _ _ _) (putT_rel hfr (.tuple _ _ .nil) hd) (put_size _ _ _) (put_defers _ _ _)⟩
  | true =>
    exact op_sound ht hc hg h hfr h1 fun ρ' w' v' q1 q2 q3 => hK ρ' w' _ q1 q2 (putT_rel (hfr.mono q2.ren) q3 hd) (put_size _ _ _) (put_defers _ _ _)

theorem opsLt_cons {m : Nat} {o : Oper} {l : List Oper} (h : opsLt m (o :: l) = true) : dstLt m o.dst = true ∧ opsLt m l = true := by
  have h' : bcase (dstLt m o.dst) (opsLt m l) false = true := h
  rw [bcase_eq] at h'
  split at h'
  · rename_i h1; exact ⟨h1, h'⟩
  · cases h'

theorem ops_sound (ht : TabOK P tb) (hc : CallOK P call) {ops : Array Oper} : ∀ (l : List Oper) (i : Nat), ops.toList.drop i = l → ∀ {ρ : Ren} {st : St} {w : World} {fr : T V} {a : Act} {fr' : T V} {st' : St}, Glob ρ → Rel ρ st w →
    RelT ρ fr a.tmps → opsLt a.tmps.size l = true → opsA tb call ops.toList l fr st = some (fr', st') →
    (∀ ρ' w' a', Rel ρ' st' w' → Ext ρ st w ρ' st' w' → RelT ρ' fr' a'.tmps → a'.tmps.size = a.tmps.size → a'.defers = a.defers → Q .normal a' w') →
    wpOpsIn (Fr ro) n P ops Q (List.range' i l.length) a w := by
  intro l
  induction l with
  | nil =>
    intro i _ ρ st w fr a fr' st' hg h hfr _ h0 hQ
    cases h0
    exact hQ ρ w a h (Ext.refl _ _ _) hfr rfl rfl
  | cons o l ih =>
    intro i hi ρ st w fr a fr' st' hg h hfr hlt h0 hQ
    obtain ⟨v, st1, h1, h2⟩ := ob2_eq (o := stepA tb call ops.toList o fr st) h0
    rw [T.force_eq] at h2
    obtain ⟨hd, hl⟩ := opsLt_cons hlt
    have hoi : ops[i]? = some o := by
      have : (ops.toList.drop i)[0]? = some o := by rw [hi]; rfl
      simpa using this
    have hi' : ops.toList.drop (i + 1) = l := by
      have : ops.toList.drop (i + 1) = (ops.toList.drop i).drop 1 := by rw [List.drop_drop]
      rw [this, hi]; rfl
    rw [List.length_cons, List.range'_succ]
    simp only [wpOpsIn, hoi]
    exact step_sound ht hc hg h hfr hd h1 fun ρ' w' a' q1 q2 q3 q4 q5 =>
      ih (i + 1) hi' (hg.mono q2.ren) q1 q3 (by rw [q4]; exact hl) h2 fun ρ2 w2 a2 r1 r2 r3 r4 r5 => hQ ρ2 w2 a2 r1 (q2.trans r2) r3 (r4.trans q4) (r5.trans q5)

end
end Go.Ab

namespace Go.Ab
open Go
variable {P : Program} {ρ : Ren} {st st' : St} {w : World} {tb : Tab} {call : CallF}

/-! Activations. -/
/-- the marks of loops over functions among the deferred calls. -/
inductive MarksOK (base : Nat) (ρ : Ren) (st : St) (w : World) : List Deferred → Prop where
  | nil : MarksOK base ρ st w []
  | cons (D : Nat) (ds : List Deferred) (hb : base ≤ D) (ho : w.heap[D]? = some (.deferred (some []))) (hn : ¬ Own ρ st D) (hne : ∀ d ∈ ds, d.target ≠ .collected D)
      (hs : MarksOK base ρ st w ds) : MarksOK base ρ st w ({ target := .collected D, args := #[] } :: ds)

theorem lt_of_some {α : Type} {a : Array α} {i : Nat} {x : α} (h : a[i]? = some x) : i < a.size := by
  rcases Nat.lt_or_ge i a.size with h' | h'
  · exact h'
  · simp [Array.getElem?_eq_none h'] at h

theorem MarksOK.ext {base : Nat} {ds : List Deferred} {ρ' : Ren} {w' : World} (h : MarksOK base ρ st w ds) (he : Ext ρ st w ρ' st' w') : MarksOK base ρ' st' w' ds := by
  induction h with
  | nil => exact .nil
  | cons D ds hb ho hn hne _ ih =>
    obtain ⟨h1, h2⟩ := he.keep D (lt_of_some ho) hn
    exact .cons D ds hb (by rw [h1]; exact ho) h2 hne ih

def exOf : Ex → Exit
  | .normal => .normal
  | .exit id => .exit id
  | .goto l => .goto l
  | .ret => .ret

/-- what is asked behind a code. -/
def CodePost (base : Nat) (ρ : Ren) (st : St) (w : World) (e : Ex) (fr' : T V) (st' : St) (sz : Nat) (e' : Exit) (a' : Act) (w' : World) : Prop :=
  e' = exOf e ∧ ∃ ρ', Rel ρ' st' w' ∧ Ext ρ st w ρ' st' w' ∧ RelT ρ' fr' a'.tmps ∧ a'.tmps.size = sz ∧ MarksOK base ρ' st' w' a'.defers

theorem CodePost.trans {base : Nat} {ρ1 : Ren} {st1 : St} {w1 : World} {e : Ex} {fr' : T V} {sz sz1 : Nat} {e' : Exit} {a' : Act} {w' : World} (he : Ext ρ st w ρ1 st1 w1) (hs : sz1 = sz)
    (h : CodePost base ρ1 st1 w1 e fr' st' sz1 e' a' w') : CodePost base ρ st w e fr' st' sz e' a' w' := by
  obtain ⟨h1, ρ', h2, h3, h4, h5, h6⟩ := h
  exact ⟨h1, ρ', h2, he.trans h3, h4, h5.trans hs, h6⟩

def DrawOK (P : Program) (tb : Tab) (call : CallF) : Prop :=
  ∀ (ops : Array Oper) fr st fr' st', drawA tb call ops.toList fr st = some (fr', st') → ∀ (ρ : Ren) (w : World) (a : Act) (ro : Option Nat) (n id : Nat) (Q : Exit → Act → World → Prop), Glob ρ → Rel ρ st w → RelT ρ fr a.tmps →
    opsLt a.tmps.size ops.toList = true →
    (∀ ρ' w' a', Rel ρ' st' w' → Ext ρ st w ρ' st' w' → RelT ρ' fr' a'.tmps → a'.tmps.size = a.tmps.size → a'.defers = a.defers → Q .normal a' w') →
    (Code.region id ops true).wpIn (Fr ro) n P Q a w

/-- a world with one object more, that nobody knows. -/
theorem Rel.push (h : Rel ρ st w) (o : Obj) : Rel ρ st { w with heap := w.heap.push o } ∧ Ext ρ st w ρ st { w with heap := w.heap.push o } := by
  refine ⟨⟨fun b k hb => ?_, h.fresh, h.inj⟩, ⟨Ren.le_refl _, rfl, rfl, rfl, by simp, fun i hi hn => ⟨?_, hn⟩, fun _ _ _ h => h⟩⟩
  · obtain ⟨p, o', hp, ho, hr⟩ := h.blk b k hb
    refine ⟨p, o', hp, ?_, hr⟩
    rw [Array.getElem?_push, if_neg (by have := lt_of_some ho; omega)]
    exact ho
  · rw [Array.getElem?_push, if_neg (by omega)]

theorem not_own_new (h : Rel ρ st w) {i : Nat} (hi : w.heap.size ≤ i) : ¬ Own ρ st i := by
  rintro ⟨b, k, p, h1, h2, h3, h4⟩
  obtain ⟨p1, o, hp1, ho, _⟩ := h.blk b k h1
  rw [h3] at hp1; cases hp1
  have := lt_of_some ho
  omega

section
variable {ro : Option Nat} {n : Nat}

def CodeOK (P : Program) (tb : Tab) (call : CallF) (fnO : Option FuncId) (f : Nat) : Prop :=
  ∀ c fr st e fr' st', codeA tb call fnO f c fr st = some (e, fr', st') → ∀ (ρ : Ren) (w : World) (a : Act) (base : Nat) (ro : Option Nat) (n : Nat), Glob ρ → Rel ρ st w → RelT ρ fr a.tmps →
    fitsC a.tmps.size c = true → MarksOK base ρ st w a.defers → (fnO.isSome = true → ro = none) → base ≤ w.heap.size →
    c.wpIn (Fr ro) n P (CodePost base ρ st w e fr' st' a.tmps.size) a w

theorem fits_seq {m : Nat} {a b : Code} (h : fitsC m (.seq a b) = true) : fitsC m a = true ∧ fitsC m b = true := by
  have h' : bcase (fitsC m a) (fitsC m b) false = true := h
  rw [bcase_eq] at h'
  split at h'
  · rename_i h1; exact ⟨h1, h'⟩
  · cases h'
theorem fits_cond {m : Nat} {x : Operand} {a b : Code} (h : fitsC m (.cond x a b) = true) : fitsC m a = true ∧ fitsC m b = true := fits_seq (a := a) (b := b) h

theorem codeA_succ (fnO : Option FuncId) (f : Nat) (c : Code) (fr : T V) (st : St) : codeA tb call fnO (f + 1) c fr st = codeStep tb call fnO (codeA tb call fnO f) c fr st := rfl

theorem ob3_eq {β : Type} {o : CRes} {f : Ex → T V → St → Option β} {y : β} (h : ob3 o f = some y) : ∃ e fr st, o = some (e, fr, st) ∧ f e fr st = some y := by
  obtain ⟨⟨e, fr, st⟩, h1, h2⟩ := ob_eq h
  exact ⟨e, fr, st, h1, h2⟩

theorem seq_sound {fnO : Option FuncId} {f : Nat} (ih : CodeOK P tb call fnO f) {x y : Code} {fr : T V} {e : Ex} {fr' : T V} (h0 : cSeq (codeA tb call fnO f) fr st x y = some (e, fr', st'))
    {a : Act} {base : Nat} (hg : Glob ρ) (h : Rel ρ st w) (hfr : RelT ρ fr a.tmps) (hfit : fitsC a.tmps.size (.seq x y) = true) (hm : MarksOK base ρ st w a.defers) (hro : fnO.isSome = true → ro = none) (hb : base ≤ w.heap.size) :
    (Code.seq x y).wpIn (Fr ro) n P (CodePost base ρ st w e fr' st' a.tmps.size) a w := by
  obtain ⟨e1, fr1, st1, h1, h2⟩ := ob3_eq h0
  obtain ⟨f1, f2⟩ := fits_seq hfit
  refine wpIn_seq (wpIn_mono (ih x fr st e1 fr1 st1 h1 ρ w a base ro n hg h hfr f1 hm hro hb) ?_)
  rintro e' a' w' ⟨rfl, ρ1, q1, q2, q3, q4, q5⟩
  cases e1 with
  | normal =>
    show y.wpIn _ _ _ _ _ _
    refine wpIn_mono (ih y fr1 st1 e fr' st' h2 ρ1 w' a' base ro n (hg.mono q2.ren) q1 q3 (by rw [q4]; exact f2) q5 hro (Nat.le_trans hb q2.size)) ?_
    intro e2 a2 w2 hp
    exact hp.trans q2 q4
  | exit id => cases h2; exact ⟨rfl, ρ1, q1, q2, q3, q4, q5⟩
  | goto l => cases h2; exact ⟨rfl, ρ1, q1, q2, q3, q4, q5⟩
  | ret => cases h2; exact ⟨rfl, ρ1, q1, q2, q3, q4, q5⟩

theorem least (J : Nat → Prop) (h : ∃ f, J f) : ∃ f, J f ∧ ∀ g, J g → f ≤ g := by
  obtain ⟨f, hf⟩ := h
  induction f using Nat.strongRecOn with
  | _ f ih =>
    by_cases hx : ∃ g, J g ∧ g < f
    · obtain ⟨g, h1, h2⟩ := hx
      exact ih g h2 h1
    · refine ⟨f, hf, fun g hg => ?_⟩
      rcases Nat.lt_or_ge g f with h' | h'
      · exact absurd ⟨g, hg, h'⟩ hx
      · exact h'

theorem loop_sound {fnO : Option FuncId} {F : Nat} (ih : ∀ f, f ≤ F → CodeOK P tb call fnO f) {c : Code} {fr : T V} {e : Ex} {fr' : T V} {f : Nat} (hfF : f ≤ F + 1) (h0 : codeA tb call fnO f (.loop c) fr st = some (e, fr', st'))
    {a : Act} {base : Nat} (hg : Glob ρ) (h : Rel ρ st w) (hfr : RelT ρ fr a.tmps) (hfit : fitsC a.tmps.size (.loop c) = true) (hm : MarksOK base ρ st w a.defers) (hro : fnO.isSome = true → ro = none) (hb : base ≤ w.heap.size) :
    (Code.loop c).wpIn (Fr ro) n P (CodePost base ρ st w e fr' st' a.tmps.size) a w := by
  classical
  let J : Nat → Act → World → Prop := fun f a1 w1 => f ≤ F + 1 ∧ ∃ fr1 st1 ρ1, codeA tb call fnO f (.loop c) fr1 st1 = some (e, fr', st') ∧ Rel ρ1 st1 w1 ∧ RelT ρ1 fr1 a1.tmps ∧ a1.tmps.size = a.tmps.size ∧
    MarksOK base ρ1 st1 w1 a1.defers ∧ Ext ρ st w ρ1 st1 w1
  let μ : Act → World → Nat := fun a1 w1 => if hJ : ∃ f, J f a1 w1 then Classical.choose (least (fun f => J f a1 w1) hJ) else 0
  refine wpIn_loop (fun a1 w1 => ∃ f, J f a1 w1) μ ⟨f, hfF, fr, st, ρ, h0, h, hfr, rfl, hm, Ext.refl _ _ _⟩ ?_
  intro a1 w1 hJ
  have hμ : μ a1 w1 = Classical.choose (least (fun f => J f a1 w1) hJ) := dif_pos hJ
  have hspec := (Classical.choose_spec (least (fun f => J f a1 w1) hJ)).1
  rw [hμ]
  generalize Classical.choose (least (fun f => J f a1 w1) hJ) = f1 at hspec ⊢
  obtain ⟨hle, fr1, st1, ρ1, k0, k1, k2, k3, k4, k5⟩ := hspec
  cases f1 with
  | zero => cases k0
  | succ f1 =>
    rw [codeA_succ] at k0
    obtain ⟨e2, fr2, st2, m1, m2⟩ := ob3_eq (o := codeA tb call fnO f1 c fr1 st1) k0
    refine wpIn_mono (ih f1 (by omega) c fr1 st1 e2 fr2 st2 m1 ρ1 w1 a1 base ro n (hg.mono k5.ren) k1 k2 (by rw [k3]; exact hfit) k4 hro (Nat.le_trans hb k5.size)) ?_
    rintro e' a' w' ⟨rfl, ρ2, q1, q2, q3, q4, q5⟩
    cases e2 with
    | normal =>
      have hj : J f1 a' w' := ⟨by omega, fr2, st2, ρ2, m2, q1, q3, q4.trans k3, q5, k5.trans q2⟩
      refine ⟨⟨f1, hj⟩, ?_⟩
      have hex : ∃ f, J f a' w' := ⟨f1, hj⟩
      have h9 : μ a' w' = Classical.choose (least (fun f => J f a' w') hex) := dif_pos hex
      have h10 := (Classical.choose_spec (least (fun f => J f a' w') hex)).2 f1 hj
      rw [h9]
      omega
    | exit id => cases m2; exact ⟨rfl, ρ2, q1, k5.trans q2, q3, q4.trans k3, q5⟩
    | goto l => cases m2; exact ⟨rfl, ρ2, q1, k5.trans q2, q3, q4.trans k3, q5⟩
    | ret => cases m2; exact ⟨rfl, ρ2, q1, k5.trans q2, q3, q4.trans k3, q5⟩

end
end Go.Ab

namespace Go.Ab
open Go
variable {P : Program} {ρ : Ren} {st st' : St} {w : World} {tb : Tab} {call : CallF}

/-! A range over a function. -/
theorem Rel.loopAt (h : Rel ρ st w) {b : Nat} {fn : FuncId} {tmps : T V} {ps : List Tmp} {asg body : Code} {pend : Option Code} {p : Pl} (hb : st.heap.get b = some (.loop fn tmps ps asg body pend)) (hp : ρ b = some p) :
    ∃ l, w.heap[p.blk]? = some (.loop l) ∧ p.base = 0 ∧ RelT ρ tmps l.tmps ∧ l.params = ps.toArray ∧ l.assign = asg ∧ l.body = body ∧ pendState pend l ∧ fitsC l.tmps.size (.seq asg body) = true ∧ allLt l.tmps.size ps = true := by
  obtain ⟨p1, o1, hp1, ho1, hr⟩ := h.blk b _ hb
  rw [hp] at hp1; cases hp1
  cases hr with
  | loop _ _ _ _ _ _ _ l h1 h2 h3 h4 h5 h6 h7 h8 => exact ⟨l, ho1, h1, h2, h3, h4, h5, h6, h7, h8⟩

theorem run_getLoop {g : Nat} {l : Loop} (h : w.heap[g]? = some (.loop l)) : (Instr.getLoop g).run P w = .ok l w := by
  simp [Instr.getLoop, run_getObj h (fun _ _ _ e => by cases e)]

/-- nobody else knows a block that isn't known any more. -/
theorem Rel.gone (h : Rel ρ st w) {b : Nat} {k : Blk} {p : Pl} (hb : st.heap.get b = some k) (hp : ρ b = some p) :
    ∀ b' k' p', (⟨st.heap.del b, st.next⟩ : St).heap.get b' = some k' → ρ b' = some p' → p'.blk ≠ p.blk := by
  intro b' k' p' hb' hp' hh
  rw [T.get_del] at hb'
  by_cases e : b' = b
  · rw [if_pos e] at hb'; cases hb'
  · rw [if_neg e] at hb'
    exact e (h.inj b' b k' k p' p hb' hb hp' hp hh)

theorem endLoop_sound (h : Rel ρ st w) {b : Nat} {fn : FuncId} {tmps : T V} {ps : List Tmp} {asg body : Code} {pend : Option Code} {p : Pl} (hb : st.heap.get b = some (.loop fn tmps ps asg body pend)) (hp : ρ b = some p) :
    ∃ w', (Instr.endLoop p.blk).run P w = .ok pend w' ∧ Rel ρ ⟨st.heap.del b, st.next⟩ w' ∧ Ext ρ st w ρ ⟨st.heap.del b, st.next⟩ w' := by
  obtain ⟨l, ho, h1, h2, h3, h4, h5, h6, h7, h8⟩ := h.loopAt hb hp
  obtain ⟨hd, hde⟩ := h.del b
  have hfree := h.gone hb hp
  have hset := run_setObj (P := P) (o' := .loop { l with state := .exhausted }) ho (fun _ _ _ e => by cases e)
  refine ⟨World.putObj w p.blk (.loop { l with state := .exhausted }), ?_, hd.world hfree, ?_⟩
  · have hst : (l.state == LoopState.busy) = false := by
      rw [h6.2.1]
      cases pend <;> rfl
    simp only [Instr.endLoop, Sem.run_bind, run_getLoop ho, Result.andThen_ok, hst, Bool.false_eq_true, if_false, hset, Sem.run_pure]
    rw [h6.1]
  · refine ⟨Ren.le_refl _, rfl, rfl, rfl, by simp [World.putObj], fun i hi hn => ?_, hde.ro⟩
    have hne : p.blk ≠ i := fun hh => hn ⟨b, _, p, hb, trivial, hp, hh⟩
    exact ⟨by simp [World.putObj, Array.getElem?_setIfInBounds_ne hne], (hde.keep i hi hn).2⟩

theorem callFunc_enter (ht : TabOK P tb) {f : FuncId} {fd : Func} {body : Code} (h : tb.funcs.get f = some fd) (hb : fd.body = some body) (args : Array Value) (w : World) :
    (callFunc f args).run P w = .ok (.enter f args) w := by
  have h1 := ht.func f fd h
  have h2 := ht.name f fd h
  have h3 : fd.body.isNone = false := by rw [hb]; rfl
  have h4 : fd.body ≠ none := by rw [hb]; simp
  have h5 : ¬ fd.name = "runtime.NumGoroutine" := by intro e; rw [e] at h2; simp at h2
  simp [callFunc, h1, h4, h5]

section
variable {ro : Option Nat} {n : Nat}

theorem rangeFn_sound (ht : TabOK P tb) (hc : CallOK P call) {fn0 : FuncId} {f : Nat} (ih : CodeOK P tb call (some fn0) f) {g : Operand} {ps : Array Tmp} {asg body : Code} {fr : T V} {e : Ex} {fr' : T V} {gv : V} {a : Act} (hgv : opd fr g = some gv)
    (h0 : cRangeFn tb call (some fn0) (codeA tb call (some fn0) f) fr st ps.toList asg body gv = some (e, fr', st'))
    {base : Nat} (hg : Glob ρ) (h : Rel ρ st w) (hfr : RelT ρ fr a.tmps) (hfit : fitsC a.tmps.size (.rangeFunc g ps asg body) = true) (hm : MarksOK base ρ st w a.defers) (hb : base ≤ w.heap.size) :
    (Code.rangeFunc g ps asg body).wpIn (Fr none) n P (CodePost base ρ st w e fr' st' a.tmps.size) a w := by
  have hf : Fits ρ fr a.eval := fits_of hfr hg
  have hx := hf.opd g gv hgv
  unfold cRangeFn at h0
  cases gv <;> first | (cases h0; done) | skip
  rename_i gf first cap
  cases gf <;> first | (cases h0; done) | skip
  rename_i gid
  obtain ⟨fd, hfd, h1⟩ := ob_eq (o := tb.funcs.get gid) h0
  obtain ⟨bd, hbd, h2⟩ := ob_eq (o := fd.body) h1
  obtain ⟨l, st1, h4, h5⟩ := ob2_eq (o := newBlk st (.loop fn0 fr ps.toList asg body none)) h2
  obtain ⟨rv, st2, h6, h7⟩ := ob2_eq h5
  obtain ⟨rfl, rfl⟩ := newBlk_eq h4
  have hfits : allLt a.tmps.size ps.toList = true ∧ fitsC a.tmps.size (.seq asg body) = true := by
    have h' : bcase (allLt a.tmps.size ps.toList) (bcase (fitsC a.tmps.size asg) (fitsC a.tmps.size body) false) false = true := hfit
    rw [bcase_eq] at h'
    split at h'
    · rename_i h1; exact ⟨h1, h'⟩
    · cases h'
  generalize hev : a.eval g = gv' at hx
  cases hx with
  | func _ fn' _ _ first' cap' hfn hfi hca =>
  cases hfn
  -- the block of the deferred calls, then the loop's own
  obtain ⟨r1, x1⟩ := h.push (.deferred (some []))
  refine wpIn_rangeFunc fun fn _ => ?_
  let lp : Loop := { state := .ready, pending := none, fn := fn, tmps := a.tmps, params := ps, assign := asg, body := body, defers := w.heap.size }
  have hloop : RelBlk (ρ.set st.next ⟨w.heap.size + 1, 0, 0⟩) (.loop fn0 fr ps.toList asg body none) ⟨w.heap.size + 1, 0, 0⟩ (.loop lp) :=
    .loop _ _ _ _ _ _ _ lp rfl (hfr.mono (h.le_set _)) (by simp [lp]) rfl rfl ⟨rfl, rfl, fun c e => by cases e⟩ hfits.2 hfits.1
  have hsz1 : (w.heap.push (Obj.deferred (some []))).size = w.heap.size + 1 := by simp
  obtain ⟨r2, x2⟩ := r1.new (k := .loop fn0 fr ps.toList asg body none) (o := .loop lp) 0 (by simp only [hsz1]; exact hloop)
  simp only [hsz1] at r2 x2
  have hle := h.le_set ⟨w.heap.size + 1, 0, 0⟩
  have hcalleeArgs : RelL (ρ.set st.next ⟨w.heap.size + 1, 0, 0⟩) (app first (V.func (.yield st.next) [] [] :: cap)) ((first' ++ #[Value.func (.yield (w.heap.size + 1)) #[] #[]] ++ cap')).toList := by
    rw [app_eq]
    have : (first' ++ #[Value.func (.yield (w.heap.size + 1)) #[] #[]] ++ cap').toList = first'.toList ++ (Value.func (.yield (w.heap.size + 1)) #[] #[] :: cap'.toList) := by simp
    rw [this]
    exact (hfi.mono hle).append (.cons _ _ _ _ (.func _ _ _ _ _ _ (.yield st.next ⟨w.heap.size + 1, 0, 0⟩ (Ren.set_self _ _ _)) .nil .nil) (hca.mono hle))
  have henter := callFunc_enter (P := P) ht hfd hbd (first' ++ #[Value.func (.yield (w.heap.size + 1)) #[] #[]] ++ cap') { w with heap := (w.heap.push (Obj.deferred (some []))).push (.loop lp) }
  have hcall : Calls P gid (first' ++ #[Value.func (.yield (w.heap.size + 1)) #[] #[]] ++ cap') { w with heap := (w.heap.push (Obj.deferred (some []))).push (.loop lp) }
      (Post (ρ.set st.next ⟨w.heap.size + 1, 0, 0⟩) ⟨st.heap.put st.next (.loop fn0 fr ps.toList asg body none), st.next + 1⟩ { w with heap := (w.heap.push (Obj.deferred (some []))).push (.loop lp) } rv st2) := by
    rcases hc.func gid _ rv _ st2 h6 _ _ _ (hg.mono hle) r2 hcalleeArgs with ⟨_, k2⟩ | ⟨v', ρ', w', k1, _⟩
    · exact k2
    · rw [henter] at k1; cases k1
  refine ⟨w.heap.size + 1, [{ target := .collected w.heap.size, args := #[] }], { w with heap := (w.heap.push (Obj.deferred (some []))).push (.loop lp) },
    { target := .fn (.func gid) cap', args := first' ++ #[Value.func (.yield (w.heap.size + 1)) #[] #[]] }, { w with heap := (w.heap.push (Obj.deferred (some []))).push (.loop lp) }, gid, _, _, ?_, ?_, fun _ _ => trivial, henter, fun hd => by simp [Fence.wide] at hd, ?_⟩
  · simp [Instr.enterLoop, lp]
    rfl
  · have hargs : (#[Operand.const (Value.func (.yield (w.heap.size + 1)) #[] #[])]).map a.eval = #[Value.func (.yield (w.heap.size + 1)) #[] #[]] := by simp [Act.eval]
    simp only [resolve, hargs, hev, Deferred.ofValue, Sem.run_pure]
  · refine CallsIn.mono (callsIn_wide.2 hcall : CallsIn Fence.wide (n - 1) P gid _ _ _) ?_
    intro e3 w3 hpost
    obtain ⟨v', ρ3, rfl, k1, k2, k3⟩ := hpost
    obtain ⟨kb, hkb, h8⟩ := ob_eq (o := st2.heap.get st.next) h7
    obtain ⟨pend, hpend, h9⟩ := ob_eq (o := blkPend kb) h8
    rw [T.force_eq] at h9
    unfold blkPend at hpend
    cases kb <;> first | (cases hpend; done) | skip
    rename_i fn2 tm2 ps2 as2 bd2 pe2
    cases hpend
    have hp3 : ρ3 st.next = some ⟨w.heap.size + 1, 0, 0⟩ := k2.ren _ _ (Ren.set_self _ _ _)
    obtain ⟨w4, m1, m2, m3⟩ := endLoop_sound (P := P) k1 hkb hp3
    have hE : Ext ρ st w ρ3 ⟨st2.heap.del st.next, st2.next⟩ w4 := ((x1.trans x2).trans k2).trans m3
    have hMnew : MarksOK base ρ st { w with heap := w.heap.push (.deferred (some [])) } ({ target := .collected w.heap.size, args := #[] } :: a.defers) :=
      .cons w.heap.size a.defers hb (by simp) (not_own_new h (Nat.le_refl _)) (by
        intro d hd hdt
        have : ∀ ds, MarksOK base ρ st w ds → ∀ d ∈ ds, d.target ≠ .collected w.heap.size := by
          intro ds hds
          induction hds with
          | nil => intro d hd; cases hd
          | cons D ds _ ho _ _ _ ih2 =>
            intro d hd
            rcases List.mem_cons.1 hd with e | e
            · subst e
              intro hh
              have hlt := lt_of_some ho
              simp at hh
              omega
            · exact ih2 d e
        exact this _ hm d hd hdt) (hm.ext x1)
    have hM4 := ((hMnew.ext x2).ext k2).ext m3
    refine ⟨pend, w4, m1, ?_⟩
    obtain ⟨_, _, _, _, _, _, _, ⟨_, _, hpf⟩, _, _⟩ := k1.loopAt hkb hp3
    cases pend with
    | none =>
      cases h9
      exact ⟨rfl, ρ3, m2, hE, hfr.mono hE.ren, rfl, hM4⟩
    | some c =>
      have h9' : codeA tb call (some fn0) f c fr ⟨st2.heap.del st.next, st2.next⟩ = some (e, fr', st') := h9
      have := ih c fr _ e fr' st' h9' ρ3 w4 { a with defers := { target := .collected w.heap.size, args := #[] } :: a.defers } base none n (hg.mono hE.ren) m2 (hfr.mono hE.ren) (hpf c rfl _) hM4 (fun _ => rfl) (Nat.le_trans hb hE.size)
      refine wpIn_mono this ?_
      intro e2 a2 w2 hp
      exact hp.trans hE rfl
end
end Go.Ab

namespace Go.Ab
open Go
variable {P : Program} {ρ : Ren} {st st' : St} {w : World} {tb : Tab} {call : CallF}

/-! Code, all of it. -/
theorem code_ok (ht : TabOK P tb) (hc : CallOK P call) (hd : DrawOK P tb call) (fnO : Option FuncId) : ∀ F f, f ≤ F → CodeOK P tb call fnO f := by
  intro F
  induction F with
  | zero =>
    intro f hf c fr st e fr' st' h0
    have : f = 0 := by omega
    subst this
    cases h0
  | succ F ih =>
    intro f hf c fr st e fr' st' h0 ρ w a base ro n hg h hfr hfit hm hro hb
    cases f with
    | zero => cases h0
    | succ f =>
      have hfF : f ≤ F := by omega
      cases c with
      | skip => cases h0; exact wpIn_skip ⟨rfl, ρ, h, Ext.refl _ _ _, hfr, rfl, hm⟩
      | label l => cases h0; exact wpIn_label ⟨rfl, ρ, h, Ext.refl _ _ _, hfr, rfl, hm⟩
      | ret => cases h0; exact wpIn_ret ⟨rfl, ρ, h, Ext.refl _ _ _, hfr, rfl, hm⟩
      | exit id => cases h0; exact wpIn_exit ⟨rfl, ρ, h, Ext.refl _ _ _, hfr, rfl, hm⟩
      | goto l => cases h0
      | refuse s => cases h0
      | scope b => cases h0
      | region id ops draw =>
        have hlt : opsLt a.tmps.size ops.toList = true := hfit
        cases draw with
        | false =>
          obtain ⟨fr1, st1, h1, h2⟩ := ob2_eq (o := opsA tb call ops.toList ops.toList fr st) h0
          cases h2
          refine wpIn_region ?_
          rw [List.range_eq_range']
          have := ops_sound (ro := ro) (n := n) (Q := CodePost base ρ st w .normal fr' st' a.tmps.size) ht hc (ops := ops) ops.toList 0 (by simp) hg h hfr hlt h1 fun ρ' w' a' q1 q2 q3 q4 q5 => ⟨rfl, ρ', q1, q2, q3, q4, by rw [q5]; exact hm.ext q2⟩
          simpa using this
        | true =>
          obtain ⟨fr1, st1, h1, h2⟩ := ob2_eq (o := drawA tb call ops.toList fr st) h0
          cases h2
          exact hd ops fr st fr' st' h1 ρ w a ro n id _ hg h hfr hlt fun ρ' w' a' q1 q2 q3 q4 q5 => ⟨rfl, ρ', q1, q2, q3, q4, by rw [q5]; exact hm.ext q2⟩
      | seq x y => exact seq_sound (ih f hfF) h0 hg h hfr hfit hm hro hb
      | cond x c1 c2 =>
        obtain ⟨f1, f2⟩ := fits_cond hfit
        obtain ⟨v, hv, h1⟩ := ob_eq (o := opd fr x) h0
        have hx := (fits_of hfr hg).opd x v hv
        cases v <;> first | (cases h1; done) | skip
        rename_i t
        generalize hev : a.eval x = x' at hx
        cases hx
        refine wpIn_cond (t := t) hev ?_
        cases t with
        | true => exact ih f hfF c1 fr st e fr' st' h1 ρ w a base ro n hg h hfr f1 hm hro hb
        | false => exact ih f hfF c2 fr st e fr' st' h1 ρ w a base ro n hg h hfr f2 hm hro hb
      | block id b =>
        obtain ⟨e1, fr1, st1, h1, h2⟩ := ob3_eq (o := codeA tb call fnO f b fr st) h0
        refine wpIn_block (wpIn_mono (ih f hfF b fr st e1 fr1 st1 h1 ρ w a base ro n hg h hfr hfit hm hro hb) ?_)
        rintro e' a' w' ⟨rfl, ρ1, q⟩
        cases e1 with
        | normal => cases h2; exact ⟨rfl, ρ1, q⟩
        | goto l => cases h2; exact ⟨rfl, ρ1, q⟩
        | ret => cases h2; exact ⟨rfl, ρ1, q⟩
        | exit i =>
          have h2' : bcase (Nat.beq i id) (cret .normal fr1 st1) (cret (.exit i) fr1 st1) = some (e, fr', st') := h2
          rw [bcase_eq] at h2'
          by_cases hi : i = id
          · subst hi
            rw [if_pos (by simp)] at h2'
            cases h2'
            simp only [exOf, Exit.inBlock, if_true]
            exact ⟨rfl, ρ1, q⟩
          · rw [if_neg (by rw [beq_false hi]; simp)] at h2'
            cases h2'
            simp only [exOf, Exit.inBlock, hi, if_false]
            exact ⟨rfl, ρ1, q⟩
      | loop b => exact loop_sound ih (by omega) h0 hg h hfr hfit hm hro hb
      | rangeFunc g ps asg body =>
        obtain ⟨gv, hgv, h1⟩ := ob_eq (o := opd fr g) h0
        cases fnO with
        | none =>
          unfold cRangeFn at h1
          cases gv <;> first | (cases h1; done) | skip
          rename_i gf first cap
          cases gf <;> first | (cases h1; done) | skip
          rename_i gid
          obtain ⟨fd, _, h2⟩ := ob_eq (o := tb.funcs.get gid) h1
          obtain ⟨bd, _, h3⟩ := ob_eq (o := fd.body) h2
          cases h3
        | some fn0 =>
          have := hro rfl
          subst this
          exact rangeFn_sound ht hc (ih f hfF) hgv h1 hg h hfr hfit hm hb

/-! Rounds. -/
theorem opsLt_mono {m k : Nat} (hk : m ≤ k) : ∀ (l : List Oper), opsLt m l = true → opsLt k l = true := by
  intro l
  induction l with
  | nil => intro _; rfl
  | cons o l ih =>
    intro h
    obtain ⟨h1, h2⟩ := opsLt_cons h
    show bcase (dstLt k o.dst) (opsLt k l) false = true
    rw [ih h2]
    have : dstLt k o.dst = true := by
      cases hd : o.dst with
      | none => rfl
      | some t =>
        rw [hd] at h1
        have h3 : t < m := blt_true h1
        show Nat.blt t k = true
        rw [Nat.blt_eq]; exact Nat.lt_of_lt_of_le h3 hk
    rw [this]; rfl
theorem allLt_mono {m k : Nat} (hk : m ≤ k) : ∀ (l : List Nat), allLt m l = true → allLt k l = true := by
  intro l
  induction l with
  | nil => intro _; rfl
  | cons t l ih =>
    intro h
    have h' : bcase (Nat.blt t m) (allLt m l) false = true := h
    rw [bcase_eq] at h'
    split at h'
    · rename_i h1
      show bcase (Nat.blt t k) (allLt k l) false = true
      have h3 := blt_true h1
      have h4 : Nat.blt t k = true := by rw [Nat.blt_eq]; omega
      rw [ih h', h4]; rfl
    · cases h'
theorem both_mono {p q p' q' : Bool} (h1 : p = true → p' = true) (h2 : q = true → q' = true) (h : bcase p q false = true) : bcase p' q' false = true := by
  rw [bcase_eq] at h
  split at h
  · rename_i hp; rw [h1 hp, h2 h]; rfl
  · cases h
theorem fitsC_mono {m k : Nat} (hk : m ≤ k) : ∀ c, fitsC m c = true → fitsC k c = true := by
  intro c
  induction c with
  | skip => exact fun h => h
  | region id ops draw => exact fun h => opsLt_mono hk _ h
  | seq a b ih1 ih2 => exact fun h => both_mono ih1 ih2 h
  | cond x a b ih1 ih2 => exact fun h => both_mono ih1 ih2 h
  | block id b ih => exact fun h => ih h
  | loop b ih => exact fun h => ih h
  | rangeFunc g ps a b ih1 ih2 => exact fun h => both_mono (fun h => allLt_mono hk _ h) (fun h => both_mono ih1 ih2 h) h
  | exit id => exact fun h => h
  | scope b ih => exact fun h => ih h
  | label l => exact fun h => h
  | goto l => exact fun h => h
  | ret => exact fun h => h
  | refuse s => exact fun h => h

end Go.Ab

namespace Go.Ab
open Go
variable {P : Program} {ρ : Ren} {st st' : St} {w : World} {tb : Tab} {call : CallF}

/-! Results. -/
theorem resV_sound (ht : TabOK P tb) (h : Rel ρ st w) {fr : T V} {tmps : Array Value} (hfr : RelT ρ fr tmps) {r : ResultVar} {v : V} (h0 : resV tb fr st r = some v) :
    ∃ v', ((match r with | .tmp t => pure (tmps.getD t undef) | .cell a t => do loadVar t (← asAddr (tmps.getD a undef)) : Sem Value)).run P w = .ok v' w ∧ RelV ρ v v' := by
  cases r with
  | tmp t =>
    obtain ⟨v', h1, h2⟩ := hfr t v h0
    exact ⟨v', by simp [Array.getD_eq_getD_getElem?, h1], h2⟩
  | cell a t =>
    obtain ⟨rr, hr, h1⟩ := ob_eq (o := row tb t) h0
    obtain ⟨u, hu, h2⟩ := ob_eq (o := fr.get a) h1
    obtain ⟨u', h3, h4⟩ := hfr a u hu
    obtain ⟨v', g1, g2⟩ := load_sound (P := P) h (row_ok ht hr) h2 h4
    refine ⟨v', ?_, g2⟩
    have hd : tmps.getD a undef = u' := by rw [Array.getD_eq_getD_getElem?, h3]; rfl
    simp only [hd]
    obtain ⟨b, off, rfl, _⟩ := ptrK_eq h2
    cases h4 with
    | ptr _ _ p hp =>
      simp only [Instr.loadAt, Sem.run_bind] at g1
      simp only [Sem.run_bind, asAddr, Sem.run_pure, Result.andThen_ok]
      simpa [Instr.sureAddr] using g1

theorem mapM_sound {f : ResultVar → Sem Value} {g : ResultVar → Option V} (hfg : ∀ r v, g r = some v → ∃ v', (f r).run P w = .ok v' w ∧ RelV ρ v v') :
    ∀ {l : List ResultVar} {vs : List V}, mapO g l = some vs → ∃ vs', (l.mapM f).run P w = .ok vs' w ∧ RelL ρ vs vs' := by
  intro l
  induction l with
  | nil => intro vs h; cases h; exact ⟨[], by simp, .nil⟩
  | cons r l ih =>
    intro vs h
    obtain ⟨v, hv, h1⟩ := ob_eq (o := g r) h
    obtain ⟨vs1, hvs, h2⟩ := ob_eq (o := mapO g l) h1
    cases h2
    obtain ⟨v', g1, g2⟩ := hfg r v hv
    obtain ⟨vs', g3, g4⟩ := ih hvs
    exact ⟨v' :: vs', by simp [List.mapM_cons, g1, g3], .cons _ _ _ _ g2 g4⟩

theorem results_sound (ht : TabOK P tb) (h : Rel ρ st w) {fr : T V} {tmps : Array Value} (hfr : RelT ρ fr tmps) {fd : Func} {v : V} (h0 : fin tb fd fr st = some (v, st')) :
    st' = st ∧ Gives P ρ w (results fd tmps) v := by
  obtain ⟨vs, hvs, h1⟩ := ob_eq (o := mapO (resV tb fr st) fd.results.toList) h0
  obtain ⟨vs', g1, g2⟩ := mapM_sound (P := P) (w := w) (ρ := ρ) (f := fun r => match r with | .tmp t => pure (tmps.getD t undef) | .cell a t => do loadVar t (← asAddr (tmps.getD a undef)))
    (fun r v hv => resV_sound ht h hfr hv) hvs
  have hrun : ∀ x, (if h : vs'.toArray.size = 1 then vs'.toArray[0] else .tuple vs'.toArray) = x → (results fd tmps).run P w = .ok x w := by
    intro x hx
    have hm : (fd.results.mapM (fun r => match r with | .tmp t => pure (tmps.getD t undef) | .cell a t => do loadVar t (← asAddr (tmps.getD a undef)) : ResultVar → Sem Value)).run P w = .ok vs'.toArray w := by
      rw [Array.mapM_eq_mapM_toList, map_eq_pure_bind, Sem.run_bind, g1]
      rfl
    unfold results
    rw [Sem.run_bind]
    refine (congrArg (fun r : Result (Array Value) => r.andThen fun a w' => Sem.run P (pure (if h : a.size = 1 then a[0] else Value.tuple a)) w') hm).trans ?_
    simp only [Result.andThen_ok, Sem.run_pure]
    rw [hx]
  unfold one at h1
  cases vs with
  | nil =>
    cases h1
    cases g2
    exact ⟨rfl, _, hrun _ rfl, .tuple _ _ .nil⟩
  | cons a l =>
    cases g2 with
    | cons _ a' _ l' ha hl =>
    cases l with
    | nil =>
      cases h1
      cases hl
      exact ⟨rfl, _, hrun _ rfl, ha⟩
    | cons b l =>
      cases h1
      cases hl with
      | cons _ b' _ l' hb hl =>
        refine ⟨rfl, .tuple (a' :: b' :: l').toArray, hrun _ (by simp), .tuple _ _ (.cons _ _ _ _ ha (.cons _ _ _ _ hb hl))⟩

/-- a frame on its way out. -/
theorem leaves_sound (ht : TabOK P tb) {fr : T V} {tmps : Array Value} {fd : Func} {v : V} {ρ0 : Ren} {st0 : St} {w0 : World} : ∀ (ds : List Deferred) {w : World}, MarksOK w0.heap.size ρ st w ds → Rel ρ st w → RelT ρ fr tmps →
    Ext ρ0 st0 w0 ρ st w → fin tb fd fr st = some (v, st') → LeavesInM Fence.wide 0 P fd tmps (Post ρ0 st0 w0 v st') ds .returning w := by
  intro ds
  induction ds with
  | nil =>
    intro w hm h hfr he h0
    obtain ⟨rfl, v', g1, g2⟩ := results_sound (P := P) ht h hfr h0
    exact ⟨v', g1, v', ρ, rfl, h, he, g2⟩
  | cons d ds ih =>
    intro w hm h hfr he h0
    cases hm with
    | cons D _ hb ho hn hne hs =>
      refine ⟨by simp, .inl ⟨D, World.putObj w D (.deferred none), rfl, ?_, ?_⟩⟩
      · simp [Instr.takeDeferred, run_getObj ho (fun _ _ _ e => by cases e), run_setObj (P := P) (o' := .deferred none) ho (fun _ _ _ e => by cases e)]
      · have hfree : ∀ b k p, st.heap.get b = some k → ρ b = some p → p.blk ≠ D := by
          intro b k p hb hp hh
          obtain ⟨p1, o, hp1, ho1, hr⟩ := h.blk b k hb
          rw [hp] at hp1; cases hp1
          rw [hh, ho] at ho1
          cases ho1
          cases hr
        have hput : ∀ i, i ≠ D → (World.putObj w D (.deferred none)).heap[i]? = w.heap[i]? := fun i hi => by simp [World.putObj, Array.getElem?_setIfInBounds_ne (Ne.symm hi)]
        refine ih ?_ (h.world hfree) hfr ?_ h0
        · have : ∀ ds, MarksOK w0.heap.size ρ st w ds → (∀ d ∈ ds, d.target ≠ .collected D) → MarksOK w0.heap.size ρ st (World.putObj w D (.deferred none)) ds := by
            intro ds hds
            induction hds with
            | nil => intro _; exact .nil
            | cons D2 ds hb2 ho2 hn2 hne2 _ ih2 =>
              intro hall
              have hne3 : D2 ≠ D := fun e => hall _ (List.mem_cons_self) (by rw [e])
              exact .cons D2 ds hb2 (by rw [hput _ hne3]; exact ho2) hn2 hne2 (ih2 fun d hd => hall d (List.mem_cons_of_mem _ hd))
          exact this ds hs hne
        · refine ⟨he.ren, he.os, he.tape, he.output, by simpa [World.putObj] using he.size, fun i hi hno => ?_, he.ro⟩
          obtain ⟨k1, k2⟩ := he.keep i hi hno
          exact ⟨by rw [hput _ (by omega)]; exact k1, k2⟩

theorem putArgs_eq (l : List V) : ∀ i t, putArgs l i t = putAll l i t := by
  induction l with
  | nil => intro i t; rfl
  | cons v l ih =>
    intro i t
    show (t.put i v).force (fun t => putArgs l (Nat.succ i) t) = (t.put i v).force (fun t => putAll l (Nat.succ i) t)
    rw [T.force_eq, T.force_eq, ih]

theorem enter_sound (ht : TabOK P tb) (hc : CallOK P call) (hd : DrawOK P tb call) (hg : Glob ρ) (h : Rel ρ st w) {f : FuncId} {args : List V} {args' : Array Value} {v : V} (ha : RelL ρ args args'.toList)
    (h0 : enterA tb call args st f = some (v, st')) : (callFunc f args').run P w = .ok (.enter f args') w ∧ Calls P f args' w (Post ρ st w v st') := by
  obtain ⟨fd, hfd, h1⟩ := ob_eq (o := tb.funcs.get f) h0
  obtain ⟨body, hbd, h2⟩ := ob_eq (o := fd.body) h1
  obtain ⟨e, fr1, st1, h3, h4⟩ := ob3_eq h2
  refine ⟨callFunc_enter ht hfd hbd _ _, ?_⟩
  refine callsIn_wide.1 (callsIn_of_wp_marks (F := Fence.wide) (n := 0) (ht.func f fd hfd) hbd trivial ?_)
  have hfr : RelT ρ (putArgs args 0 .nil) (args' ++ Array.replicate (fd.ntmps - args'.size) undef) := by
    intro t u hu
    rw [putArgs_eq, putAll_get] at hu
    by_cases hlt : 0 ≤ t ∧ t < 0 + args.length
    · rw [if_pos hlt, Nat.sub_zero] at hu
      obtain ⟨u', g1, g2⟩ := ha.get hu
      have g1' : args'[t]? = some u' := by simpa using g1
      exact ⟨u', by rw [Array.getElem?_append_left (lt_of_some g1')]; exact g1', g2⟩
    · rw [if_neg hlt] at hu; cases hu
  have hfit : fitsC (args' ++ Array.replicate (fd.ntmps - args'.size) undef).size body = true := fitsC_mono (by simp; omega) body (ht.fits f fd body hfd hbd)
  have := code_ok (P := P) ht hc hd (some f) 1000000 1000000 (Nat.le_refl _) body _ st e fr1 st1 h3 ρ w { tmps := args' ++ Array.replicate (fd.ntmps - args'.size) undef, defers := [] } w.heap.size none 0 hg h hfr hfit .nil (fun _ => rfl) (Nat.le_refl _)
  refine wpIn_mono (F := Fence.wide) this ?_
  rintro e' a' w' ⟨rfl, ρ1, q1, q2, q3, q4, q5⟩
  cases e with
  | normal => exact leaves_sound ht a'.defers q5 q1 q3 q2 h4
  | ret => exact leaves_sound ht a'.defers q5 q1 q3 q2 h4
  | exit id => cases h4
  | goto l => cases h4

end Go.Ab

namespace Go.Ab
open Go
variable {P : Program} {ρ : Ren} {st st' : St} {w : World} {tb : Tab} {call : CallF}

/-! Rounds. -/
theorem putParams_sound {ρ : Ren} : ∀ (ps : List Tmp) (vs : List V) (t fr : T V) (tmps : Array Value) (vs' : List Value), putParams ps vs t = some fr → RelT ρ t tmps → RelL ρ vs vs' → allLt tmps.size ps = true →
    vs'.length = ps.length ∧ RelT ρ fr ((ps.zip vs').foldl (fun tmps (x : Tmp × Value) => tmps.setIfInBounds x.1 x.2) tmps) ∧ ((ps.zip vs').foldl (fun tmps (x : Tmp × Value) => tmps.setIfInBounds x.1 x.2) tmps).size = tmps.size := by
  intro ps
  induction ps with
  | nil =>
    intro vs t fr tmps vs' h ht hl _
    cases vs with
    | nil => cases h; cases hl; exact ⟨rfl, ht, rfl⟩
    | cons => cases h
  | cons p ps ih =>
    intro vs t fr tmps vs' h ht hl hlt
    cases vs with
    | nil => cases h
    | cons v vs =>
      cases hl with
      | cons _ v' _ vs' hv hl =>
      have h' : (t.put p v).force (fun t => putParams ps vs t) = some fr := h
      rw [T.force_eq] at h'
      have h2 : bcase (Nat.blt p tmps.size) (allLt tmps.size ps) false = true := hlt
      rw [bcase_eq] at h2
      split at h2
      · rename_i hp
        have := putT_rel (a := { tmps := tmps, defers := [] }) (d := some p) ht hv hp
        obtain ⟨g1, g2, g3⟩ := ih vs (t.put p v) fr (tmps.setIfInBounds p v') vs' h' this hl (by simpa using h2)
        exact ⟨by simp [g1], by simpa using g2, by simpa using g3⟩
      · cases h2

/-- an extension but for one block. -/
structure ExtB (g : Nat) (ρ : Ren) (st : St) (w : World) (ρ' : Ren) (st' : St) (w' : World) : Prop where
  ren : ρ.le ρ'
  os : w'.os = w.os
  tape : w'.tape = w.tape
  output : w'.output = w.output
  size : w.heap.size ≤ w'.heap.size
  keep : ∀ i, i < w.heap.size → i ≠ g → ¬ Own ρ st i → w'.heap[i]? = w.heap[i]? ∧ ¬ Own ρ' st' i
  ro : ∀ b n c, st'.heap.get b = some (.cells n c true) → st.heap.get b = some (.cells n c true)

theorem Ext.but {ρ' : Ren} {w' : World} (g : Nat) (h : Ext ρ st w ρ' st' w') : ExtB g ρ st w ρ' st' w' := ⟨h.ren, h.os, h.tape, h.output, h.size, (fun i hi _ hn => h.keep i hi hn), h.ro⟩
theorem ExtB.trans {g : Nat} {ρ' ρ'' : Ren} {st'' : St} {w' w'' : World} (h : ExtB g ρ st w ρ' st' w') (k : ExtB g ρ' st' w' ρ'' st'' w'') : ExtB g ρ st w ρ'' st'' w'' :=
  ⟨Ren.le_trans h.ren k.ren, k.os.trans h.os, k.tape.trans h.tape, k.output.trans h.output, Nat.le_trans h.size k.size, (fun i hi hg hn =>
    let ⟨a, b⟩ := h.keep i hi hg hn
    let ⟨c, d⟩ := k.keep i (Nat.lt_of_lt_of_le hi h.size) hg b
    ⟨c.trans a, d⟩), fun b n c x => h.ro b n c (k.ro b n c x)⟩
theorem ExtB.own {g : Nat} {ρ' : Ren} {w' : World} (h : ExtB g ρ st w ρ' st' w') (ho : Own ρ st g) : Ext ρ st w ρ' st' w' :=
  ⟨h.ren, h.os, h.tape, h.output, h.size, (fun i hi hn => h.keep i hi (fun e => hn (e ▸ ho)) hn), h.ro⟩
theorem ExtB.put {g : Nat} (ρ : Ren) (st : St) (w : World) (o : Obj) : ExtB g ρ st w ρ st (World.putObj w g o) :=
  ⟨Ren.le_refl _, rfl, rfl, rfl, by simp [World.putObj], (fun i _ hg hn => ⟨by simp [World.putObj, Array.getElem?_setIfInBounds_ne (Ne.symm hg)], hn⟩), fun _ _ _ h => h⟩

theorem Rel.readd (h : Rel ρ st w) {l : Nat} {k : Blk} {p : Pl} {o : Obj} (hp : ρ l = some p) (hno : ∀ b k p', st.heap.get b = some k → ρ b = some p' → p'.blk ≠ p.blk)
    (ho : w.heap[p.blk]? = some o) (hk : RelBlk ρ k p o) : Rel ρ ⟨st.heap.put l k, st.next⟩ w := by
  refine ⟨fun b k' hb => ?_, h.fresh, fun b b' k1 k2 p1 p2 hb hb' hp1 hp2 hh => ?_⟩
  · rw [T.get_put] at hb
    by_cases e : b = l
    · rw [if_pos e] at hb; cases hb; exact ⟨p, o, e ▸ hp, ho, hk⟩
    · rw [if_neg e] at hb; exact h.blk b k' hb
  · rw [T.get_put] at hb hb'
    by_cases e : b = l <;> by_cases e' : b' = l
    · rw [e, e']
    · rw [if_neg e'] at hb'
      subst e
      rw [hp] at hp1; cases hp1
      exact absurd hh.symm (hno b' k2 p2 hb' hp2)
    · rw [if_neg e] at hb
      subst e'
      rw [hp] at hp2; cases hp2
      exact absurd hh (hno b k1 p1 hb hp1)
    · rw [if_neg e] at hb; rw [if_neg e'] at hb'
      exact h.inj b b' k1 k2 p1 p2 hb hb' hp1 hp2 hh
theorem ExtB.readd {g : Nat} (ρ : Ren) (st : St) (w : World) {l : Nat} {k : Blk} {p : Pl} (hp : ρ l = some p) (hg : p.blk = g) (hrw : k.rw := by first | exact trivial | exact rfl) : ExtB g ρ st w ρ ⟨st.heap.put l k, st.next⟩ w := by
  refine ⟨Ren.le_refl _, rfl, rfl, rfl, Nat.le_refl _, fun i _ hi hn => ⟨rfl, ?_⟩, fun b' n c hb' => by
    have hb2 : (st.heap.put l k).get b' = some (.cells n c true) := hb'
    rw [T.get_put] at hb2
    by_cases e : b' = l
    · rw [if_pos e] at hb2; cases hb2; exact absurd hrw (by simp [Blk.rw])
    · rw [if_neg e] at hb2; exact hb2⟩
  rintro ⟨b, k', p', h1, h2, h3, h4⟩
  rw [T.get_put] at h1
  by_cases e : b = l
  · subst e; rw [hp] at h3; cases h3; exact hi (h4.symm.trans hg)
  · rw [if_neg e] at h1; exact hn ⟨b, k', p', h1, h2, h3, h4⟩

/-- a block with a loop's object that isn't owned isn't known. -/
theorem Rel.loop_free (h : Rel ρ st w) {g : Nat} {lp : Loop} (ho : w.heap[g]? = some (.loop lp)) (hn : ¬ Own ρ st g) : ∀ b k p', st.heap.get b = some k → ρ b = some p' → p'.blk ≠ g := by
  intro b k p' hb hp hh
  obtain ⟨p1, o, hp1, ho1, hr⟩ := h.blk b k hb
  rw [hp] at hp1; cases hp1
  rw [hh, ho] at ho1
  cases ho1
  cases hr with
  | loop => exact hn ⟨b, _, p', hb, trivial, hp, hh⟩

theorem endRound_sound (h : Rel ρ st w) {l : Nat} {fn : FuncId} {tmps : T V} {ps : List Tmp} {asg body : Code} {p : Pl} {lp : Loop} (hp : ρ l = some p) (hb0 : p.base = 0) (hn : ¬ Own ρ st p.blk)
    (ho : w.heap[p.blk]? = some (.loop { lp with state := .busy })) (h2 : RelT ρ tmps lp.tmps) (h3 : lp.params = ps.toArray) (h4 : lp.assign = asg) (h5 : lp.body = body) (h7 : fitsC lp.tmps.size (.seq asg body) = true) (h8 : allLt lp.tmps.size ps = true)
    {e : Ex} {v : V} (h0 : yieldEnd l fn tmps ps asg body e st = some (v, st')) {ρ0 : Ren} {st0 : St} {w0 : World} (hE : ExtB p.blk ρ0 st0 w0 ρ st w) (hO : Own ρ0 st0 p.blk) (a : Act) :
    roundPost P p.blk (Post ρ0 st0 w0 v st') (exOf e) a w := by
  obtain ⟨pend, hpend, h1⟩ := ob_eq (o := endPend e) h0
  obtain ⟨st1, h6, h9⟩ := ob_eq h1
  cases h9
  have := putBlk_eq h6
  subst this
  have hfree := h.loop_free ho hn
  have key : (∀ c, pend = some c → ∀ n, fitsC n c = true) → ∃ v' w', (Instr.endRound p.blk pend).run P w = .ok v' w' ∧ Post ρ0 st0 w0 (.bool (ocase pend true fun _ => false)) ⟨st.heap.put l (.loop fn tmps ps asg body pend), st.next⟩ (.returned v') w' := by
    intro hfits
    let lp2 : Loop := { lp with state := if pend.isNone then .ready else .done, pending := pend }
    have hset := run_setObj (P := P) (o' := .loop lp2) ho (fun _ _ _ e => by cases e)
    refine ⟨.bool pend.isNone, World.putObj w p.blk (.loop lp2), ?_, .bool pend.isNone, ρ, rfl, ?_, ?_, ?_⟩
    · simp only [Instr.endRound, Sem.run_bind, run_getLoop ho, Result.andThen_ok]
      rw [show (Obj.loop { lp with state := if pend.isNone = true then LoopState.ready else LoopState.done, pending := pend }) = Obj.loop lp2 from rfl, hset]
      simp
    · exact (h.world hfree).readd hp hfree (putObj_get ho) (.loop _ _ _ _ _ _ _ lp2 hb0 h2 h3 h4 h5 ⟨rfl, by cases pend <;> rfl, hfits⟩ h7 h8)
    · exact ((hE.trans (ExtB.put ρ st w _)).trans (ExtB.readd ρ st _ hp rfl)).own hO
    · have : (ocase pend true fun _ => false) = pend.isNone := by cases pend <;> rfl
      rw [this]; exact .bool _
  cases e with
  | normal => cases hpend; exact key (fun c e => by cases e)
  | exit i => cases hpend; exact key (fun c e => by cases e; intro n; rfl)
  | ret => cases hpend; exact key (fun c e => by cases e; intro n; rfl)
  | goto l => cases hpend

theorem yield_sound (ht : TabOK P tb) (hc : CallOK P call) (hd : DrawOK P tb call) (hg : Glob ρ) (h : Rel ρ st w) {l : Nat} {args : List V} {args' : Array Value} {v : V} {p : Pl} (ha : RelL ρ args args'.toList) (hp : ρ l = some p)
    (h0 : ob (st.heap.get l) (yieldA tb call args st l) = some (v, st')) :
    ∃ f tmps asg body, (Instr.yield p.blk args').run P w = .ok (.round p.blk f tmps asg body) w ∧ ∀ n, RoundIn Fence.wide n P p.blk f tmps asg body w (Post ρ st w v st') := by
  obtain ⟨k, hk, h1⟩ := ob_eq h0
  unfold yieldA at h1
  cases k <;> first | (cases h1; done) | skip
  rename_i fn tmps ps asg body pend
  cases pend with
  | some c => cases h1
  | none =>
  obtain ⟨fr, hfr0, h2⟩ := ob_eq (o := putParams ps args tmps) h1
  rw [T.force_eq] at h2
  obtain ⟨e1, fr1, st1, h3, h4⟩ := ob3_eq h2
  obtain ⟨lp, ho, hb0, hT, hps, has, hbo, hpd, hfits, hlt⟩ := h.loopAt hk hp
  obtain ⟨q1, q2, q3⟩ := putParams_sound ps args tmps fr lp.tmps args'.toList hfr0 hT ha hlt
  obtain ⟨hdel, hdele⟩ := h.del l
  have hgone := h.gone hk hp
  have hno : ¬ Own ρ ⟨st.heap.del l, st.next⟩ p.blk := by
    rintro ⟨b, k', p', k1, _, k3, k4⟩
    exact hgone b k' p' k1 k3 k4
  have hO : Own ρ st p.blk := ⟨l, _, p, hk, trivial, hp, rfl⟩
  obtain ⟨f1, f2⟩ := fits_seq hfits
  let T0 := (lp.params.zip args').foldl (fun tmps (x : Tmp × Value) => tmps.setIfInBounds x.1 x.2) lp.tmps
  have hT0 : T0 = (ps.zip args'.toList).foldl (fun tmps (x : Tmp × Value) => tmps.setIfInBounds x.1 x.2) lp.tmps := by
    show (lp.params.zip args').foldl _ lp.tmps = _
    rw [hps, ← Array.foldl_toList]
    simp
  have hTr : RelT ρ fr T0 := by rw [hT0]; exact q2
  have hTs : T0.size = lp.tmps.size := by rw [hT0]; exact q3
  refine ⟨lp.fn, T0, asg, body, ?_, fun n => ?_⟩
  · have hsz : ¬ (args'.size ≠ lp.params.size) := by rw [hps]; simp at q1 ⊢; exact q1
    simp only [Instr.yield, Sem.run_bind, run_getLoop ho, Result.andThen_ok, hsz, if_false, Sem.run_pure, has, hbo]
    rfl
  · refine roundIn_of_wpIn (F := Fence.wide) trivial ?_
    have hasg := code_ok (P := P) ht hc hd none 1000000 1000000 (Nat.le_refl _) asg fr _ e1 fr1 st1 h3 ρ w { tmps := T0, defers := [] } w.heap.size (some p.blk) n hg hdel hTr (by rw [hTs]; exact f1) .nil (fun e => by cases e) (Nat.le_refl _)
    refine wpIn_mono (F := Fence.wide.inRound p.blk) hasg ?_
    rintro e' a1 w1 ⟨rfl, ρ1, r1, r2, r3, r4, r5⟩
    unfold roundBody at h4
    cases e1 <;> first | (cases h4; done) | skip
    obtain ⟨e2, fr2, st2, h5, h6⟩ := ob3_eq (o := codeA tb call none 1000000 body fr1 st1) h4
    obtain ⟨k1, k2⟩ := r2.keep p.blk (lt_of_some ho) hno
    rw [ho] at k1
    have hfree := r1.loop_free k1 k2
    let lb : Loop := { lp with state := .busy }
    have hset := run_setObj (P := P) (o' := .loop lb) k1 (fun _ _ _ e => by cases e)
    refine ⟨World.putObj w1 p.blk (.loop lb), ?_, ?_⟩
    · have hst : lp.state = LoopState.ready := hpd.2.1
      simp only [Instr.beginRound, Sem.run_bind, run_getLoop k1, Result.andThen_ok, hst]
      rw [show Obj.loop { lp with state := LoopState.busy } = Obj.loop lb from rfl] at *
      simp only [hset, Result.andThen_ok, Sem.run_pure]
    · have r1' := r1.world (o := .loop lb) hfree
      have hbody := code_ok (P := P) ht hc hd none 1000000 1000000 (Nat.le_refl _) body fr1 st1 e2 fr2 st2 h5 ρ1 (World.putObj w1 p.blk (.loop lb)) a1 w.heap.size (some p.blk) n (hg.mono r2.ren) r1' r3 (by rw [r4]; show fitsC T0.size body = true; rw [hTs]; exact f2)
        (by
          have : ∀ ds, MarksOK w.heap.size ρ1 st1 w1 ds → MarksOK w.heap.size ρ1 st1 (World.putObj w1 p.blk (.loop lb)) ds := by
            intro ds hds
            induction hds with
            | nil => exact .nil
            | cons D ds hb2 ho2 hn2 hne2 _ ih2 =>
              have hne : p.blk ≠ D := by have := lt_of_some ho; omega
              exact .cons D ds hb2 (by simp [World.putObj, Array.getElem?_setIfInBounds_ne hne, ho2]) hn2 hne2 ih2
          exact this _ r5) (fun e => by cases e) (by simpa [World.putObj] using r2.size)
      refine wpIn_mono (F := Fence.wide.inRound p.blk) hbody ?_
      rintro e' a2 w3 ⟨rfl, ρ2, s1, s2, s3, s4, s5⟩
      have hlt1 : p.blk < (World.putObj w1 p.blk (.loop lb)).heap.size := by
        have := lt_of_some k1
        simpa [World.putObj] using this
      obtain ⟨m1, m2⟩ := s2.keep p.blk hlt1 k2
      rw [putObj_get k1] at m1
      have hle : ρ.le ρ2 := Ren.le_trans r2.ren s2.ren
      refine endRound_sound s1 (hle _ _ hp) hb0 m2 m1 (hT.mono hle) hps has hbo hfits hlt h6 ?_ hO a2
      exact (((hdele.but p.blk).trans (r2.but p.blk)).trans (ExtB.put ρ1 st1 w1 _)).trans (s2.but p.blk)

/-- what is asked of the functions that are given, not walked. -/
def PrimOK (P : Program) (prim : PrimF) : Prop :=
  ∀ call, CallOK P call → ∀ f args v st st', prim call f args st = some (some (v, st')) → ∀ (ρ : Ren) (w : World) (args' : Array Value), Glob ρ → Rel ρ st w → RelL ρ args args'.toList →
    ((callFunc f args').run P w = .ok (.enter f args') w ∧ Calls P f args' w (Post ρ st w v st')) ∨
    (∃ v' ρ' w', (callFunc f args').run P w = .ok (.value v') w' ∧ Rel ρ' st' w' ∧ Ext ρ st w ρ' st' w' ∧ RelV ρ' v v')

theorem call_ok (ht : TabOK P tb) {prim : PrimF} (hp : PrimOK P prim) (hd : ∀ call, CallOK P call → DrawOK P tb call) : ∀ d, CallOK P (callA tb prim d) := by
  intro d
  induction d with
  | zero => exact ⟨fun f args v st st' h => (by cases h), fun l args v st st' h => (by cases h), fun fn args v st st' h => (by cases h)⟩
  | succ d ih =>
    refine ⟨fun f args v st st' h ρ w args' hg hr ha => ?_, fun l args v st st' h ρ w args' p hg hr ha hl => ?_, fun fn args v st st' h => ?_⟩
    · have h' : ocase (prim (callA tb prim d) f args st) (enterA tb (callA tb prim d) args st f) (fun r => r) = some (v, st') := h
      cases hq : prim (callA tb prim d) f args st with
      | some r =>
        rw [hq] at h'
        have h2 : r = some (v, st') := h'
        subst h2
        exact hp _ ih f args v st st' hq ρ w args' hg hr ha
      | none =>
        rw [hq] at h'
        exact .inl (enter_sound ht ih (hd _ ih) hg hr ha h')
    · exact yield_sound ht ih (hd _ ih) hg hr ha hl h
    · cases fn with
      | func f => exact .inl ⟨f, rfl⟩
      | yield l => exact .inr ⟨l, rfl⟩
      | method n => cases h
      | methodOf t n => cases h
      | via t p f b => cases h

end Go.Ab
