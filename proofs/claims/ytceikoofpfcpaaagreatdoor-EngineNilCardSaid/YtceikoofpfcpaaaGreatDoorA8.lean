/-
  A PART OF THE PROOF OF EngineNil's TIED CARD: that a region whose order is drawn answers one thing in every order (first part). No condition beyond those that the theorems below bear.
-/
import Derived.Test.YtceikoofpfcpaaaGreatDoorA7
import Derived.OrdersIn
namespace Go.Ab
open Go
variable {P : Program} {st st' : St} {tb : Tab} {call : CallF}

/-! Operations, their operands, and memory. -/
/-- two frames that agree on operands. -/
def Agree (fr fr2 : T V) (l : List Operand) : Prop := ∀ x ∈ l, opd fr x = opd fr2 x
theorem Agree.opds {fr fr2 : T V} {l : List Operand} (h : Agree fr fr2 l) : opds fr l = opds fr2 l := by
  induction l with
  | nil => rfl
  | cons x l ih =>
    show ob (opd fr x) (fun y => ob (Go.Ab.opds fr l) fun ys => some (y :: ys)) = ob (opd fr2 x) (fun y => ob (Go.Ab.opds fr2 l) fun ys => some (y :: ys))
    rw [h x (by simp), ih fun y hy => h y (by simp [hy])]
theorem Agree.parts {fr fr2 : T V} {l : List (Nat × Operand)} (h : Agree fr fr2 (l.map (·.2))) : partsA fr l = partsA fr2 l := by
  induction l with
  | nil => rfl
  | cons x l ih =>
    show ob (ob (opd fr x.2) fun v => some (x.1, v)) (fun y => ob (partsA fr l) fun ys => some (y :: ys)) = ob (ob (opd fr2 x.2) fun v => some (x.1, v)) (fun y => ob (partsA fr2 l) fun ys => some (y :: ys))
    rw [h x.2 (by simp), ih fun y hy => h y (by simp at hy ⊢; exact .inr hy)]
theorem Agree.opdO {fr fr2 : T V} {o : Option Operand} (h : Agree fr fr2 o.toList) : opdO fr o = opdO fr2 o := by
  cases o with
  | none => rfl
  | some x => show ob (opd fr x) _ = ob (opd fr2 x) _; rw [h x (by simp)]

theorem opA_congr {fr fr2 : T V} {o : Op} (h : Agree fr fr2 o.operands.toList) : opA tb call o fr st = opA tb call o fr2 st := by
  unfold opA
  cases o <;> try rfl
  case move x => simp only [h x (by simp [Op.operands])]
  case assign x => simp only [h x (by simp [Op.operands])]
  case pick c x y => simp only [oPick, h c (by simp [Op.operands]), h x (by simp [Op.operands]), h y (by simp [Op.operands])]
  case box e x => simp only [oBox, h x (by simp [Op.operands])]
  case build t ps => simp only [oBuild]; rw [Agree.parts (l := ps.toList) (by simpa [Op.operands] using h)]
  case buildSlice t n ps => simp only [oBuildSlice]; rw [Agree.parts (l := ps.toList) (by simpa [Op.operands] using h)]
  case load t x => simp only [oLoad, h x (by simp [Op.operands])]
  case store t x y => simp only [oStore, h x (by simp [Op.operands]), h y (by simp [Op.operands])]
  case nilCheck x => simp only [h x (by simp [Op.operands])]
  case binOp op t x y _ => simp only [oBin, h x (by simp [Op.operands]), h y (by simp [Op.operands])]
  case unOp op t x => simp only [oUn, h x (by simp [Op.operands])]
  case convert s d x => simp only [oConv, h x (by simp [Op.operands])]
  case makeInterface t x => simp only [oIface, h x (by simp [Op.operands])]
  case makeFunc fn fi ca =>
    simp only [oFunc]
    rw [Agree.opds (l := fi.toList) fun x hx => h x (by simp [Op.operands] at hx ⊢; exact .inl hx), Agree.opds (l := ca.toList) fun x hx => h x (by simp [Op.operands] at hx ⊢; exact .inr hx)]
  case makeMap t r =>
    cases r with
    | none => rfl
    | some x => simp only [oMakeMap, ocase_some, h x (by simp [Op.operands])]
  case makeSlice t l c => simp only [oMakeSlice, h l (by simp [Op.operands]), h c (by simp [Op.operands])]
  case slice t x lo hi mx =>
    simp only [oSlice, h x (by simp [Op.operands])]
    rw [Agree.opdO (o := lo) fun y hy => h y (by simp [Op.operands] at hy ⊢; simp [hy]), Agree.opdO (o := hi) fun y hy => h y (by simp [Op.operands] at hy ⊢; simp [hy]), Agree.opdO (o := mx) fun y hy => h y (by simp [Op.operands] at hy ⊢; simp [hy])]
  case fieldAddr t x f => simp only [oFieldAddr, h x (by simp [Op.operands])]
  case field t x f => simp only [oField, h x (by simp [Op.operands])]
  case indexAddr t x ix => simp only [oIndexAddr, h x (by simp [Op.operands]), h ix (by simp [Op.operands])]
  case index t x ix => simp only [oIndex, h x (by simp [Op.operands]), h ix (by simp [Op.operands])]
  case lookup t x ix ok => simp only [oLookup, h x (by simp [Op.operands]), h ix (by simp [Op.operands])]
  case mapUpdate t m k x => simp only [oMapUpdate, h x (by simp [Op.operands]), h m (by simp [Op.operands]), h k (by simp [Op.operands])]
  case insert t m k x => simp only [oMapUpdate, h x (by simp [Op.operands]), h m (by simp [Op.operands]), h k (by simp [Op.operands])]
  case mapEntry t m k => simp only [oMapEntry, h m (by simp [Op.operands]), h k (by simp [Op.operands])]
  case entryStore t m s x => simp only [oEntryStore, h x (by simp [Op.operands]), h m (by simp [Op.operands]), h s (by simp [Op.operands])]
  case range t x => simp only [h x (by simp [Op.operands])]
  case next it s => simp only [oNext, h it (by simp [Op.operands])]
  case entry it => simp only [oEntry, h it (by simp [Op.operands])]
  case extract t i => simp only [oExtract, h t (by simp [Op.operands])]
  case call c =>
    simp only [oCall]
    rw [Agree.opds (l := c.args.toList) fun x hx => h x (by simp [Op.operands, Call.operands] at hx ⊢; simp [hx])]
    cases hc : c.callee with
    | builtin b => rfl
    | invoke r m => rfl
    | value f => simp only [h f (by simp [Op.operands, Call.operands, hc])]

theorem omap_mem {α β : Type} {f : α → Option β} : ∀ {l : List α} {x : α} {y : β}, x ∈ l → f x = some y → y ∈ omap f l := by
  intro l
  induction l with
  | nil => intro x y hx; cases hx
  | cons a l ih =>
    intro x y hx hf
    show y ∈ ocase (f a) (omap f l) fun z => z :: omap f l
    rcases List.mem_cons.1 hx with e | e
    · subst e; rw [hf]; simp
    · have := ih e hf
      cases f a <;> simp [this]

theorem agree_of {fr fr2 : T V} {l : List Operand} (h : ∀ t ∈ omap tmpOf l, fr.get t = fr2.get t) : Agree fr fr2 l := by
  intro x hx
  cases x with
  | tmp t => exact h t (omap_mem hx rfl)
  | const v => rfl
  | global g => rfl
  | func f => rfl

theorem looks_operand {all : List Oper} {o : Oper} {t : Nat} (h : t ∈ omap tmpOf o.op.operands.toList) : t ∈ looks all o := by
  unfold looks
  cases guardT all o with
  | none => exact h
  | some g => exact List.mem_cons_of_mem _ h

theorem stepA_congr {all : List Oper} {o : Oper} {fr fr2 : T V} (h : ∀ t ∈ looks all o, fr.get t = fr2.get t) : stepA tb call all o fr st = stepA tb call all o fr2 st := by
  unfold stepA
  rw [opA_congr (agree_of fun t ht => h t (looks_operand ht))]
  have : wantedA all o fr = wantedA all o fr2 := by
    unfold wantedA
    cases hg : o.guard with
    | none => rfl
    | some g =>
      show ob (lget all g.1) _ = ob (lget all g.1) _
      cases hq : lget all g.1 with
      | none => rfl
      | some q =>
        show ob q.dst _ = ob q.dst _
        cases hd : q.dst with
        | none => rfl
        | some d =>
          have hgt : guardT all o = some d := by unfold guardT; rw [hg]; show ob (lget all g.1) _ = _; rw [hq]; exact hd
          have : d ∈ looks all o := by unfold looks; rw [hgt]; simp
          show ob (fr.get d) _ = ob (fr2.get d) _
          rw [h d this]
  rw [this]

/-! What leaves memory alone. -/
theorem ret_st {o : Option V} {v : V} (h : ob o (ret st) = some (v, st')) : st' = st := by
  obtain ⟨u, _, h2⟩ := ob_eq h
  cases h2; rfl

theorem leqB_true {a b : List UInt8} (h : leqB a b = true) : a = b := by rw [leqB_eq] at h; simpa using h
theorem beqb_true {a b : Bool} (h : beqb a b = true) : a = b := by rw [beqb_eq] at h; simpa using h
theorem veq1_sound {a b : V} (h : veq1 a b = true) : a = b := by
  cases a <;> cases b <;> first | (cases h; done) | skip
  case bool.bool => rw [beqb_true h]
  case int.int =>
    obtain ⟨h1, h2⟩ := and_true' h
    rw [ieq_eq] at h2
    have h3 := eq_of_beq h2
    rw [keq_eq h1, h3]
  case str.str => rw [leqB_true h]
  case ptr.ptr =>
    obtain ⟨h1, h2⟩ := and_true' h
    rw [beq_true h1, beq_true h2]
  case nilptr.nilptr => rfl
  case sl.sl =>
    obtain ⟨h1, h⟩ := and_true' h
    obtain ⟨h2, h⟩ := and_true' h
    obtain ⟨h3, h⟩ := and_true' h
    obtain ⟨h4, h⟩ := and_true' h
    obtain ⟨h5, h⟩ := and_true' h
    rw [beq_true h1, beq_true h2, beq_true h3, beq_true h4, beqb_true h5, beq_true h]
  case slE.slE => rfl
  case nilsl.nilsl => rfl
  case map.map => rw [beq_true h]
  case nilmap.nilmap => rfl
  case nilFunc.nilFunc => rfl
  case nilIface.nilIface => rfl
theorem vlist_sound : ∀ {a b : List V}, vlist veq1 a b = true → a = b := by
  intro a
  induction a with
  | nil => intro b h; cases b with
    | nil => rfl
    | cons => cases h
  | cons x a ih =>
    intro b h
    cases b with
    | nil => cases h
    | cons y b =>
      have h' : bcase (veq1 x y) (vlist veq1 a b) false = true := h
      obtain ⟨h1, h2⟩ := and_true' h'
      rw [veq1_sound h1, ih h2]
theorem veq_sound {a b : V} (h : veq a b = true) : a = b := by
  unfold veq at h
  split at h
  · split at h
    · rw [vlist_sound h]
    · cases h
  · split at h
    · rw [vlist_sound h]
    · cases h
  · exact veq1_sound h


theorem sort2_pure {o : Op} {fr : T V} {v : V} (hs : sortOf tb o = 2) (h : opA tb call o fr st = some (v, st')) : st' = st ∧ ∀ st2, opA tb call o fr st2 = some (v, st2) := by
  unfold sortOf at hs
  cases o <;> first | (cases hs; done) | skip
  case move x => obtain ⟨h1, h2⟩ := ret_eq h; exact ⟨h2, fun st2 => by simp only [opA, h1, ob_some, ret]⟩
  case assign x => obtain ⟨h1, h2⟩ := ret_eq h; exact ⟨h2, fun st2 => by simp only [opA, h1, ob_some, ret]⟩
  case pick c x y =>
    obtain ⟨u, hu, h1⟩ := ob_eq (o := opd fr c) h
    cases u <;> first | (cases h1; done) | skip
    rename_i b
    cases b with
    | true => obtain ⟨h2, h3⟩ := ret_eq (o := opd fr x) h1; exact ⟨h3, fun st2 => by simp only [opA, oPick, hu, h2, ob_some, ret, bcase_true]⟩
    | false => obtain ⟨h2, h3⟩ := ret_eq (o := opd fr y) h1; exact ⟨h3, fun st2 => by simp only [opA, oPick, hu, h2, ob_some, ret, bcase_false]⟩
  case build t ps =>
    obtain ⟨r, hr, h1⟩ := ob_eq (o := row tb t) h
    obtain ⟨q, hq, h2⟩ := ob_eq (o := partsA fr ps.toList) h1
    obtain ⟨l, hl, h3⟩ := ob_eq h2
    cases h3
    exact ⟨rfl, fun st2 => by simp only [opA, oBuild, hr, hq, hl, ob_some]⟩
  case nilCheck x =>
    obtain ⟨u, hu, h1⟩ := ob_eq (o := opd fr x) h
    unfold nilChk at h1
    cases u <;> first | (cases h1; done) | skip
    case ptr b off => cases h1; exact ⟨rfl, fun st2 => by simp only [opA, hu, ob_some, nilChk]⟩
    case func fn b c =>
      cases fn <;> first | (cases h1; done) | (cases h1; exact ⟨rfl, fun st2 => by simp only [opA, hu, ob_some, nilChk]⟩)
  case binOp op t x y _ =>
    obtain ⟨a, ha, h1⟩ := ob_eq (o := opd fr x) h
    obtain ⟨b, hb, h2⟩ := ob_eq (o := opd fr y) h1
    obtain ⟨h3, h4⟩ := ret_eq h2
    exact ⟨h4, fun st2 => by simp only [opA, oBin, ha, hb, h3, ob_some, ret]⟩
  case unOp op t x =>
    obtain ⟨a, ha, h1⟩ := ob_eq (o := opd fr x) h
    obtain ⟨h3, h4⟩ := ret_eq h1
    exact ⟨h4, fun st2 => by simp only [opA, oUn, ha, h3, ob_some, ret]⟩
  case makeInterface t x =>
    obtain ⟨r, hr, h1⟩ := ob_eq (o := row tb t) h
    obtain ⟨hb, h2⟩ := bcase_none h1
    obtain ⟨a, ha, h3⟩ := ob_eq (o := opd fr x) h2
    cases h3
    exact ⟨rfl, fun st2 => by simp only [opA, oIface, hr, hb, ha, ob_some, bcase_false]⟩
  case makeFunc fn fi ca =>
    obtain ⟨hy, h1⟩ := gd_eq h
    obtain ⟨a, ha, h2⟩ := ob_eq (o := opds fr fi.toList) h1
    obtain ⟨b, hb, h3⟩ := ob_eq (o := opds fr ca.toList) h2
    cases h3
    exact ⟨rfl, fun st2 => by simp only [opA, oFunc, hy, ha, hb, ob_some, gd_true]⟩
  case fieldAddr t x f =>
    obtain ⟨fd, rf, h1, h2⟩ := ob2_eq (o := fieldRow tb t f) h
    cases hsz : rf.size with
    | zero => rw [hsz] at h2; cases h2
    | succ k =>
      rw [hsz] at h2
      obtain ⟨a, ha, h3⟩ := ob_eq (o := opd fr x) h2
      obtain ⟨b, off, rfl, h4⟩ := ptrK_eq h3
      cases h4
      refine ⟨rfl, fun st2 => ?_⟩
      show ob2 (fieldRow tb t f) _ = _
      rw [h1]
      show ncase rf.size none _ = _
      rw [hsz]
      show ob (opd fr x) _ = _
      rw [ha]
      rfl
  case field t x f =>
    obtain ⟨fd, rf, h1, h2⟩ := ob2_eq (o := fieldRow tb t f) h
    obtain ⟨a, ha, h3⟩ := ob_eq (o := opd fr x) h2
    obtain ⟨cs, rfl, h4⟩ := aggK_eq h3
    obtain ⟨h5, h6⟩ := ret_eq h4
    refine ⟨h6, fun st2 => ?_⟩
    show ob2 (fieldRow tb t f) _ = _
    rw [h1]
    show ob (opd fr x) _ = _
    rw [ha]
    show ob (partA rf cs fd.offset) _ = _
    rw [h5]; rfl
  case indexAddr t x ix =>
    obtain ⟨a, ha, h1⟩ := ob_eq (o := opd fr x) h
    obtain ⟨b, hb, h2⟩ := ob_eq (o := opd fr ix) h1
    obtain ⟨i, hi, h3⟩ := ob_eq (o := natOf b) h2
    have key : ∀ st2, opA tb call (.indexAddr t x ix) fr st2 = indexAddrA tb st2 t i a := fun st2 => by simp only [opA, oIndexAddr, ha, hb, hi, ob_some]
    unfold indexAddrA at h3
    cases a <;> first | (cases h3; done) | skip
    case sl b2 off len cap ex sz =>
      obtain ⟨re, hre, h4⟩ := ob_eq (o := slElem tb t) h3
      obtain ⟨h5, h6⟩ := gd_eq h4
      cases h6
      exact ⟨rfl, fun st2 => by rw [key]; simp only [indexAddrA, hre, h5, ob_some, gd_true]⟩
    case ptr b2 off =>
      obtain ⟨n, re, hre, h4⟩ := ob2_eq (o := arrElem tb t) h3
      obtain ⟨h5, h6⟩ := gd_eq h4
      cases h6
      refine ⟨rfl, fun st2 => ?_⟩
      rw [key]
      show ob2 (arrElem tb t) _ = _
      rw [hre]
      show gd (Nat.blt i n) _ = _
      rw [h5]; rfl
  case index t x ix =>
    obtain ⟨a, ha, h1⟩ := ob_eq (o := opd fr x) h
    obtain ⟨b, hb, h2⟩ := ob_eq (o := opd fr ix) h1
    obtain ⟨i, hi, h3⟩ := ob_eq (o := natOf b) h2
    have key : ∀ st2, opA tb call (.index t x ix) fr st2 = indexA tb st2 t i a := fun st2 => by simp only [opA, oIndex, ha, hb, hi, ob_some]
    unfold indexA at h3
    cases a <;> first | (cases h3; done) | skip
    case str s =>
      obtain ⟨r, hr, h4⟩ := ob_eq (o := row tb t) h3
      obtain ⟨h5, h6⟩ := gd_eq h4
      obtain ⟨c, hc, h7⟩ := ob_eq (o := lget s i) h6
      cases h7
      exact ⟨rfl, fun st2 => by rw [key]; simp only [indexA, hr, h5, hc, ob_some, gd_true]⟩
    case agg cs =>
      obtain ⟨n, re, hre, h4⟩ := ob2_eq (o := arrElem tb t) h3
      obtain ⟨h5, h6⟩ := gd_eq h4
      obtain ⟨h7, h8⟩ := ret_eq h6
      refine ⟨h8, fun st2 => ?_⟩
      rw [key]
      show ob2 (arrElem tb t) _ = _
      rw [hre]
      show gd (Nat.blt i n) _ = _
      rw [h5]
      show ob (partA re cs _) _ = _
      rw [h7]; rfl
  case extract t i =>
    obtain ⟨a, ha, h1⟩ := ob_eq (o := opd fr t) h
    cases a <;> first | (cases h1; done) | skip
    rename_i l
    obtain ⟨h2, h3⟩ := ret_eq (o := lget l i) h1
    refine ⟨h3, fun st2 => ?_⟩
    show ob (opd fr t) _ = _
    rw [ha]
    show ob (lget l i) _ = _
    rw [h2]; rfl
  case convert s d x =>
    exfalso
    dsimp only at hs
    cases hr : row tb d with
    | none => rw [hr] at hs; cases hs
    | some r =>
      rw [hr] at hs
      cases he : elemSl r.desc with
      | none => simp only [ocase_some] at hs; rw [he] at hs; cases hs
      | some e => simp only [ocase_some] at hs; rw [he] at hs; cases hs
  case call c =>
    exfalso
    dsimp only at hs
    cases hc : c.callee with
    | builtin b => rw [hc] at hs; cases b <;> cases hs
    | value f => rw [hc] at hs; cases hs
    | invoke r m => rw [hc] at hs; cases hs

theorem getMap_some {x : V} {f : Nat → List Ent → Option (V × St)} {p : V × St} (h : getMap st x f = some p) : ∃ c es, f c es = some p := by
  unfold getMap at h
  cases x <;> first | (cases h; done) | skip
  case nilmap => exact ⟨0, [], h⟩
  case map b =>
    obtain ⟨k, _, h1⟩ := ob_eq h
    unfold blkMapU at h1
    cases k <;> first | (cases h1; done) | skip
    · exact ⟨_, _, h1⟩
    · exact ⟨0, _, (gd_eq h1).2⟩

theorem sort1_st {o : Op} {fr : T V} {v : V} (hs : sortOf tb o = 1) (h : opA tb call o fr st = some (v, st')) : st' = st := by
  unfold sortOf at hs
  cases o <;> first | (cases hs; done) | skip
  case slice t x lo hi mx =>
    obtain ⟨_, h⟩ := gd_eq h
    obtain ⟨_, _, h⟩ := ob_eq h
    obtain ⟨_, _, h⟩ := ob_eq h
    obtain ⟨_, _, h⟩ := ob_eq h
    obtain ⟨_, _, h⟩ := ob_eq h
    exact ret_st h
  case load t x =>
    obtain ⟨_, _, h⟩ := ob_eq h
    obtain ⟨_, _, h⟩ := ob_eq h
    exact ret_st h
  case lookup t x ix ok =>
    obtain ⟨_, _, _, h⟩ := ob2_eq h
    obtain ⟨_, _, h⟩ := ob_eq h
    obtain ⟨_, _, h⟩ := ob_eq h
    obtain ⟨_, h⟩ := gd_eq h
    obtain ⟨c, es, h⟩ := getMap_some h
    obtain ⟨f, _, h⟩ := ob_eq h
    cases f <;> (cases h; rfl)
  case convert s d x =>
    dsimp only at hs
    obtain ⟨rs, _, h⟩ := ob_eq h
    obtain ⟨rd, hrd, h⟩ := ob_eq (o := row tb d) h
    obtain ⟨u, _, h⟩ := ob_eq h
    rw [hrd] at hs
    simp only [ocase_some] at hs
    unfold convA at h
    split at h
    · obtain ⟨_, _, _, h⟩ := intK_eq h; cases h; rfl
    · rename_i e hd; rw [hd] at hs; cases hs
    · unfold convString at h
      split at h
      · cases h; rfl
      · obtain ⟨_, _, h⟩ := ob_eq h
        obtain ⟨_, _, h⟩ := ob_eq h
        obtain ⟨_, h⟩ := gd_eq h
        unfold convBytes at h
        split at h
        · cases h; rfl
        · cases h; rfl
        · obtain ⟨_, _, h⟩ := ob_eq h
          obtain ⟨_, _, h⟩ := ob_eq h
          cases h; rfl
        · cases h
    · cases h
  case call c =>
    dsimp only at hs
    obtain ⟨args, _, h⟩ := ob_eq h
    cases hc : c.callee with
    | value f => rw [hc] at hs; cases hs
    | invoke r m => rw [hc] at hs; cases hs
    | builtin b =>
      rw [hc] at hs h
      have a1 : ∀ {f : V → Option (V × St)} {y : V × St}, arg1 args f = some y → ∃ x, f x = some y := by
        intro f y hy
        cases args with
        | nil => cases hy
        | cons x l => cases l with
          | nil => exact ⟨x, hy⟩
          | cons => cases hy
      cases b <;> first | (cases hs; done) | skip
      case len =>
        obtain ⟨x, h⟩ := a1 h
        obtain ⟨_, _, h⟩ := ob_eq h
        obtain ⟨r, _, h⟩ := ob_eq h
        unfold lenA at h
        split at h
        · obtain ⟨_, _, h⟩ := getMap_some h; cases h; rfl
        · obtain ⟨_, h⟩ := gd_eq h
          obtain ⟨_, _, h⟩ := ob_eq h
          cases h; rfl
        · obtain ⟨_, _, h⟩ := ob_eq h
          cases h; rfl
        · obtain ⟨_, _, _, h⟩ := ob2_eq h
          cases h; rfl
      case cap =>
        obtain ⟨x, h⟩ := a1 h
        obtain ⟨_, _, h⟩ := ob_eq h
        obtain ⟨r, _, h⟩ := ob_eq h
        obtain ⟨_, _, h⟩ := ob_eq h
        unfold capA at h
        split at h
        · obtain ⟨_, h⟩ := gd_eq h; cases h; rfl
        · cases h; rfl
        · cases h
      case max => exact ret_st h
      case min => exact ret_st h

end Go.Ab

namespace Go.Ab
open Go

/-! Which operations are sure to come ahead. -/
theorem bit_eq (m j : Nat) : bit m j = m.testBit j := by
  have h : bit m j = Nat.beq ((m >>> j) % 2) 1 := rfl
  rw [h, Nat.testBit_eq_decide_div_mod_eq, Nat.shiftRight_eq_div_pow]
  by_cases e : m / 2 ^ j % 2 = 1
  · simp [e]
  · rw [beq_false e]; simp [e]
theorem bit_lor (a b j : Nat) : bit (Nat.lor a b) j = (bit a j || bit b j) := by
  rw [bit_eq, bit_eq, bit_eq]
  exact Nat.testBit_or a b j
theorem bit_one (e j : Nat) (h : bit (Nat.shiftLeft 1 e) j = true) : e = j := by
  rw [bit_eq] at h
  have : Nat.shiftLeft 1 e = 2 ^ e := Nat.one_shiftLeft e
  rw [this, Nat.testBit_two_pow] at h
  simpa using h
theorem bit_zero (j : Nat) : bit 0 j = false := by rw [bit_eq]; simp

noncomputable def mget (ms : T Nat) (i : Nat) : Nat := ocase (ms.get i) 0 fun x => x

theorem edges_bit {ms : T Nat} {j : Nat} : ∀ {l : List Edge}, bit (edges ms l) j = true → ∃ e ∈ l, anyEdge e.ground = true ∧ (e.on = j ∨ bit (mget ms e.on) j = true) := by
  intro l
  induction l with
  | nil => intro h; have : bit 0 j = true := h; rw [bit_zero] at this; cases this
  | cons e l ih =>
    intro h
    have h' : bit (bcase (anyEdge e.ground) (Nat.lor (Nat.lor (edges ms l) (Nat.shiftLeft 1 e.on)) (mget ms e.on)) (edges ms l)) j = true := h
    rw [bcase_eq] at h'
    by_cases ha : anyEdge e.ground = true
    · rw [if_pos ha, bit_lor, bit_lor] at h'
      simp only [Bool.or_eq_true] at h'
      rcases h' with (h1 | h1) | h1
      · obtain ⟨e2, g1, g2⟩ := ih h1; exact ⟨e2, List.mem_cons_of_mem _ g1, g2⟩
      · exact ⟨e, List.mem_cons_self, ha, .inl (bit_one _ _ h1)⟩
      · exact ⟨e, List.mem_cons_self, ha, .inr h1⟩
    · rw [if_neg ha] at h'
      obtain ⟨e2, g1, g2⟩ := ih h'; exact ⟨e2, List.mem_cons_of_mem _ g1, g2⟩
theorem edges_congr {ms ms2 : T Nat} : ∀ {l : List Edge}, (∀ e ∈ l, anyEdge e.ground = true → ms.get e.on = ms2.get e.on) → edges ms l = edges ms2 l := by
  intro l
  induction l with
  | nil => intro _; rfl
  | cons e l ih =>
    intro h
    show addEdge ms e (edges ms l) = addEdge ms2 e (edges ms2 l)
    rw [ih fun e2 he2 => h e2 (List.mem_cons_of_mem _ he2)]
    unfold addEdge
    rw [bcase_eq, bcase_eq]
    by_cases ha : anyEdge e.ground = true
    · rw [if_pos ha, if_pos ha, h e List.mem_cons_self ha]
    · rw [if_neg ha, if_neg ha]

theorem backE_eq {i : Nat} : ∀ {l : List Edge}, backE i l = true → ∀ e ∈ l, anyEdge e.ground = true → e.on < i := by
  intro l
  induction l with
  | nil => intro _ e he; cases he
  | cons e l ih =>
    intro h
    obtain ⟨h1, h2⟩ := and_true' (p := bcase (anyEdge e.ground) (Nat.blt e.on i) true) (q := backE i l) h
    intro e2 he2 ha
    rcases List.mem_cons.1 he2 with e1 | e1
    · subst e1
      rw [ha] at h1
      exact blt_true h1
    · exact ih h2 e2 e1 ha
theorem backs_eq : ∀ {l : List Oper} {i : Nat}, backs l i = true → ∀ q o, l[q]? = some o → ∀ e ∈ o.after.toList, anyEdge e.ground = true → e.on < i + q := by
  intro l
  induction l with
  | nil => intro i _ q o h; simp at h
  | cons o l ih =>
    intro i h q o2 hq
    obtain ⟨h1, h2⟩ := and_true' (p := backE i o.after.toList) (q := backs l (i + 1)) h
    cases q with
    | zero => simp at hq; subst hq; exact backE_eq h1
    | succ q => simp at hq; intro e he ha; have := ih h2 q o2 hq e he ha; omega

theorem masks_spec : ∀ (l : List Oper) (i : Nat) (t : T Nat), backs l i = true → (∀ j, j < i → (masks l i t).get j = t.get j) ∧ ∀ q o, l[q]? = some o → (masks l i t).get (i + q) = some (edges (masks l i t) o.after.toList) := by
  intro l
  induction l with
  | nil => intro i t _; exact ⟨fun _ _ => rfl, fun q o h => by simp at h⟩
  | cons o l ih =>
    intro i t h
    have hb := backs_eq h
    obtain ⟨h1, h2⟩ := and_true' (p := backE i o.after.toList) (q := backs l (i + 1)) h
    obtain ⟨g1, g2⟩ := ih (i + 1) (t.put i (edges t o.after.toList)) h2
    have hm : masks (o :: l) i t = masks l (i + 1) (t.put i (edges t o.after.toList)) := rfl
    rw [hm]
    have hlow : ∀ j, j < i → (masks l (i + 1) (t.put i (edges t o.after.toList))).get j = t.get j := by
      intro j hj
      rw [g1 j (by omega), T.get_put, if_neg (by omega)]
    refine ⟨hlow, fun q o2 hq => ?_⟩
    cases q with
    | zero =>
      simp at hq; subst hq
      show (masks l (i + 1) (t.put i (edges t o.after.toList))).get i = _
      rw [g1 i (by omega), T.get_put_self]
      congr 1
      exact (edges_congr fun e he ha => (hlow e.on (backE_eq h1 e he ha))).symm
    | succ q =>
      simp at hq
      have := g2 q o2 hq
      rw [show i + (q + 1) = i + 1 + q by omega]
      exact this

/-- sure ahead. -/
noncomputable def Bf (all : List Oper) (i j : Nat) : Bool := bit (mget (masks all 0 .nil) i) j

theorem Bf_edge {all : List Oper} (hb : backs all 0 = true) {i j : Nat} {o : Oper} (ho : all[i]? = some o) (h : Bf all i j = true) :
    ∃ e ∈ o.after.toList, anyEdge e.ground = true ∧ e.on < i ∧ (e.on = j ∨ Bf all e.on j = true) := by
  have h1 := (masks_spec all 0 .nil hb).2 i o ho
  rw [Nat.zero_add] at h1
  unfold Bf mget at h
  rw [h1] at h
  obtain ⟨e, g1, g2, g3⟩ := edges_bit h
  have := backs_eq hb i o ho e g1 g2
  exact ⟨e, g1, g2, by omega, g3⟩
theorem Bf_none {all : List Oper} {i j : Nat} (ho : all[i]? = none) : Bf all i j = false := by
  have hl : all.length ≤ i := by simpa using ho
  have : ∀ (l : List Oper) (k : Nat) (t : T Nat), (∀ j, k ≤ j → t.get j = none) → ∀ j, k + l.length ≤ j → (masks l k t).get j = none := by
    intro l
    induction l with
    | nil => intro k t h j hj; exact h j hj
    | cons o l ih =>
      intro k t h j hj
      simp at hj
      exact ih (k + 1) (t.put k (edges t o.after.toList)) (fun j hj => by rw [T.get_put, if_neg (by omega)]; exact h j (by omega)) j (by omega)
  have h1 := this all 0 .nil (fun _ _ => rfl) i (by omega)
  unfold Bf mget
  rw [h1]
  exact bit_zero j
theorem Bf_lt {all : List Oper} (hb : backs all 0 = true) : ∀ {i j : Nat}, Bf all i j = true → j < i := by
  intro i
  induction i using Nat.strongRecOn with
  | _ i ih =>
    intro j h
    cases ho : all[i]? with
    | none => rw [Bf_none ho] at h; cases h
    | some o =>
      obtain ⟨e, _, _, h1, h2⟩ := Bf_edge hb ho h
      rcases h2 with h2 | h2
      · omega
      · have := ih e.on h1 h2; omega

/-- what was listed is closed. -/
def Closed (all : List Oper) (L : Nat → Bool) : Prop := ∀ i j, L i = true → Bf all i j = true → L j = true

theorem chain_down {all : List Oper} {L : Nat → Bool} (hL : Closed all L) : ∀ {l : List Nat} {a : Nat}, chainE (masks all 0 .nil) (a :: l) = true → ∀ x ∈ l, L x = true → L a = true := by
  intro l
  induction l with
  | nil => intro a _ x hx; cases hx
  | cons b l ih =>
    intro a h x hx hlx
    obtain ⟨h1, h2⟩ := and_true' (p := bit (mget (masks all 0 .nil) b) a) (q := chainE (masks all 0 .nil) (b :: l)) h
    rcases List.mem_cons.1 hx with e | e
    · subst e; exact hL _ _ hlx h1
    · exact hL _ _ (ih h2 x e hlx) h1
theorem chain_pw {all : List Oper} {L : Nat → Bool} (hL : Closed all L) : ∀ {l : List Nat}, l.Pairwise (· < ·) → chainE (masks all 0 .nil) l = true → ∀ a ∈ l, ∀ b ∈ l, a < b → L b = true → L a = true := by
  intro l
  induction l with
  | nil => intro _ _ a ha; cases ha
  | cons x l ih =>
    intro hs hc a ha b hb hab hLb
    obtain ⟨h1, h2⟩ := List.pairwise_cons.1 hs
    rcases List.mem_cons.1 ha with e | e
    · subst e
      rcases List.mem_cons.1 hb with e2 | e2
      · omega
      · exact chain_down hL hc b e2 hLb
    · rcases List.mem_cons.1 hb with e2 | e2
      · subst e2; have := h1 a e; omega
      · have hc' : chainE (masks all 0 .nil) l = true := by
          cases l with
          | nil => rfl
          | cons y l => exact (and_true' (p := bit (mget (masks all 0 .nil) y) x) (q := chainE (masks all 0 .nil) (y :: l)) hc).2
        exact ih h2 hc' a e b e2 hab hLb

theorem actors_mem {tb : Tab} : ∀ {l : List Oper} {i e : Nat}, e ∈ actors tb l i ↔ ∃ q o, l[q]? = some o ∧ e = i + q ∧ sortOf tb o.op = 0 := by
  intro l
  induction l with
  | nil => intro i e; constructor
           · intro h; cases h
           · rintro ⟨q, o, h, _⟩; simp at h
  | cons o l ih =>
    intro i e
    have hd : actors tb (o :: l) i = bcase (Nat.beq (sortOf tb o.op) 0) (i :: actors tb l (i + 1)) (actors tb l (i + 1)) := rfl
    rw [hd, bcase_eq]
    by_cases hs : Nat.beq (sortOf tb o.op) 0 = true
    · rw [if_pos hs]
      constructor
      · intro h
        rcases List.mem_cons.1 h with h | h
        · exact ⟨0, o, by simp, by omega, beq_true hs⟩
        · obtain ⟨q, o2, g1, g2, g3⟩ := ih.1 h
          exact ⟨q + 1, o2, by simpa using g1, by omega, g3⟩
      · rintro ⟨q, o2, g1, g2, g3⟩
        cases q with
        | zero => simp at g2; subst g2; exact List.mem_cons_self
        | succ q => exact List.mem_cons_of_mem _ (ih.2 ⟨q, o2, by simpa using g1, by omega, g3⟩)
    · rw [if_neg hs]
      constructor
      · intro h
        obtain ⟨q, o2, g1, g2, g3⟩ := ih.1 h
        exact ⟨q + 1, o2, by simpa using g1, by omega, g3⟩
      · rintro ⟨q, o2, g1, g2, g3⟩
        cases q with
        | zero => simp at g1; subst g1; rw [g3] at hs; exact absurd rfl hs
        | succ q => exact ih.2 ⟨q, o2, by simpa using g1, by omega, g3⟩
theorem actors_sorted {tb : Tab} : ∀ {l : List Oper} {i : Nat}, (actors tb l i).Pairwise (· < ·) := by
  intro l
  induction l with
  | nil => intro i; exact List.Pairwise.nil
  | cons o l ih =>
    intro i
    have hd : actors tb (o :: l) i = bcase (Nat.beq (sortOf tb o.op) 0) (i :: actors tb l (i + 1)) (actors tb l (i + 1)) := rfl
    rw [hd, bcase_eq]
    split
    · refine List.pairwise_cons.2 ⟨fun e he => ?_, ih⟩
      obtain ⟨q, _, _, h, _⟩ := actors_mem.1 he
      omega
    · exact ih
theorem countB_eq (m : Nat) : ∀ (es : List Nat), countB m es = es.countP fun e => bit m e := by
  intro es
  induction es with
  | nil => rfl
  | cons e es ih =>
    show bcase (bit m e) (Nat.succ (countB m es)) (countB m es) = _
    rw [bcase_eq, List.countP_cons, ih]
    split <;> simp_all
theorem countH_eq (ms : T Nat) (i : Nat) : ∀ (es : List Nat), countH ms i es = es.countP fun e => !bit (mget ms e) i := by
  intro es
  induction es with
  | nil => rfl
  | cons e es ih =>
    show bcase (bit (mget ms e) i) (countH ms i es) (Nat.succ (countH ms i es)) = _
    rw [bcase_eq, List.countP_cons, ih]
    split <;> simp_all
theorem plan_get {tb : Tab} {ms : T Nat} {es : List Nat} : ∀ (l : List Oper) (i : Nat), (plan tb ms es l i).length = l.length ∧ ∀ q, (plan tb ms es l i)[q]? = (l[q]?).map fun o => planItem tb ms es o (i + q) := by
  intro l
  induction l with
  | nil => intro i; exact ⟨rfl, fun q => by simp [plan]⟩
  | cons o l ih =>
    intro i
    obtain ⟨h1, h2⟩ := ih (i + 1)
    have hd : plan tb ms es (o :: l) i = planItem tb ms es o i :: plan tb ms es l (i + 1) := rfl
    rw [hd]
    refine ⟨by simp [h1], fun q => ?_⟩
    cases q with
    | zero => simp
    | succ q => simp [h2, show i + 1 + q = i + (q + 1) by omega]
theorem plan_count {tb : Tab} {ms : T Nat} {es : List Nat} : ∀ (l : List Oper) (i q : Nat), ((plan tb ms es l i).take q).countP (·.act) = (actors tb l i).countP fun e => decide (e < i + q) := by
  intro l
  induction l with
  | nil => intro i q; simp [plan, actors]
  | cons o l ih =>
    intro i q
    have hd : plan tb ms es (o :: l) i = planItem tb ms es o i :: plan tb ms es l (i + 1) := rfl
    have hd2 : actors tb (o :: l) i = bcase (Nat.beq (sortOf tb o.op) 0) (i :: actors tb l (i + 1)) (actors tb l (i + 1)) := rfl
    rw [hd, hd2]
    cases q with
    | zero =>
      simp only [List.take_zero, List.countP_nil, Nat.add_zero]
      symm
      rw [List.countP_eq_zero]
      intro e he
      have : i ≤ e := by
        rw [bcase_eq] at he
        split at he
        · rcases List.mem_cons.1 he with h | h
          · omega
          · obtain ⟨q, _, _, h, _⟩ := actors_mem.1 h; omega
        · obtain ⟨q, _, _, h, _⟩ := actors_mem.1 he; omega
      simp; omega
    | succ q =>
      rw [List.take_succ_cons, List.countP_cons, ih (i + 1) q, bcase_eq]
      have hact : (planItem tb ms es o i).act = Nat.beq (sortOf tb o.op) 0 := rfl
      rw [hact]
      have hfun : (fun e => decide (e < i + 1 + q)) = fun e => decide (e < i + (q + 1)) := by funext e; congr 1; apply propext; omega
      rw [hfun]
      by_cases hs : Nat.beq (sortOf tb o.op) 0 = true
      · rw [if_pos hs, if_pos hs, List.countP_cons]
        simp
      · rw [if_neg hs, if_neg hs]; simp

end Go.Ab

namespace Go.Ab
open Go
variable {P : Program} {tb : Tab} {call : CallF}

/-! The run in the order of the text, and what each order comes to. -/
theorem get_putT (fr : T V) (d : Option Tmp) (v : V) (x : Nat) : (putT fr d v).get x = if d = some x then some v else fr.get x := by
  cases d with
  | none => simp [putT]
  | some t =>
    show (fr.put t v).get x = _
    rw [T.get_put]
    by_cases e : x = t
    · subst e; simp
    · rw [if_neg e, if_neg (by simp; exact fun h => e h.symm)]

structure Trace (tb : Tab) (call : CallF) (all : List Oper) (l : List PIt) (fr : T V) (st : St) (fr' : T V) (st' : St) (ss' : List St) (c : Nat) (rs' : List Seen) (F : Nat → T V) (S : Nat → St) (W : Nat → V) : Prop where
  f0 : F 0 = fr
  s0 : S 0 = st
  fN : F l.length = fr'
  sN : S l.length = st'
  step : ∀ i p, l[i]? = some p → ∃ st2, stepA tb call all p.o (F i) (S i) = some (W i, st2) ∧ F (i + 1) = putT (F i) p.o.dst (W i) ∧ S (i + 1) = (if p.act = true then st2 else S i)
  ss : ∀ i, i ≤ l.length → ss'[c + (l.take i).countP (·.act)]? = some (S i)
  seen : ∀ i p, l[i]? = some p → p.act = false → p.reads = true → p.lo < p.hi → ⟨p.o, F i, W i, p.lo, p.hi⟩ ∈ rs'

theorem runD_trace {all : List Oper} : ∀ (l : List PIt) (fr : T V) (st : St) (ss : List St) (rs : List Seen) (fr' : T V) (st' : St) (ss' : List St) (rs' : List Seen) (c : Nat), runD tb call all l fr st ss rs = some (fr', st', ss', rs') →
    ss.length = c + 1 → ss[c]? = some st → (∃ tl, ss' = ss ++ tl) ∧ (∀ s ∈ rs, s ∈ rs') ∧ ∃ F S W, Trace tb call all l fr st fr' st' ss' c rs' F S W := by
  intro l
  induction l with
  | nil =>
    intro fr st ss rs fr' st' ss' rs' c h hl hs
    cases h
    exact ⟨⟨[], by simp⟩, fun s hs => hs, fun _ => fr, fun _ => st, fun _ => .nilsl, rfl, rfl, rfl, rfl, fun i p hp => by simp at hp, fun i hi => by simpa using hs, fun i p hp => by simp at hp⟩
  | cons p l ih =>
    intro fr st ss rs fr' st' ss' rs' c h hl hs
    obtain ⟨v, st2, h1, h2⟩ := ob2_eq (o := stepA tb call all p.o fr st) h
    -- the three ways on
    have key : ∀ (st3 : St) (ss3 : List St) (rs3 : List Seen) (c3 : Nat), runD tb call all l (putT fr p.o.dst v) st3 ss3 rs3 = some (fr', st', ss', rs') → ss3.length = c3 + 1 → ss3[c3]? = some st3 →
        st3 = (if p.act = true then st2 else st) → (∃ tl, ss3 = ss ++ tl) → (c3 = c + if p.act = true then 1 else 0) → (∀ s ∈ rs, s ∈ rs3) → (p.act = false → p.reads = true → p.lo < p.hi → ⟨p.o, fr, v, p.lo, p.hi⟩ ∈ rs3) →
        (∃ tl, ss' = ss ++ tl) ∧ (∀ s ∈ rs, s ∈ rs') ∧ ∃ F S W, Trace tb call all (p :: l) fr st fr' st' ss' c rs' F S W := by
      intro st3 ss3 rs3 c3 hr hl3 hs3 hst hss hc hrs hseen
      obtain ⟨⟨tl, htl⟩, g2, F, S, W, g⟩ := ih (putT fr p.o.dst v) st3 ss3 rs3 fr' st' ss' rs' c3 hr hl3 hs3
      obtain ⟨tl2, htl2⟩ := hss
      refine ⟨⟨tl2 ++ tl, by rw [htl, htl2, List.append_assoc]⟩, fun s hs => g2 s (hrs s hs), fun i => Nat.casesOn i fr F, fun i => Nat.casesOn i st S, fun i => Nat.casesOn i v W, rfl, rfl, g.fN, g.sN, ?_, ?_, ?_⟩
      · intro i q hq
        cases i with
        | zero =>
          simp at hq; subst hq
          exact ⟨st2, h1, g.f0, g.s0.trans hst⟩
        | succ i => simp at hq; exact g.step i q hq
      · intro i hi
        cases i with
        | zero =>
          simp only [List.take_zero, List.countP_nil, Nat.add_zero]
          rw [htl, htl2, List.append_assoc, List.getElem?_append_left (by omega)]
          exact hs
        | succ i =>
          rw [List.take_succ_cons, List.countP_cons]
          have := g.ss i (by simpa using hi)
          rw [hc] at this
          rw [← this]
          congr 1
          omega
      · intro i q hq ha hr hlt
        cases i with
        | zero => simp at hq; subst hq; exact g2 _ (hseen ha hr hlt)
        | succ i => simp at hq; exact g.seen i q hq ha hr hlt
    rw [bcase_eq] at h2
    by_cases ha : p.act = true
    · rw [if_pos ha, app_eq] at h2
      exact key st2 (ss ++ [st2]) rs (c + 1) h2 (by simp [hl]) (by rw [List.getElem?_append_right (by omega)]; simp [hl]) (by rw [if_pos ha]) ⟨[st2], rfl⟩ (by rw [if_pos ha]) (fun s hs => hs) (fun e => by rw [ha] at e; cases e)
    · rw [if_neg ha, bcase_eq] at h2
      by_cases hb : bcase p.reads (Nat.blt p.lo p.hi) false = true
      · rw [if_pos hb] at h2
        exact key st ss _ c h2 hl hs (by rw [if_neg ha]) ⟨[], by simp⟩ (by rw [if_neg ha]; rfl) (fun s hs => List.mem_cons_of_mem _ hs) (fun _ _ _ => List.mem_cons_self)
      · rw [if_neg hb] at h2
        exact key st ss rs c h2 hl hs (by rw [if_neg ha]) ⟨[], by simp⟩ (by rw [if_neg ha]; rfl) (fun s hs => hs) (fun _ h3 h4 => by
          exfalso; apply hb; rw [h3, bcase_true, Nat.blt_eq]; exact h4)

/-- the frame of what was listed. -/
noncomputable def FL (all : List Oper) (W : Nat → V) (fr : T V) (L : Nat → Bool) : Nat → T V
  | 0 => fr
  | i + 1 => if L i = true then putT (FL all W fr L i) ((all[i]?).bind (·.dst)) (W i) else FL all W fr L i

def dstAt (all : List Oper) (i : Nat) : Option Tmp := (all[i]?).bind (·.dst)

section
variable {all : List Oper} {W : Nat → V} {fr : T V} {L : Nat → Bool}
theorem FL_succ (i : Nat) : FL all W fr L (i + 1) = if L i = true then putT (FL all W fr L i) (dstAt all i) (W i) else FL all W fr L i := rfl
theorem FL_above {i x : Nat} : ∀ m, i ≤ m → (∀ j, i ≤ j → j < m → L j = true → dstAt all j ≠ some x) → (FL all W fr L m).get x = (FL all W fr L i).get x := by
  intro m
  induction m with
  | zero => intro hi _; have : i = 0 := by omega
            subst this; rfl
  | succ m ih =>
    intro hi h
    by_cases e : i = m + 1
    · subst e; rfl
    · have := ih (by omega) fun j h1 h2 => h j h1 (by omega)
      rw [FL_succ]
      by_cases hl : L m = true
      · rw [if_pos hl, get_putT, if_neg (h m (by omega) (by omega) hl), this]
      · rw [if_neg hl, this]
theorem FL_below {F : Nat → T V} (hF0 : F 0 = fr) (hF : ∀ i, i < all.length → F (i + 1) = putT (F i) (dstAt all i) (W i)) {x : Nat} : ∀ i, i ≤ all.length → (∀ j, j < i → dstAt all j = some x → L j = true) → (FL all W fr L i).get x = (F i).get x := by
  intro i
  induction i with
  | zero => intro _ _; rw [hF0]; rfl
  | succ i ih =>
    intro hi h
    have := ih (by omega) fun j h1 h2 => h j (by omega) h2
    rw [FL_succ, hF i (by omega)]
    by_cases hl : L i = true
    · rw [if_pos hl, get_putT, get_putT, this]
    · rw [if_neg hl, get_putT, if_neg (fun e => hl (h i (by omega) e)), this]
theorem FL_all {F : Nat → T V} (hF0 : F 0 = fr) (hF : ∀ i, i < all.length → F (i + 1) = putT (F i) (dstAt all i) (W i)) : ∀ i, i ≤ all.length → (∀ j, j < i → L j = true) → FL all W fr L i = F i := by
  intro i
  induction i with
  | zero => intro _ _; rw [hF0]; rfl
  | succ i ih =>
    intro hi h
    rw [FL_succ, if_pos (h i (by omega)), ih (by omega) fun j hj => h j (by omega), hF i (by omega)]
theorem FL_add {L2 : Nat → Bool} {i : Nat} (hi : L i = false) (h2 : ∀ j, L2 j = (L j || decide (j = i))) (x : Nat) : ∀ m, i < m → (∀ j, i < j → j < m → L j = true → dstAt all i = some x → dstAt all j ≠ some x) →
    (FL all W fr L2 m).get x = (putT (FL all W fr L m) (dstAt all i) (W i)).get x := by
  have hsame : ∀ m, m ≤ i → FL all W fr L2 m = FL all W fr L m := by
    intro m
    induction m with
    | zero => intro _; rfl
    | succ m ih =>
      intro hm
      rw [FL_succ, FL_succ, h2 m, ih (by omega)]
      have : decide (m = i) = false := by simp; omega
      rw [this, Bool.or_false]
  intro m
  induction m with
  | zero => intro h; omega
  | succ m ih =>
    intro him h
    rw [get_putT]
    by_cases e : i = m
    · subst e
      rw [FL_succ, FL_succ, h2 i]
      simp only [decide_true, Bool.or_true, if_true, hi, Bool.false_eq_true, if_false]
      rw [get_putT, hsame i (Nat.le_refl _)]
    · have hlt : i < m := by omega
      have ih' := ih hlt fun j h1 h2 => h j h1 (by omega)
      rw [get_putT] at ih'
      rw [FL_succ, FL_succ, h2 m]
      have hd : decide (m = i) = false := by simp; omega
      rw [hd, Bool.or_false]
      by_cases hl : L m = true
      · rw [if_pos hl, if_pos hl, get_putT, get_putT]
        by_cases hx : dstAt all i = some x
        · rw [if_pos hx, if_neg (h m hlt (by omega) hl hx)]
          rw [ih', if_pos hx]
        · rw [if_neg hx]
          rw [if_neg hx] at ih'
          rw [ih']
      · rw [if_neg hl, if_neg hl, ih']
end

theorem agreeAll_eq {all : List Oper} {o : Oper} {m : Nat} : ∀ {l : List Oper} {k : Nat}, agreeAll all o m l k = true → ∀ q p, l[q]? = some p → bit m (k + q) = true ∨ agreeT all o p = true := by
  intro l
  induction l with
  | nil => intro k _ q p h; simp at h
  | cons p l ih =>
    intro k h q p2 hq
    obtain ⟨h1, h2⟩ := and_true' (p := bcase (bit m k) true (agreeT all o p)) (q := agreeAll all o m l (k + 1)) h
    cases q with
    | zero =>
      simp at hq; subst hq
      rw [bcase_eq] at h1
      by_cases hb : bit m k = true
      · exact .inl hb
      · rw [if_neg hb] at h1; exact .inr h1
    | succ q =>
      simp at hq
      have := ih h2 q p2 hq
      rw [show k + (q + 1) = k + 1 + q by omega]
      exact this
theorem allAgree_eq {all : List Oper} {ms : T Nat} : ∀ {l : List Oper} {k : Nat}, (∀ q, l[q]? = all[k + q]?) → allAgree all ms l k = true → ∀ i j o p, l[i]? = some o → j < k + i → all[j]? = some p → bit (mget ms (k + i)) j = true ∨ agreeT all o p = true := by
  intro l
  induction l with
  | nil => intro k _ _ i j o p h; simp at h
  | cons o l ih =>
    intro k hk h i j o2 p hi hj hp
    obtain ⟨h1, h2⟩ := and_true' (p := agreeAll all o (mget ms k) (ocase (ltake k all) [] fun x => x) 0) (q := allAgree all ms l (k + 1)) h
    cases i with
    | zero =>
      simp at hi; subst hi
      have hkl : k ≤ all.length := by
        have := hk 0
        simp at this
        have := (List.getElem?_eq_some_iff.1 this.symm).1
        omega
      have ht : ltake k all = some (all.take k) := by
        have : ∀ (k : Nat) (l : List Oper), k ≤ l.length → ltake k l = some (l.take k) := by
          intro k
          induction k with
          | zero => intro l _; rfl
          | succ k ih =>
            intro l hl
            cases l with
            | nil => simp at hl
            | cons x l =>
              show ob (ltake k l) (fun r => some (x :: r)) = _
              rw [ih l (by simpa using hl)]
              rfl
        exact this k all hkl
      rw [ht] at h1
      have := agreeAll_eq h1 j p (by rw [ocase_some, List.getElem?_take, if_pos (by omega)]; exact hp)
      simpa using this
    | succ i =>
      simp at hi
      have := ih (k := k + 1) (fun q => by have := hk (q + 1); simp at this; rw [show k + 1 + q = k + (q + 1) by omega]; exact this) h2 i j o2 p hi (by omega) hp
      rw [show k + (i + 1) = k + 1 + i by omega]
      exact this

theorem memN_mem {n : Nat} {l : List Nat} : memN n l = true ↔ n ∈ l := by rw [memN_eq]; simp
/-- what agreeing means. -/
theorem agreeT_eq {all : List Oper} {o p : Oper} (h : agreeT all o p = true) : (∀ t, p.dst = some t → t ∉ looks all o ∧ o.dst ≠ some t) ∧ (∀ t, o.dst = some t → t ∉ looks all p) := by
  obtain ⟨h1, h2⟩ := and_true' (p := ocase p.dst true fun t => bnot (bcase (memN t (looks all o)) true (ocase o.dst false fun u => Nat.beq u t))) (q := ocase o.dst true fun t => bnot (memN t (looks all p))) h
  refine ⟨fun t ht => ?_, fun t ht => ?_⟩
  · rw [ht, ocase_some, bnot_eq, bcase_eq] at h1
    by_cases hm : memN t (looks all o) = true
    · rw [if_pos hm] at h1; cases h1
    · rw [if_neg hm] at h1
      refine ⟨fun hh => hm (memN_mem.2 hh), fun hd => ?_⟩
      rw [hd, ocase_some] at h1
      simp at h1
  · rw [ht, ocase_some, bnot_eq] at h2
    intro hh
    rw [memN_mem.2 hh] at h2
    cases h2

end Go.Ab

namespace Go.Ab
open Go
variable {P : Program} {tb : Tab} {call : CallF}

/-! Regions whose order is open. -/
theorem binds_any (e : Edge) : Region.binds .any e = anyEdge e.ground := by
  unfold Region.binds anyEdge
  cases e.ground <;> rfl

theorem countP_drop {l : List Nat} {p p' : Nat → Bool} {i : Nat} (hi : i ∈ l) (hp : p i = true) (hp' : p' i = false) (h : ∀ x, p' x = true → p x = true) : l.countP p' < l.countP p := by
  induction l with
  | nil => cases hi
  | cons a l ih =>
    rw [List.countP_cons, List.countP_cons]
    have hle : l.countP p' ≤ l.countP p := List.countP_mono_left fun x _ hx => h x hx
    rcases List.mem_cons.1 hi with e | e
    · subst e
      rw [hp, hp']
      simp; omega
    · have := ih e
      by_cases ha : p' a = true
      · rw [if_pos ha, if_pos (h a ha)]; omega
      · rw [if_neg ha]; split <;> omega

theorem stepA_sort {all : List Oper} {o : Oper} {fr : T V} {st st' : St} {v : V} (h : stepA tb call all o fr st = some (v, st')) :
    (sortOf tb o.op = 2 → st' = st ∧ ∀ st2, stepA tb call all o fr st2 = some (v, st2)) ∧ (sortOf tb o.op = 1 → st' = st) := by
  obtain ⟨b, hb, h1⟩ := ob_eq (o := wantedA all o fr) h
  cases b with
  | false =>
    cases h1
    exact ⟨fun _ => ⟨rfl, fun st2 => by unfold stepA; rw [hb]; rfl⟩, fun _ => rfl⟩
  | true =>
    refine ⟨fun hs => ?_, fun hs => sort1_st hs h1⟩
    obtain ⟨g1, g2⟩ := sort2_pure hs h1
    exact ⟨g1, fun st2 => by unfold stepA; rw [hb]; exact g2 st2⟩

theorem sort_cases (o : Op) : sortOf tb o = 0 ∨ sortOf tb o = 1 ∨ sortOf tb o = 2 := by
  have hle : sortOf tb o ≤ 2 := by
    unfold sortOf
    cases o <;> dsimp only <;> first | omega | skip
    case convert s d x =>
      cases row tb d with
      | none => exact Nat.zero_le _
      | some r =>
        show ocase (elemSl r.desc) 1 (fun _ => 0) ≤ 2
        cases elemSl r.desc with
        | none => show 1 ≤ 2; omega
        | some e => exact Nat.zero_le _
    case call c =>
      cases c.callee with
      | value f => exact Nat.zero_le _
      | invoke r m => exact Nat.zero_le _
      | builtin b => cases b <;> dsimp only <;> omega
  omega

theorem againIn_eq {all : List Oper} {r : Seen} {ss : List St} : ∀ (n k : Nat), againIn tb call all r ss n k = true → ∀ j, j < n → ∃ st p, ss[k + j]? = some st ∧ stepA tb call all r.o r.fr st = some p ∧ p.1 = r.v := by
  intro n
  induction n with
  | zero => intro k _ j hj; omega
  | succ n ih =>
    intro k h j hj
    have h' : ocase (lget ss k) false (fun st => bcase (againAt tb call all r st) (againIn tb call all r ss n (k + 1)) false) = true := h
    rw [lget_eq] at h'
    cases hs : ss[k]? with
    | none => rw [hs] at h'; cases h'
    | some st =>
      rw [hs, ocase_some] at h'
      obtain ⟨h1, h2⟩ := and_true' h'
      cases j with
      | zero =>
        have h3 : ocase (stepA tb call all r.o r.fr st) false (fun p => veq p.1 r.v) = true := h1
        cases hq : stepA tb call all r.o r.fr st with
        | none => rw [hq] at h3; cases h3
        | some p =>
          rw [hq, ocase_some] at h3
          exact ⟨st, p, hs, hq, veq_sound h3⟩
      | succ j =>
        have := ih (k + 1) h2 j (by omega)
        rw [show k + (j + 1) = k + 1 + j by omega]
        exact this
theorem againAll_eq {all : List Oper} {ss : List St} : ∀ {rs : List Seen}, againAll tb call all ss rs = true → ∀ r ∈ rs, againIn tb call all r ss (r.hi - r.lo + 1) r.lo = true := by
  intro rs
  induction rs with
  | nil => intro _ r hr; cases hr
  | cons r rs ih =>
    intro h r2 hr2
    obtain ⟨h1, h2⟩ := and_true' (p := againIn tb call all r ss (Nat.succ (Nat.sub r.hi r.lo)) r.lo) (q := againAll tb call all ss rs) h
    rcases List.mem_cons.1 hr2 with e | e
    · subst e; exact h1
    · exact ih h2 r2 e

/-- what a region's run has shown. -/
structure Drawn (tb : Tab) (call : CallF) (all : List Oper) (fr : T V) (st : St) (fr' : T V) (st' : St) (F : Nat → T V) (W : Nat → V) (ss : List St) : Prop where
  back : backs all 0 = true
  chain : chainE (masks all 0 .nil) (actors tb all 0) = true
  agree : ∀ i j o p, all[i]? = some o → j < i → all[j]? = some p → Bf all i j = true ∨ agreeT all o p = true
  f0 : F 0 = fr
  fS : ∀ i, i < all.length → F (i + 1) = putT (F i) (dstAt all i) (W i)
  fN : F all.length = fr'
  s0 : ss[0]? = some st
  sN : ss[(actors tb all 0).length]? = some st'
  /-- an operation that is next: behind how many that act, and what it gives there. -/
  next : ∀ i o k, all[i]? = some o → (sortOf tb o.op = 0 → k = (actors tb all 0).countP fun e => decide (e < i)) → k ≤ (actors tb all 0).length →
    ((actors tb all 0).countP (fun e => Bf all i e) ≤ k) → (k ≤ (actors tb all 0).countP fun e => !Bf all e i) →
    ∃ st1 st2, ss[k]? = some st1 ∧ stepA tb call all o (F i) st1 = some (W i, st2) ∧ ss[k + if sortOf tb o.op = 0 then 1 else 0]? = some st2

/-- a region's run, by its plan. -/
def RanBy (tb : Tab) (call : CallF) (all : List Oper) (fr : T V) (st : St) (fr' : T V) (st' : St) (ps : List PIt) : Prop :=
  (ob2 (runD tb call all ps fr st [st] []) fun fr q => pcase q fun st q => pcase q fun ss rs => gd (againAll tb call all ss rs) (some (fr, st))) = some (fr', st')

theorem drawn_of {all : List Oper} {fr : T V} {st : St} {fr' : T V} {st' : St} {ps : List PIt} (hps : planOf tb all = some ps) (h1 : RanBy tb call all fr st fr' st' ps) : ∃ F W ss, Drawn tb call all fr st fr' st' F W ss := by
  unfold RanBy at h1
  obtain ⟨hbk, h2⟩ := gd_eq hps
  obtain ⟨hch, h2⟩ := gd_eq h2
  obtain ⟨hag, h2⟩ := gd_eq h2
  cases h2
  obtain ⟨fr1, q, h3, h4⟩ := ob2_eq h1
  obtain ⟨st1, ss, rs⟩ := q
  simp only [pcase_mk] at h4
  obtain ⟨hal, h5⟩ := gd_eq h4
  cases h5
  obtain ⟨_, _, F, S, W, g⟩ := runD_trace (plan tb (masks all 0 .nil) (actors tb all 0) all 0) fr st [st] [] fr' st' ss rs 0 h3 rfl rfl
  obtain ⟨pl, pg⟩ := plan_get (tb := tb) (ms := masks all 0 .nil) (es := actors tb all 0) all 0
  have pget : ∀ i o, all[i]? = some o → (plan tb (masks all 0 .nil) (actors tb all 0) all 0)[i]? = some (planItem tb (masks all 0 .nil) (actors tb all 0) o i) := by
    intro i o ho
    rw [pg i, ho]; simp
  have hss : ∀ i, i ≤ all.length → ss[(actors tb all 0).countP fun e => decide (e < i)]? = some (S i) := by
    intro i hi
    have := g.ss i (by rw [pl]; exact hi)
    rw [plan_count] at this
    simpa using this
  refine ⟨F, W, ss, hbk, hch, ?_, g.f0, ?_, by rw [← pl]; exact g.fN, ?_, ?_, ?_⟩
  · intro i j o p ho hj hp
    have := allAgree_eq (k := 0) (fun q => by rw [Nat.zero_add]) hag i j o p ho (by omega) hp
    simpa [Bf] using this
  · intro i hi
    have ho : all[i]? = some all[i] := by simp [hi]
    obtain ⟨st2, q1, q2, q3⟩ := g.step i _ (pget i _ ho)
    rw [q2]
    have : dstAt all i = all[i].dst := by simp [dstAt, hi]
    rw [this]; rfl
  · have := hss 0 (Nat.zero_le _)
    simpa [g.s0] using this
  · have := hss all.length (Nat.le_refl _)
    rw [← pl, g.sN, pl] at this
    have hc : (actors tb all 0).countP (fun e => decide (e < all.length)) = (actors tb all 0).length := by
      rw [List.countP_eq_length]
      intro e he
      obtain ⟨q, o, hq, h6, _⟩ := actors_mem.1 he
      have := (List.getElem?_eq_some_iff.1 hq).1
      simp; omega
    rw [hc] at this
    exact this
  · intro i o k ho hk hkl hlo hhi
    have hi : i < all.length := (List.getElem?_eq_some_iff.1 ho).1
    obtain ⟨st2, q1, q2, q3⟩ := g.step i _ (pget i o ho)
    have q1' : stepA tb call all o (F i) (S i) = some (W i, st2) := q1
    have hKi := hss i (by omega)
    rcases sort_cases (tb := tb) o.op with hs | hs | hs
    · -- it acts
      have := hk hs
      subst this
      refine ⟨S i, st2, hKi, q1', ?_⟩
      rw [if_pos hs]
      have hact : (planItem tb (masks all 0 .nil) (actors tb all 0) o i).act = true := by show Nat.beq (sortOf tb o.op) 0 = true; rw [hs]; rfl
      rw [if_pos hact] at q3
      have h6 := hss (i + 1) (by omega)
      rw [q3] at h6
      have hmem : i ∈ actors tb all 0 := actors_mem.2 ⟨i, o, ho, by omega, hs⟩
      have hcount : ∀ (l : List Nat), l.Pairwise (· < ·) → i ∈ l → l.countP (fun e => decide (e < i + 1)) = l.countP (fun e => decide (e < i)) + 1 := by
        intro l
        induction l with
        | nil => intro _ h; cases h
        | cons a l ih =>
          intro hp hm
          obtain ⟨p1, p2⟩ := List.pairwise_cons.1 hp
          rw [List.countP_cons, List.countP_cons]
          rcases List.mem_cons.1 hm with e | e
          · subst e
            have h0 : l.countP (fun e => decide (e < i + 1)) = 0 := by rw [List.countP_eq_zero]; intro x hx; have := p1 x hx; simp; omega
            have h00 : l.countP (fun e => decide (e < i)) = 0 := by rw [List.countP_eq_zero]; intro x hx; have := p1 x hx; simp; omega
            rw [h0, h00]; simp
          · rw [ih p2 e]
            have := p1 i e
            have e1 : decide (a < i + 1) = true := by simp; omega
            have e2 : decide (a < i) = true := by simp; omega
            rw [e1, e2]; simp
      rw [hcount _ actors_sorted hmem] at h6
      exact h6
    · -- it reads
      have hst := (stepA_sort q1').2 hs
      subst hst
      have hns : ¬ (sortOf tb o.op = 0) := by omega
      rw [if_neg hns, Nat.add_zero]
      have hlo' : (planItem tb (masks all 0 .nil) (actors tb all 0) o i).lo = (actors tb all 0).countP fun e => Bf all i e := countB_eq _ _
      have hhi' : (planItem tb (masks all 0 .nil) (actors tb all 0) o i).hi = (actors tb all 0).countP fun e => !Bf all e i := countH_eq _ _ _
      by_cases hlt : (planItem tb (masks all 0 .nil) (actors tb all 0) o i).lo < (planItem tb (masks all 0 .nil) (actors tb all 0) o i).hi
      · have hsn := g.seen i _ (pget i o ho) (by show Nat.beq (sortOf tb o.op) 0 = false; rw [hs]; rfl) (by show Nat.beq (sortOf tb o.op) 1 = true; rw [hs]; rfl) hlt
        have hag2 := againAll_eq hal _ hsn
        simp only at hag2
        obtain ⟨stk, p, r1, r2, r3⟩ := againIn_eq _ _ hag2 (k - (planItem tb (masks all 0 .nil) (actors tb all 0) o i).lo) (by rw [hlo', hhi'] at *; omega)
        simp only at r1 r2 r3
        have hkk : (planItem tb (masks all 0 .nil) (actors tb all 0) o i).lo + (k - (planItem tb (masks all 0 .nil) (actors tb all 0) o i).lo) = k := by rw [hlo']; omega
        rw [hkk] at r1
        obtain ⟨pv, pst⟩ := p
        simp only at r3
        subst r3
        have r2' : stepA tb call all o (F i) stk = some (W i, pst) := r2
        have := (stepA_sort r2').2 hs
        subst this
        exact ⟨pst, pst, r1, r2', r1⟩
      · -- only one place
        have hKlo : (actors tb all 0).countP (fun e => Bf all i e) ≤ (actors tb all 0).countP (fun e => decide (e < i)) := List.countP_mono_left fun e _ he => by have := Bf_lt hbk he; simpa using this
        have hKhi : (actors tb all 0).countP (fun e => decide (e < i)) ≤ (actors tb all 0).countP (fun e => !Bf all e i) := List.countP_mono_left fun e _ he => by
          simp at he
          cases hb : Bf all e i with
          | false => rfl
          | true => exact absurd (Bf_lt hbk hb) (by omega)
        rw [hlo', hhi'] at hlt
        have hkK : k = (actors tb all 0).countP fun e => decide (e < i) := by omega
        subst hkK
        exact ⟨S i, S i, hKi, q1', hKi⟩
    · -- neither
      obtain ⟨g1, g2⟩ := (stepA_sort q1').1 hs
      have hns : ¬ (sortOf tb o.op = 0) := by omega
      rw [if_neg hns, Nat.add_zero]
      have hlen : (actors tb all 0).length < ss.length := by
        have := hss all.length (Nat.le_refl _)
        have h9 := (List.getElem?_eq_some_iff.1 this).1
        have hc : (actors tb all 0).countP (fun e => decide (e < all.length)) = (actors tb all 0).length := by
          rw [List.countP_eq_length]
          intro e he
          obtain ⟨q, o, hq, h6, _⟩ := actors_mem.1 he
          have := (List.getElem?_eq_some_iff.1 hq).1
          simp; omega
        omega
      have hk2 : ss[k]? = some (ss[k]'(by omega)) := by simp
      exact ⟨_, _, hk2, g2 _, hk2⟩

end Go.Ab

namespace Go.Ab
open Go
variable {P : Program} {tb : Tab} {call : CallF}

theorem RelT.congr {ρ : Ren} {fr fr2 : T V} {tmps : Array Value} (h : RelT ρ fr tmps) (hg : ∀ x, fr2.get x = fr.get x) : RelT ρ fr2 tmps := fun t v ht => h t v (by rw [← hg]; exact ht)

theorem opsLt_get {m : Nat} : ∀ {l : List Oper}, opsLt m l = true → ∀ o ∈ l, dstLt m o.dst = true := by
  intro l
  induction l with
  | nil => intro _ o ho; cases ho
  | cons a l ih =>
    intro h o ho
    obtain ⟨h1, h2⟩ := opsLt_cons h
    rcases List.mem_cons.1 ho with e | e
    · subst e; exact h1
    · exact ih h2 o e

theorem draw_any (ht : TabOK P tb) (hc : CallOK P call) {ops : Array Oper} {fr : T V} {st : St} {fr' : T V} {st' : St} {F : Nat → T V} {W : Nat → V} {ss : List St} (D : Drawn tb call ops.toList fr st fr' st' F W ss)
    {ρ0 : Ren} {w0 : World} (hg : Glob ρ0) {sz : Nat} {dfs : List Deferred} (hlt : opsLt sz ops.toList = true) {ro : Option Nat} {n : Nat} {Q : Exit → Act → World → Prop}
    (hQ : ∀ ρ' w' a', Rel ρ' st' w' → Ext ρ0 st w0 ρ' st' w' → RelT ρ' fr' a'.tmps → a'.tmps.size = sz → a'.defers = dfs → Q .normal a' w') :
    ∀ (fuel : Nat) (listed : Array Bool) (a : Act) (w : World) (ρ : Ren) (stk : St), listed.size = ops.size → Closed ops.toList (fun i => listed.getD i false) → (List.range ops.size).countP (fun i => !listed.getD i false) ≤ fuel →
      ss[(actors tb ops.toList 0).countP fun e => listed.getD e false]? = some stk → Rel ρ stk w → Ext ρ0 st w0 ρ stk w → RelT ρ (FL ops.toList W fr (fun i => listed.getD i false) ops.size) a.tmps → a.tmps.size = sz → a.defers = dfs →
      wpAnyIn (Fr ro) n P .any ops Q fuel listed a w := by
  have hN : ops.toList.length = ops.size := by simp
  -- all are listed: the end
  have hend : ∀ (listed : Array Bool) (a : Act) (w : World) (ρ : Ren) (stk : St), (∀ i, i < ops.size → listed.getD i false = true) → ss[(actors tb ops.toList 0).countP fun e => listed.getD e false]? = some stk → Rel ρ stk w → Ext ρ0 st w0 ρ stk w →
      RelT ρ (FL ops.toList W fr (fun i => listed.getD i false) ops.size) a.tmps → a.tmps.size = sz → a.defers = dfs → Q .normal a w := by
    intro listed a w ρ stk hall hk hr he hT h1 h2
    have hcnt : (actors tb ops.toList 0).countP (fun e => listed.getD e false) = (actors tb ops.toList 0).length := by
      rw [List.countP_eq_length]
      intro e hm
      obtain ⟨q, o, hq, h6, _⟩ := actors_mem.1 hm
      have := (List.getElem?_eq_some_iff.1 hq).1
      exact hall e (by omega)
    rw [hcnt, D.sN] at hk
    cases hk
    have hF : FL ops.toList W fr (fun i => listed.getD i false) ops.size = fr' := by
      rw [← hN, FL_all D.f0 D.fS _ (Nat.le_refl _) (fun j hj => hall j (by omega))]
      exact D.fN
    rw [hF] at hT
    exact hQ ρ w a hr he hT h1 h2
  -- some operation is next, as long as not all are listed
  have hsome : ∀ (listed : Array Bool), listed.size = ops.size → Region.ready .any ops listed = [] → ∀ i, i < ops.size → listed.getD i false = true := by
    intro listed hls hnil i
    induction i using Nat.strongRecOn with
    | _ i ih =>
      intro hi
      cases hl : listed.getD i false with
      | true => rfl
      | false =>
        exfalso
        have hmem : i ∈ Region.ready .any ops listed := by
          unfold Region.ready
          rw [List.mem_filter]
          refine ⟨by simpa using hi, ?_⟩
          have h1 : listed.getD i true = false := by
            rw [Array.getD_eq_getD_getElem?] at hl ⊢
            have : listed[i]? = some listed[i] := by simp [hls, hi]
            rw [this] at hl ⊢
            exact hl
          rw [h1]
          have ho : ops[i]? = some ops[i] := by simp [hi]
          rw [ho]
          simp only [Option.map_some, Option.getD_some, Bool.not_false, Bool.true_and]
          rw [Array.all_eq_true_iff_forall_mem]
          intro e hem
          rw [binds_any]
          by_cases ha : anyEdge e.ground = true
          · have := backs_eq D.back i ops[i] (by simp) e (by simpa using hem) ha
            rw [ih e.on (by omega) (by omega)]; simp
          · simp only [Bool.not_eq_true] at ha; rw [ha]; rfl
        rw [hnil] at hmem
        cases hmem
  intro fuel
  induction fuel with
  | zero =>
    intro listed a w ρ stk hls hcl hcount hk hr he hT h1 h2
    have hall : ∀ i, i < ops.size → listed.getD i false = true := by
      intro i hi
      have := List.countP_eq_zero.1 (Nat.le_zero.1 hcount) i (by simpa using hi)
      simpa using this
    refine ⟨?_, hend listed a w ρ stk hall hk hr he hT h1 h2⟩
    unfold Region.ready
    rw [List.filter_eq_nil_iff]
    intro i hi
    have := hall i (by simpa using hi)
    have h3 : listed.getD i true = true := by
      rw [Array.getD_eq_getD_getElem?] at this ⊢
      cases hx : listed[i]? with
      | none => rfl
      | some b => rw [hx] at this; exact this
    rw [h3]; simp
  | succ fuel ih =>
    intro listed a w ρ stk hls hcl hcount hk hr he hT h1 h2
    refine ⟨fun hnil => hend listed a w ρ stk (hsome listed hls hnil) hk hr he hT h1 h2, fun i hi => ?_⟩
    unfold Region.ready at hi
    rw [List.mem_filter] at hi
    obtain ⟨hi1, hi2⟩ := hi
    have hiN : i < ops.size := by simpa using hi1
    have ho : ops[i]? = some ops[i] := by simp [hiN]
    rw [ho] at hi2
    simp only [Option.map_some, Option.getD_some, Bool.and_eq_true, Bool.not_eq_true'] at hi2
    obtain ⟨hi3, hi4⟩ := hi2
    generalize hoi : ops[i] = o at ho hi4
    have hol : ops.toList[i]? = some o := by simpa using ho
    have hnot : listed.getD i false = false := by
      rw [Array.getD_eq_getD_getElem?] at hi3 ⊢
      have : listed[i]? = some listed[i] := by simp [hls, hiN]
      rw [this] at hi3 ⊢
      exact hi3
    have hready : ∀ j, Bf ops.toList i j = true → listed.getD j false = true := by
      intro j hj
      obtain ⟨e, g1, g2, g3, g4⟩ := Bf_edge D.back hol hj
      rw [Array.all_eq_true_iff_forall_mem] at hi4
      have h5 := hi4 e (by simpa using g1)
      rw [binds_any, g2] at h5
      have h6 : listed.getD e.on false = true := by simpa using h5
      rcases g4 with g4 | g4
      · rw [← g4]; exact h6
      · exact hcl _ _ h6 g4
    -- what is listed behind it
    have hset : ∀ j, (listed.setIfInBounds i true).getD j false = (listed.getD j false || decide (j = i)) := by
      intro j
      rw [Array.getD_eq_getD_getElem?, Array.getD_eq_getD_getElem?]
      by_cases e : j = i
      · subst e
        rw [Array.getElem?_setIfInBounds_self_of_lt (by omega)]
        simp
      · rw [Array.getElem?_setIfInBounds_ne (fun hh => e hh.symm)]
        have : decide (j = i) = false := by simp [e]
        rw [this, Bool.or_false]
    have hcl2 : Closed ops.toList (fun j => (listed.setIfInBounds i true).getD j false) := by
      intro x j hx hb
      simp only [hset] at hx ⊢
      by_cases e : x = i
      · subst e; rw [hready j hb]; rfl
      · have : decide (x = i) = false := by simp [e]
        rw [this, Bool.or_false] at hx
        have h9 : listed.getD j false = true := hcl x j hx hb
        rw [h9]; rfl
    -- how many that act are listed
    have hact : sortOf tb o.op = 0 → (actors tb ops.toList 0).countP (fun e => listed.getD e false) = (actors tb ops.toList 0).countP fun e => decide (e < i) := by
      intro hs
      have hmem : i ∈ actors tb ops.toList 0 := actors_mem.2 ⟨i, o, hol, by omega, hs⟩
      apply List.countP_congr
      intro e hem
      constructor
      · intro hle
        simp only [decide_eq_true_eq]
        rcases Nat.lt_trichotomy e i with h | h | h
        · exact h
        · subst h; rw [hnot] at hle; cases hle
        · have := chain_pw hcl actors_sorted D.chain i hmem e hem h hle
          simp only [hnot] at this
          cases this
      · intro hlt2
        simp only [decide_eq_true_eq] at hlt2
        have := chain_pw hcl2 actors_sorted D.chain e hem i hmem hlt2 (by simp only [hset]; simp)
        simp only [hset] at this
        have hne : decide (e = i) = false := by simp; omega
        rw [hne, Bool.or_false] at this
        exact this
    have hlo : (actors tb ops.toList 0).countP (fun e => Bf ops.toList i e) ≤ (actors tb ops.toList 0).countP fun e => listed.getD e false := List.countP_mono_left fun e _ hb => hready e hb
    have hhi : ((actors tb ops.toList 0).countP fun e => listed.getD e false) ≤ (actors tb ops.toList 0).countP fun e => !Bf ops.toList e i := List.countP_mono_left fun e _ hle => by
      cases hb : Bf ops.toList e i with
      | false => rfl
      | true =>
        have := hcl e i hle hb
        simp only [hnot] at this
        cases this
    obtain ⟨st1, st2, q1, q2, q3⟩ := D.next i o _ hol hact List.countP_le_length hlo hhi
    rw [hk] at q1
    cases q1
    -- the temporaries it looks at
    have hlooks : ∀ t ∈ looks ops.toList o, (F i).get t = (FL ops.toList W fr (fun j => listed.getD j false) ops.size).get t := by
      intro t htl
      have h5 := FL_above (all := ops.toList) (W := W) (fr := fr) (L := fun j => listed.getD j false) (i := i) (x := t) ops.size (by omega) (by
        intro j hj1 hj2 hlj hd
        by_cases e : j = i
        · subst e; simp only [hnot] at hlj; cases hlj
        · have hoj : ops.toList[j]? = some ops[j] := by simp [hj2]
          rcases D.agree j i _ o hoj (by omega) hol with hb | hb
          · have := hcl j i hlj hb
            simp only [hnot] at this; cases this
          · have hdj : ops[j].dst = some t := by simpa [dstAt, hoj] using hd
            exact (agreeT_eq hb).2 t hdj htl)
      rw [h5]
      exact (FL_below D.f0 D.fS i (by omega) (by
        intro j hj hd
        have hjN : j < ops.size := by omega
        have hoj : ops.toList[j]? = some ops[j] := by simp [hjN]
        rcases D.agree i j o _ hol hj hoj with hb | hb
        · exact hready j hb
        · have hdj : ops[j].dst = some t := by simpa [dstAt, hoj] using hd
          exact absurd htl ((agreeT_eq hb).1 t hdj).1)).symm
    rw [stepA_congr hlooks] at q2
    have hdlt : dstLt a.tmps.size o.dst = true := by rw [h1]; exact opsLt_get hlt o (List.mem_of_getElem? hol)
    have hstep := step_sound (ro := ro) (n := n) (Q := Q) ht hc (hg.mono he.ren) hr (ops := ops) hT hdlt q2 (K := wpAnyIn (Fr ro) n P .any ops Q fuel (listed.setIfInBounds i true)) (by
      intro ρ' w' a' r1 r2 r3 r4 r5
      refine ih (listed.setIfInBounds i true) a' w' ρ' st2 (by simp [hls]) hcl2 ?_ ?_ r1 (he.trans r2) ?_ (r4.trans h1) (r5.trans h2)
      · have := countP_drop (l := List.range ops.size) (p := fun j => !listed.getD j false) (p' := fun j => !(listed.setIfInBounds i true).getD j false) (i := i) (by simpa using hiN) (by simp only [hnot]; rfl) (by simp only [hset]; simp) (by
          intro x hx
          simp only [hset] at hx
          simp at hx ⊢
          exact hx.1)
        omega
      · have hcnt : (actors tb ops.toList 0).countP (fun e => (listed.setIfInBounds i true).getD e false) = (actors tb ops.toList 0).countP (fun e => listed.getD e false) + if sortOf tb o.op = 0 then 1 else 0 := by
          have gen : ∀ (l : List Nat), l.Pairwise (· < ·) → l.countP (fun e => (listed.getD e false || decide (e = i))) = l.countP (fun e => listed.getD e false) + if i ∈ l then 1 else 0 := by
            intro l
            induction l with
            | nil => intro _; rfl
            | cons b l ihl =>
              intro hp
              obtain ⟨p1, p2⟩ := List.pairwise_cons.1 hp
              rw [List.countP_cons, List.countP_cons, ihl p2]
              by_cases e : b = i
              · subst e
                have hnl : b ∉ l := fun hh => by have := p1 b hh; omega
                rw [if_neg hnl, if_pos List.mem_cons_self, hnot]
                simp
              · have e1 : decide (b = i) = false := by simp [e]
                rw [e1, Bool.or_false]
                have e2 : (i ∈ b :: l) ↔ i ∈ l := ⟨fun h => (List.mem_cons.1 h).resolve_left (fun hh => e hh.symm), List.mem_cons_of_mem _⟩
                by_cases e3 : i ∈ l
                · rw [if_pos e3, if_pos (e2.2 e3)]; omega
                · rw [if_neg e3, if_neg (fun hh => e3 (e2.1 hh))]; omega
          have hfun : (fun e => (listed.setIfInBounds i true).getD e false) = fun e => (listed.getD e false || decide (e = i)) := by funext e; exact hset e
          rw [hfun, gen _ actors_sorted]
          congr 1
          by_cases hs : sortOf tb o.op = 0
          · rw [if_pos hs, if_pos (actors_mem.2 ⟨i, o, hol, by omega, hs⟩)]
          · have hni : ¬ (i ∈ actors tb ops.toList 0) := by
              intro hh
              obtain ⟨q, o2, g1, g2, g3⟩ := actors_mem.1 hh
              have hqi : q = i := by omega
              rw [hqi, hol] at g1
              cases g1
              exact hs g3
            rw [if_neg hs, if_neg hni]
        rw [hcnt]; exact q3
      · refine r3.congr fun x => ?_
        have hd : dstAt ops.toList i = o.dst := by simp [dstAt, hol]
        have := FL_add (all := ops.toList) (W := W) (fr := fr) (L := fun j => listed.getD j false) (L2 := fun j => (listed.setIfInBounds i true).getD j false) (i := i) hnot hset x ops.size hiN (by
          intro j hj1 hj2 hlj hdi hdj
          have hoj : ops.toList[j]? = some ops[j] := by simp [hj2]
          rcases D.agree j i _ o hoj hj1 hol with hb | hb
          · have := hcl j i hlj hb
            simp only [hnot] at this; cases this
          · have hdj' : ops[j].dst = some x := by simpa [dstAt, hoj] using hdj
            exact ((agreeT_eq hb).1 x (by rw [← hd]; exact hdi)).2 hdj')
        rw [this, hd])
    unfold wpOpIn
    rw [ho]
    exact hstep

end Go.Ab

namespace Go.Ab
open Go
variable {P : Program} {ρ : Ren} {st st' : St} {w : World} {tb : Tab} {call : CallF}

/-! What makes a block anew, wherever it stands. -/
/-- an operation makes a block of cells anew; what it gives hangs on where that block lies. -/
def Fresh (P : Program) (ρ : Ren) (w : World) (m : Sem Value) (l : List V) (mk : Nat → V) : Prop :=
  ∃ arr e v', m.run P w = .ok v' { w with heap := w.heap.push (.cells arr e (0, 0)) } ∧ RelL ρ l arr.toList ∧ (∀ v ∈ l, v.scalar = true) ∧
    ∀ (ρ' : Ren) (id : Nat), ρ' id = some ⟨w.heap.size, 0, arr.size⟩ → RelV ρ' (mk id) v'
/-- and so it is in the evaluator. -/
def MadeA (st : St) (l : List V) (mk : Nat → V) (v : V) (st' : St) : Prop := v = mk st.next ∧ st' = ⟨st.heap.put st.next (.cells (llen l 0) (putAll l 0 .nil) false), st.next + 1⟩

theorem newRow_run (e : TypeId) (arr : Array Value) (w : World) : (newRow e arr).run P w = .ok ⟨w.heap.size, 0, none⟩ { w with heap := w.heap.push (.cells arr e (0, 0)) } := by
  simp only [newRow, Sem.run_bind, run_newObj, Result.andThen_ok, Sem.run_pure]

theorem made_of {l : List V} {b : Nat} (h : newCells st l = some (b, st')) : b = st.next ∧ st' = ⟨st.heap.put st.next (.cells (llen l 0) (putAll l 0 .nil) false), st.next + 1⟩ := newBlk_eq h

theorem alloc_fresh (ht : TabOK P tb) {e : TypeId} {v : V} (h : oAlloc tb st e = some (v, st')) : ∃ l mk, MadeA st l mk v st' ∧ Fresh P ρ w (Instr.alloc e true (.tuple #[])) l mk := by
  obtain ⟨r, hrow, h⟩ := ob_eq h
  obtain ⟨b, st1, hn, h⟩ := ob2_eq h
  cases h
  obtain ⟨z, h1, _, h3, h4, _⟩ := (row_ok ht hrow).zero ρ w
  obtain ⟨e1, e2⟩ := made_of hn
  refine ⟨r.zero, fun id => .ptr id 0, ⟨by rw [e1], e2⟩, z.cells, e, .pointer (some ⟨w.heap.size, 0, none⟩), ?_, h3, h4, fun ρ' id hid => RelV.ptr id 0 _ hid⟩
  simp only [Instr.alloc, Sem.run_bind, h1, Result.andThen_ok, newVar, newRow_run, Sem.run_pure]

theorem makeSlice_fresh (ht : TabOK P tb) {fr : T V} {ev : Operand → Value} (hf : Fits ρ fr ev) {t : TypeId} {l c : Operand} {v : V} (h0 : oMakeSlice tb fr st t l c = some (v, st')) :
    ∃ q mk, MadeA st q mk v st' ∧ Fresh P ρ w (Instr.makeSlice t (ev l) (ev c)) q mk := by
  obtain ⟨re, hre, h1⟩ := ob_eq h0
  obtain ⟨lv, hlv, h2⟩ := ob_eq (o := opd fr l) h1
  obtain ⟨cv, hcv, h3⟩ := ob_eq (o := opd fr c) h2
  obtain ⟨n, hn, h4⟩ := ob_eq h3
  obtain ⟨m, hm, h5⟩ := ob_eq h4
  obtain ⟨g1, h6⟩ := gd_eq h5
  obtain ⟨g2, h7⟩ := gd_eq h6
  obtain ⟨g3, h8⟩ := gd_eq h7
  obtain ⟨b, st1, h9, h10⟩ := ob2_eq h8
  cases h10
  obtain ⟨k1, hk1⟩ := natOf_sound hn (hf.opd l lv hlv)
  obtain ⟨k2, hk2⟩ := natOf_sound hm (hf.opd c cv hcv)
  obtain ⟨e, hu, hro⟩ := slElem_eq ht hre
  obtain ⟨z, hz, _, hz2, hzs, hzl⟩ := hro.zero ρ w
  obtain ⟨i, hi, hsz, hby⟩ := hro.info
  have g1' := ble_true g1
  have g2' := ble_true g2
  have g3' := ble_true g3
  have hzsz : z.cells.size = re.size := by have := hz2.length; simp at this; omega
  have hrel : RelL ρ (lrep m re.zero) ((Array.range (m * z.cells.size)).map fun i => z.cells[i % z.cells.size]!).toList := lrep_rel m hz2
  obtain ⟨e1, e2⟩ := made_of h9
  have wn : IntKind.i64.wrap (n : Int) = n := i64_in' _ (by omega) (by omega)
  have wm : IntKind.i64.wrap (m : Int) = m := i64_in' _ (by omega) (by omega)
  have hasz : ((Array.range (m * z.cells.size)).map fun i => z.cells[i % z.cells.size]!).size = m * re.size := by simp [hzsz]
  refine ⟨lrep m re.zero, fun id => .sl id 0 n m true re.size, ⟨by rw [e1], e2⟩, _, e, .slice (some ⟨w.heap.size, 0, none⟩) n m, ?_, hrel, lrep_sc hzs, fun ρ' id hid =>
    RelV.sl id 0 n m true re.size _ m hid (Nat.le_refl _) (fun _ => rfl) g1' (by rw [hasz]; show 0 + m * re.size ≤ m * re.size; omega)⟩
  have r1 := newRow_run (P := P) e ((Array.range (m * z.cells.size)).map fun i => z.cells[i % z.cells.size]!) w
  have hb : ¬ ((281474976710656 : Int) < (i.bytes : Int) * (m : Int)) := by
    simp only [Nat.mul_eq] at g2'
    rw [hby] at g2'
    have h4 : ((m * i.bytes : Nat) : Int) ≤ 281474976710656 := by omega
    rw [Int.natCast_mul, Int.mul_comm] at h4
    omega
  have hnl : ¬ ((m : Int) < (n : Int)) := by omega
  have hn0 : ¬ ((n : Int) < 0) := by omega
  have hm0 : ¬ ((m : Int) < 0) := by omega
  rw [hk1, hk2]
  by_cases hz0 : m * re.size = 0
  · have hem : ((Array.range (m * z.cells.size)).map fun i => z.cells[i % z.cells.size]!) = #[] := by rw [hzsz, hz0]; simp
    rw [hem] at r1 ⊢
    have hr0 : ∀ f : Nat → Value, Array.map f (Array.range 0) = #[] := fun f => by apply Array.ext'; simp
    simp [Instr.makeSlice, run_underlying hu, asInt, asIntOf, info_run hi, wn, wm, hb, hnl, hn0, hm0, hro.sizeOf, hz0, hr0, r1]
  · rw [hzsz] at r1
    simp [Instr.makeSlice, run_underlying hu, asInt, asIntOf, info_run hi, wn, wm, hb, hnl, hn0, hm0, hro.sizeOf, hz0, hz, hzsz, r1]

theorem buildSlice_fresh (ht : TabOK P tb) {fr : T V} {ev : Operand → Value} (hf : Fits ρ fr ev) {t : TypeId} {len : Nat} {parts : Array (Nat × Operand)} {v : V} (h0 : oBuildSlice tb fr st t len parts.toList = some (v, st')) :
    ∃ q mk, MadeA st q mk v st' ∧ Fresh P ρ w (Instr.buildSlice t len (parts.map fun (i, x) => (i, ev x))) q mk := by
  obtain ⟨re, hre, h1⟩ := ob_eq h0
  obtain ⟨hsz, h1⟩ := gd_eq h1
  obtain ⟨ps, hps, h2⟩ := ob_eq h1
  obtain ⟨l, hl, h3⟩ := ob_eq h2
  obtain ⟨b, st1, h4, h5⟩ := ob2_eq h3
  cases h5
  obtain ⟨e, hu, hro⟩ := slElem_eq ht hre
  obtain ⟨z, hz, _, hz2, hzs, hzl⟩ := hro.zero ρ w
  have hsz' := ble_true hsz
  simp only [Nat.mul_eq] at hsz'
  have hzsz : z.cells.size = re.size := by have := hz2.length; simp at this; omega
  have hp := parts_sound hf hps
  have hlist : (parts.map fun (i, x) => (i, ev x)).toList = parts.toList.map fun (i, x) => (i, ev x) := by simp
  have hrep := lrep_rel len hz2
  obtain ⟨arr', r1, r2, r3⟩ := fill_sound ps _ _ _ _ hl hp hrep (lrep_sc hzs)
  obtain ⟨e1, e2⟩ := made_of h4
  have k1 := newRow_run (P := P) e arr' w
  have hnb : ¬ (16777216 < len * re.size) := by omega
  have harr : arr'.size = len * re.size := by
    have h6 := r2.length
    simp only [Array.length_toList] at h6
    rw [← h6]
    rw [fill_len _ _ _ hl, lrep_len, hzl]
  refine ⟨l, fun id => .sl id 0 len len true re.size, ⟨by rw [e1], e2⟩, arr', e, .slice (some ⟨w.heap.size, 0, none⟩) len len, ?_, r2, r3, fun ρ' id hid =>
    RelV.sl id 0 len len true re.size _ len hid (Nat.le_refl _) (fun _ => rfl) (Nat.le_refl _) (by rw [harr]; show 0 + len * re.size ≤ len * re.size; omega)⟩
  have r1' : Instr.fill (fun i => some (i * re.size, re.size)) ((Array.range (len * z.cells.size)).map fun i => z.cells[i % z.cells.size]!) (parts.toList.map fun (i, x) => (i, ev x)) = some arr' := r1
  rw [hzsz] at r1'
  by_cases hz0 : len * re.size = 0
  · have hr0 : ∀ f : Nat → Value, Array.map f (Array.range 0) = #[] := fun f => by apply Array.ext'; simp
    rw [hz0, hr0] at r1'
    simp [Instr.buildSlice, run_underlying hu, hro.sizeOf, hz0, hr0, r1', k1]
  · simp [Instr.buildSlice, run_underlying hu, hro.sizeOf, hz0, hz, hzsz, r1', k1, hnb]

end Go.Ab

namespace Go.Ab
open Go
variable {P : Program} {tb : Tab} {call : CallF}

/-! Regions in which what is made anew stands beside what acts. -/
theorem allBits_eq {m : Nat} : ∀ {es : List Nat}, allBits m es = true → ∀ e ∈ es, bit m e = true := by
  intro es
  induction es with
  | nil => intro _ e he; cases he
  | cons a es ih =>
    intro h e he
    obtain ⟨h1, h2⟩ := and_true' (p := bit m a) (q := allBits m es) h
    rcases List.mem_cons.1 he with e1 | e1
    · subst e1; exact h1
    · exact ih h2 e e1

theorem chainB_eq {all : List Oper} {ms : T Nat} : ∀ {es pre : List Nat}, chainB all ms es pre = true → ∀ p b, es[p]? = some b → freshAt all b = false → (∀ a ∈ pre, bit (mget ms b) a = true) ∧ ∀ (q a : Nat), q < p → es[q]? = some a → bit (mget ms b) a = true := by
  intro es
  induction es with
  | nil => intro pre _ p b h; simp at h
  | cons e es ih =>
    intro pre h p b hb hf
    obtain ⟨h1, h2⟩ := and_true' (p := bcase (freshAt all e) true (allBits (mget ms e) pre)) (q := chainB all ms es (e :: pre)) h
    cases p with
    | zero =>
      simp at hb; subst hb
      rw [hf] at h1
      exact ⟨allBits_eq h1, fun q a hq => by omega⟩
    | succ p =>
      simp at hb
      obtain ⟨g1, g2⟩ := ih h2 p b hb hf
      refine ⟨fun a ha => g1 a (List.mem_cons_of_mem _ ha), fun q a hq ha => ?_⟩
      cases q with
      | zero => simp at ha; subst ha; exact g1 _ List.mem_cons_self
      | succ q => simp at ha; exact g2 q a (by omega) ha

theorem userB_eq {all : List Oper} {m : Nat} {o : Oper} {i : Nat} : ∀ {es pre : List Nat}, userB all m o i es pre = true → ∀ p e, es[p]? = some e → freshAt all e = true →
    (looksAt all o e = true → e < i ∧ (∀ a ∈ pre, bit m a = true) ∧ ∀ (q a : Nat), q < p → es[q]? = some a → bit m a = true) ∧ (e ≠ i → ∀ t, dstOf all e = some t → o.dst ≠ some t) := by
  intro es
  induction es with
  | nil => intro pre _ p e h; simp at h
  | cons x es ih =>
    intro pre h p e he hf
    obtain ⟨h1, h2⟩ := and_true' (p := bcase (freshAt all x) (bcase (bcase (looksAt all o x) (bcase (Nat.blt x i) (allBits m pre) false) true) (bcase (Nat.beq x i) true (bnot (ocase (dstOf all x) false fun t => ocase o.dst false fun u => Nat.beq u t))) false) true) (q := userB all m o i es (x :: pre)) h
    cases p with
    | zero =>
      simp at he; subst he
      rw [hf, bcase_true] at h1
      obtain ⟨h3, h4⟩ := and_true' h1
      refine ⟨fun hl => ?_, fun hne t ht hd => ?_⟩
      · rw [hl, bcase_true] at h3
        obtain ⟨h5, h6⟩ := and_true' h3
        exact ⟨blt_true h5, allBits_eq h6, fun q a hq => by omega⟩
      · rw [beq_false hne, bcase_false, ht, ocase_some, hd, ocase_some, bnot_eq] at h4
        simp at h4
    | succ p =>
      simp at he
      obtain ⟨g1, g2⟩ := ih h2 p e he hf
      refine ⟨fun hl => ?_, g2⟩
      obtain ⟨k1, k2, k3⟩ := g1 hl
      refine ⟨k1, fun a ha => k2 a (List.mem_cons_of_mem _ ha), fun q a hq ha => ?_⟩
      cases q with
      | zero => simp at ha; subst ha; exact k2 _ List.mem_cons_self
      | succ q => simp at ha; exact k3 q a (by omega) ha
theorem usersB_eq {all : List Oper} {ms : T Nat} {es : List Nat} : ∀ {l : List Oper} {k : Nat}, usersB all ms es l k = true → ∀ q o, l[q]? = some o → userB all (mget ms (k + q)) o (k + q) es [] = true := by
  intro l
  induction l with
  | nil => intro k _ q o h; simp at h
  | cons x l ih =>
    intro k h q o hq
    obtain ⟨h1, h2⟩ := and_true' (p := userB all (mget ms k) x k es []) (q := usersB all ms es l (k + 1)) h
    cases q with
    | zero => simp at hq; subst hq; exact h1
    | succ q =>
      simp at hq
      have := ih h2 q o hq
      rw [show k + (q + 1) = k + 1 + q by omega]
      exact this

theorem loB_le {all : List Oper} {m : Nat} {o : Oper} {k : Nat} : ∀ (es : List Nat) (p acc : Nat), acc ≤ k → (∀ q e, es[q]? = some e → bcase (freshAt all e) (looksAt all o e) (bit m e) = true → p + q + 1 ≤ k) → loB all m o es p acc ≤ k := by
  intro es
  induction es with
  | nil => intro p acc h _; exact h
  | cons e es ih =>
    intro p acc h hk
    show loB all m o es (p + 1) (bcase (bcase (freshAt all e) (looksAt all o e) (bit m e)) (p + 1) acc) ≤ k
    apply ih
    · rw [bcase_eq]
      split
      · rename_i hc; have := hk 0 e (by simp) hc; omega
      · exact h
    · intro q e2 hq hc
      have := hk (q + 1) e2 (by simpa using hq) hc
      omega
theorem hiB_ge {all : List Oper} {ms : T Nat} {i k : Nat} : ∀ (es : List Nat) (p : Nat), k ≤ p + es.length → (∀ q e, es[q]? = some e → freshAt all e = false → bit (mget ms e) i = true → k ≤ p + q) → k ≤ hiB all ms i es p := by
  intro es
  induction es with
  | nil => intro p h _; show k ≤ p; simpa using h
  | cons e es ih =>
    intro p h hk
    show k ≤ bcase (bcase (freshAt all e) false (bit (mget ms e) i)) p (hiB all ms i es (p + 1))
    rw [bcase_eq]
    split
    · rename_i hc
      have hf : freshAt all e = false := by
        cases hx : freshAt all e with
        | false => rfl
        | true => rw [hx] at hc; cases hc
      rw [hf] at hc
      have := hk 0 e (by simp) hf hc
      omega
    · exact ih (p + 1) (by simp at h; omega) fun q e2 hq hf hb => by
        have := hk (q + 1) e2 (by simpa using hq) hf hb
        omega

theorem planLB_get {ms : T Nat} {all : List Oper} {es : List Nat} : ∀ (l : List Oper) (i : Nat), (planLB tb all ms es l i).length = l.length ∧ ∀ q, (planLB tb all ms es l i)[q]? = (l[q]?).map fun o => planItemB tb all ms es o (i + q) := by
  intro l
  induction l with
  | nil => intro i; exact ⟨rfl, fun q => by simp [planLB]⟩
  | cons o l ih =>
    intro i
    obtain ⟨h1, h2⟩ := ih (i + 1)
    have hd : planLB tb all ms es (o :: l) i = planItemB tb all ms es o i :: planLB tb all ms es l (i + 1) := rfl
    rw [hd]
    refine ⟨by simp [h1], fun q => ?_⟩
    cases q with
    | zero => simp
    | succ q => simp [h2, show i + 1 + q = i + (q + 1) by omega]
theorem planLB_act {ms : T Nat} {all : List Oper} {es : List Nat} : ∀ (l : List Oper) (i q : Nat), ((planLB tb all ms es l i).take q).countP (·.act) = ((plan tb ms es l i).take q).countP (·.act) := by
  intro l
  induction l with
  | nil => intro i q; simp [planLB, plan]
  | cons o l ih =>
    intro i q
    have hd : planLB tb all ms es (o :: l) i = planItemB tb all ms es o i :: planLB tb all ms es l (i + 1) := rfl
    have hd2 : plan tb ms es (o :: l) i = planItem tb ms es o i :: plan tb ms es l (i + 1) := rfl
    rw [hd, hd2]
    cases q with
    | zero => simp
    | succ q =>
      rw [List.take_succ_cons, List.take_succ_cons, List.countP_cons, List.countP_cons, ih]
      rfl

/-- where an operation that acts stands among those that act. -/
theorem pos_count {l : List Nat} (hs : l.Pairwise (· < ·)) : ∀ {p i : Nat}, l[p]? = some i → l.countP (fun e => decide (e < i)) = p := by
  induction l with
  | nil => intro p i h; simp at h
  | cons a l ih =>
    intro p i h
    obtain ⟨p1, p2⟩ := List.pairwise_cons.1 hs
    rw [List.countP_cons]
    cases p with
    | zero =>
      simp at h; subst h
      have h0 : l.countP (fun e => decide (e < a)) = 0 := by rw [List.countP_eq_zero]; intro x hx; have := p1 x hx; simp; omega
      rw [h0]; simp
    | succ p =>
      simp at h
      have := p1 i (List.mem_of_getElem? h)
      rw [ih p2 h]
      simp [this]
theorem pos_lt {l : List Nat} (hs : l.Pairwise (· < ·)) {p q a b : Nat} (hp : l[p]? = some a) (hq : l[q]? = some b) : p < q ↔ a < b := by
  have mono : ∀ {l : List Nat}, l.Pairwise (· < ·) → ∀ {p q a b : Nat}, l[p]? = some a → l[q]? = some b → p < q → a < b := by
    intro l
    induction l with
    | nil => intro _ p q a b h; simp at h
    | cons x l ih =>
      intro hs p q a b hp hq hlt
      obtain ⟨p1, p2⟩ := List.pairwise_cons.1 hs
      cases q with
      | zero => omega
      | succ q =>
        simp at hq
        cases p with
        | zero => simp at hp; subst hp; exact p1 b (List.mem_of_getElem? hq)
        | succ p => simp at hp; exact ih p2 hp hq (by omega)
  constructor
  · exact mono hs hp hq
  · intro h
    rcases Nat.lt_trichotomy p q with h1 | h1 | h1
    · exact h1
    · subst h1; rw [hp] at hq; cases hq; omega
    · have := mono hs hq hp h1; omega

end Go.Ab

namespace Go.Ab
open Go
variable {P : Program} {tb : Tab} {call : CallF}

/-- what a region's run has shown, where what is made anew stands beside what acts. -/
structure DrawnB (tb : Tab) (call : CallF) (all : List Oper) (fr : T V) (st : St) (fr' : T V) (st' : St) (F : Nat → T V) (W : Nat → V) (ss : List St) : Prop where
  back : backs all 0 = true
  chain : ∀ p b, (actors tb all 0)[p]? = some b → freshAt all b = false → ∀ (q a : Nat), q < p → (actors tb all 0)[q]? = some a → Bf all b a = true
  user : ∀ i o p e, all[i]? = some o → (actors tb all 0)[p]? = some e → freshAt all e = true →
    (looksAt all o e = true → e < i ∧ ∀ (q a : Nat), q < p → (actors tb all 0)[q]? = some a → Bf all i a = true) ∧ (e ≠ i → ∀ t, dstOf all e = some t → o.dst ≠ some t)
  agree : ∀ i j o p, all[i]? = some o → j < i → all[j]? = some p → Bf all i j = true ∨ agreeT all o p = true
  f0 : F 0 = fr
  fS : ∀ i, i < all.length → F (i + 1) = putT (F i) (dstAt all i) (W i)
  fN : F all.length = fr'
  s0 : ss[0]? = some st
  sN : ss[(actors tb all 0).length]? = some st'
  next : ∀ i o k, all[i]? = some o → (sortOf tb o.op = 0 → (actors tb all 0)[k]? = some i) → k ≤ (actors tb all 0).length →
    (∀ p e, (actors tb all 0)[p]? = some e → (bcase (freshAt all e) (looksAt all o e) (Bf all i e)) = true → p + 1 ≤ k) →
    (∀ p e, (actors tb all 0)[p]? = some e → freshAt all e = false → Bf all e i = true → k ≤ p) →
    ∃ st1 st2, ss[k]? = some st1 ∧ stepA tb call all o (F i) st1 = some (W i, st2) ∧ ss[k + if sortOf tb o.op = 0 then 1 else 0]? = some st2

theorem drawnB_of {all : List Oper} {fr : T V} {st : St} {fr' : T V} {st' : St} {ps : List PIt} (hps : planB tb all = some ps) (h1 : RanBy tb call all fr st fr' st' ps) : ∃ F W ss, DrawnB tb call all fr st fr' st' F W ss := by
  unfold RanBy at h1
  obtain ⟨hbk, h2⟩ := gd_eq hps
  obtain ⟨hag, h2⟩ := gd_eq h2
  obtain ⟨hch, h2⟩ := gd_eq h2
  obtain ⟨hus, h2⟩ := gd_eq h2
  cases h2
  obtain ⟨fr1, q, h3, h4⟩ := ob2_eq h1
  obtain ⟨st1, ss, rs⟩ := q
  simp only [pcase_mk] at h4
  obtain ⟨hal, h5⟩ := gd_eq h4
  cases h5
  obtain ⟨_, _, F, S, W, g⟩ := runD_trace (planLB tb all (masks all 0 .nil) (actors tb all 0) all 0) fr st [st] [] fr' st' ss rs 0 h3 rfl rfl
  obtain ⟨pl, pg⟩ := planLB_get (tb := tb) (ms := masks all 0 .nil) (all := all) (es := actors tb all 0) all 0
  have pget : ∀ i o, all[i]? = some o → (planLB tb all (masks all 0 .nil) (actors tb all 0) all 0)[i]? = some (planItemB tb all (masks all 0 .nil) (actors tb all 0) o i) := by
    intro i o ho
    rw [pg i, ho]; simp
  have hss : ∀ i, i ≤ all.length → ss[(actors tb all 0).countP fun e => decide (e < i)]? = some (S i) := by
    intro i hi
    have := g.ss i (by rw [pl]; exact hi)
    rw [planLB_act, plan_count] at this
    simpa using this
  have hlast : (actors tb all 0).countP (fun e => decide (e < all.length)) = (actors tb all 0).length := by
    rw [List.countP_eq_length]
    intro e he
    obtain ⟨q, o, hq, h6, _⟩ := actors_mem.1 he
    have := (List.getElem?_eq_some_iff.1 hq).1
    simp; omega
  refine ⟨F, W, ss, hbk, ?_, ?_, ?_, g.f0, ?_, by rw [← pl]; exact g.fN, ?_, ?_, ?_⟩
  · intro p b hb hf
    exact (chainB_eq hch p b hb hf).2
  · intro i o p e ho he hf
    have h6 := usersB_eq hus i o ho
    rw [Nat.zero_add] at h6
    obtain ⟨g1, g2⟩ := userB_eq h6 p e he hf
    exact ⟨fun hl => ⟨(g1 hl).1, (g1 hl).2.2⟩, g2⟩
  · intro i j o p ho hj hp
    have := allAgree_eq (k := 0) (fun q => by rw [Nat.zero_add]) hag i j o p ho (by omega) hp
    simpa [Bf] using this
  · intro i hi
    have ho : all[i]? = some all[i] := by simp [hi]
    obtain ⟨st2, q1, q2, q3⟩ := g.step i _ (pget i _ ho)
    rw [q2]
    have : dstAt all i = all[i].dst := by simp [dstAt, hi]
    rw [this]; rfl
  · have := hss 0 (Nat.zero_le _)
    simpa [g.s0] using this
  · have := hss all.length (Nat.le_refl _)
    rw [← pl, g.sN, pl, hlast] at this
    exact this
  · intro i o k ho hk hkl hlo hhi
    have hi : i < all.length := (List.getElem?_eq_some_iff.1 ho).1
    obtain ⟨st2, q1, q2, q3⟩ := g.step i _ (pget i o ho)
    have q1' : stepA tb call all o (F i) (S i) = some (W i, st2) := q1
    have hKi := hss i (by omega)
    rcases sort_cases (tb := tb) o.op with hs | hs | hs
    · have hki := hk hs
      have hc := pos_count actors_sorted hki
      rw [hc] at hKi
      refine ⟨S i, st2, hKi, q1', ?_⟩
      rw [if_pos hs]
      have hact : (planItemB tb all (masks all 0 .nil) (actors tb all 0) o i).act = true := by show Nat.beq (sortOf tb o.op) 0 = true; rw [hs]; rfl
      rw [if_pos hact] at q3
      have h6 := hss (i + 1) (by omega)
      rw [q3] at h6
      have h7 : (actors tb all 0).countP (fun e => decide (e < i + 1)) = k + 1 := by
        cases hn : (actors tb all 0)[k + 1]? with
        | none =>
          have hlen : (actors tb all 0).length = k + 1 := by
            have h8 := (List.getElem?_eq_some_iff.1 hki).1
            have h9 : (actors tb all 0).length ≤ k + 1 := by simpa using hn
            omega
          rw [← hlen, List.countP_eq_length]
          intro e he
          obtain ⟨p, hp⟩ := List.getElem?_of_mem he
          have hpl := (List.getElem?_eq_some_iff.1 hp).1
          by_cases hpk : p = k
          · subst hpk; rw [hki] at hp; cases hp; simp
          · have := (pos_lt actors_sorted hp hki).1 (by omega)
            simp; omega
        | some j =>
          have hij := (pos_lt actors_sorted hki hn).1 (by omega)
          have h8 := pos_count actors_sorted hn
          rw [← h8]
          apply List.countP_congr
          intro e he
          obtain ⟨p, hp⟩ := List.getElem?_of_mem he
          simp only [decide_eq_true_eq]
          constructor
          · intro hlt; omega
          · intro hlt
            have h9 := (pos_lt actors_sorted hp hn).2 hlt
            by_cases hpk : p = k
            · subst hpk; rw [hki] at hp; cases hp; omega
            · have := (pos_lt actors_sorted hp hki).1 (by omega)
              omega
      rw [h7] at h6
      exact h6
    · have hst := (stepA_sort q1').2 hs
      subst hst
      have hns : ¬ (sortOf tb o.op = 0) := by omega
      rw [if_neg hns, Nat.add_zero]
      have h8 : loB all (mget (masks all 0 .nil) i) o (actors tb all 0) 0 0 ≤ k := loB_le _ 0 0 (Nat.zero_le _) fun q e hq hc => by have := hlo q e hq hc; omega
      have h9 : k ≤ hiB all (masks all 0 .nil) i (actors tb all 0) 0 := hiB_ge _ 0 (by omega) fun q e hq hf hb => by have := hhi q e hq hf hb; omega
      have hlo' : (planItemB tb all (masks all 0 .nil) (actors tb all 0) o i).lo = loB all (mget (masks all 0 .nil) i) o (actors tb all 0) 0 0 := rfl
      have hhi' : (planItemB tb all (masks all 0 .nil) (actors tb all 0) o i).hi = hiB all (masks all 0 .nil) i (actors tb all 0) 0 := rfl
      by_cases hlt : (planItemB tb all (masks all 0 .nil) (actors tb all 0) o i).lo < (planItemB tb all (masks all 0 .nil) (actors tb all 0) o i).hi
      · have hsn := g.seen i _ (pget i o ho) (by show Nat.beq (sortOf tb o.op) 0 = false; rw [hs]; rfl) (by show Nat.beq (sortOf tb o.op) 1 = true; rw [hs]; rfl) hlt
        have hag2 := againAll_eq hal _ hsn
        simp only at hag2
        obtain ⟨stk, p, r1, r2, r3⟩ := againIn_eq _ _ hag2 (k - (planItemB tb all (masks all 0 .nil) (actors tb all 0) o i).lo) (by rw [hlo', hhi'] at *; omega)
        simp only at r1 r2 r3
        have hkk : (planItemB tb all (masks all 0 .nil) (actors tb all 0) o i).lo + (k - (planItemB tb all (masks all 0 .nil) (actors tb all 0) o i).lo) = k := by rw [hlo']; omega
        rw [hkk] at r1
        obtain ⟨pv, pst⟩ := p
        simp only at r3
        subst r3
        have r2' : stepA tb call all o (F i) stk = some (W i, pst) := r2
        have := (stepA_sort r2').2 hs
        subst this
        exact ⟨pst, pst, r1, r2', r1⟩
      · -- only one place: where it stands in the text
        have hKlo : loB all (mget (masks all 0 .nil) i) o (actors tb all 0) 0 0 ≤ (actors tb all 0).countP (fun e => decide (e < i)) := loB_le _ 0 0 (Nat.zero_le _) fun q e hq hc => by
          have hei : e < i := by
            cases hf : freshAt all e with
            | true =>
              rw [hf, bcase_true] at hc
              have h6 := usersB_eq hus i o ho
              rw [Nat.zero_add] at h6
              exact ((userB_eq h6 q e hq hf).1 hc).1
            | false =>
              rw [hf, bcase_false] at hc
              exact Bf_lt hbk hc
          have hc2 := pos_count actors_sorted hq
          have : (actors tb all 0).countP (fun x => decide (x < e)) < (actors tb all 0).countP (fun x => decide (x < i)) :=
            countP_drop (i := e) (List.mem_of_getElem? hq) (by simp [hei]) (by simp) (fun x hx => by simp at hx ⊢; omega)
          omega
        have hKhi : (actors tb all 0).countP (fun e => decide (e < i)) ≤ hiB all (masks all 0 .nil) i (actors tb all 0) 0 := hiB_ge _ 0 (by have := List.countP_le_length (p := fun e => decide (e < i)) (l := actors tb all 0); omega) fun q e hq hf hb => by
          have hie : i < e := Bf_lt hbk hb
          have hc2 := pos_count actors_sorted hq
          have : (actors tb all 0).countP (fun x => decide (x < i)) ≤ (actors tb all 0).countP (fun x => decide (x < e)) := List.countP_mono_left fun x _ hx => by simp at hx ⊢; omega
          omega
        rw [hlo', hhi'] at hlt
        have hkK : k = (actors tb all 0).countP fun e => decide (e < i) := by omega
        subst hkK
        exact ⟨S i, S i, hKi, q1', hKi⟩
    · obtain ⟨g1, g2⟩ := (stepA_sort q1').1 hs
      have hns : ¬ (sortOf tb o.op = 0) := by omega
      rw [if_neg hns, Nat.add_zero]
      have hlen : (actors tb all 0).length < ss.length := by
        have := hss all.length (Nat.le_refl _)
        have h9 := (List.getElem?_eq_some_iff.1 this).1
        omega
      have hk2 : ss[k]? = some (ss[k]'(by omega)) := by simp
      exact ⟨_, _, hk2, g2 _, hk2⟩

end Go.Ab
