/-
  A PART OF THE PROOF OF EngineNil's TIED CARD: the table of a program, and the primitives that the evaluator is given by hand contracts. No condition beyond those that the theorems below bear.
-/
import Derived.Test.YtceikoofpfcpaaaGreatDoorA8
import Derived.Test.YtceikoofpfcpaaaGreatDoorA9
import Derived.Lib.Bytealg
import Derived.Lib.BytesEntry
import Derived.Lib.MakeNoZero
import Derived.Laws.Externs
import Derived.Laws.IdiomRangeMap
import Derived.Sort.EncStr
import Derived.Sort.KeysCollected
import Derived.Maps.OwnSet
namespace Go.Ab
open Go
variable {P : Program}

/-! The table of a program. -/
theorem ofL_get {α : Type} : ∀ (l : List (Option α)) (i : Nat) (t : T α) (j : Nat), (T.ofL l i t).get j = if i ≤ j ∧ j < i + l.length then (l[j - i]?).join else t.get j := by
  intro l
  induction l with
  | nil => intro i t j; rw [if_neg (by simp)]; rfl
  | cons x l ih =>
    intro i t j
    have hd : T.ofL (x :: l) i t = (T.putO x t i).force (T.ofL l (i + 1)) := rfl
    rw [hd, T.force_eq, ih, T.get_putO]
    by_cases h1 : i + 1 ≤ j ∧ j < i + 1 + l.length
    · rw [if_pos h1, if_pos (by simp; omega)]
      have : j - i = (j - (i + 1)) + 1 := by omega
      rw [this]; simp
    · rw [if_neg h1]
      by_cases h2 : j = i
      · subst h2; rw [if_pos rfl, if_pos (by simp)]; simp
      · rw [if_neg h2, if_neg (by simp; omega)]

theorem mkRow_ok {t : TypeId} {r : Row} (h : mkRow P t = some r) : RowOK P t r := by
  obtain ⟨i, hi, h1⟩ := ob_eq h
  obtain ⟨d, hd, h2⟩ := ob_eq h1
  obtain ⟨z, hz, h3⟩ := ob_eq h2
  obtain ⟨l, hl, h4⟩ := ob_eq h3
  obtain ⟨g1, h5⟩ := gd_eq h4
  obtain ⟨g2, h6⟩ := gd_eq h5
  cases h6
  have e1 := beq_true g1
  rw [llen_eq, Nat.zero_add] at e1
  exact ⟨i, z, hi, hz, hd, rfl, rfl, rfl, e1, hl, (beqb_true g2).symm⟩

noncomputable def rowsOf (P : Program) : T Row := T.ofL ((List.range P.types.size).map (mkRow P)) 0 .nil
noncomputable def funcsOf (P : Program) : T Func := T.ofL (P.funcs.toList.map some) 0 .nil
noncomputable def tabOf (P : Program) : Tab := ⟨rowsOf P, funcsOf P⟩

/-- what is asked of each function. -/
noncomputable def funcOK (fd : Func) : Bool := bcase (fd.name == "runtime.NumGoroutine") false (ocase fd.body true (fitsC fd.ntmps))
noncomputable def funcsOK (l : List Func) : Bool := lrec true (fun fd _ ih => bcase (funcOK fd) ih false) l

theorem funcsOK_eq : ∀ {l : List Func}, funcsOK l = true → ∀ fd ∈ l, funcOK fd = true := by
  intro l
  induction l with
  | nil => intro _ fd h; cases h
  | cons a l ih =>
    intro h fd hm
    obtain ⟨h1, h2⟩ := and_true' (p := funcOK a) (q := funcsOK l) h
    rcases List.mem_cons.1 hm with e | e
    · subst e; exact h1
    · exact ih h2 fd e

theorem tabOf_ok (h : funcsOK P.funcs.toList = true) : TabOK P (tabOf P) := by
  have hf : ∀ f fd, (funcsOf P).get f = some fd → P.funcs[f]? = some fd := by
    intro f fd hh
    unfold funcsOf at hh
    rw [ofL_get] at hh
    split at hh
    · simp only [Nat.sub_zero, List.getElem?_map] at hh
      cases hx : P.funcs.toList[f]? with
      | none => rw [hx] at hh; cases hh
      | some x => rw [hx] at hh; cases hh; simpa using hx
    · cases hh
  have hk : ∀ f fd, (funcsOf P).get f = some fd → funcOK fd = true := by
    intro f fd hh
    have := hf f fd hh
    exact funcsOK_eq h fd (List.mem_of_getElem? (i := f) (by simpa using this))
  refine ⟨?_, hf, ?_, ?_⟩
  · intro t r hh
    have hh' : (rowsOf P).get t = some r := hh
    unfold rowsOf at hh'
    rw [ofL_get] at hh'
    split at hh'
    · rename_i hlt
      simp only [Nat.sub_zero, List.getElem?_map, List.length_map, List.length_range] at hh' hlt
      rw [List.getElem?_range (by omega)] at hh'
      exact mkRow_ok (by simpa using hh')
    · cases hh'
  · intro f fd hh
    have := hk f fd hh
    unfold funcOK at this
    rw [bcase_eq] at this
    split at this
    · cases this
    · rename_i h1; simpa using h1
  · intro f fd c hh hb
    have := hk f fd hh
    unfold funcOK at this
    rw [bcase_eq] at this
    split at this
    · cases this
    · rw [hb] at this; exact this

end Go.Ab

namespace Go.Ab
open Go
variable {P : Program} {tb : Tab} {call : CallF} {ρ : Ren} {st st' : St} {w : World}

/-! Functions of the library that the evaluator is given: Compare and MakeNoZero of internal/bytealg. -/
noncomputable def bytesK (st : St) (v : V) : Option (List UInt8) :=
  match v with
  | .nilsl => some []
  | .slE => some []
  | .sl b off len _ _ _ => ob (readCs st b off len) toBytes
  | .str s => some s
  | _ => none

theorem cell_at (h : Rel ρ st w) {b off k : Nat} {l : List V} {p : Pl} (hr : readCs st b off k = some l) (hp : ρ b = some p) :
    ∃ l', RelL ρ l l' ∧ l'.length = k ∧ ∀ j x, l'[j]? = some x → w.cell? ⟨p.blk, p.base + off + j, none⟩ = some x := by
  obtain ⟨n, c, ro, hb, hx⟩ := atCells_eq hr
  obtain ⟨h1, h2⟩ := readN_eq k off l hx
  obtain ⟨arr, e, lo, hi, ho, hn, hl, hf, hc⟩ := h.cells hb hp
  have key : ∀ j v, l[j]? = some v → ∃ v', arr[p.base + (off + j)]? = some v' ∧ RelV ρ v v' := by
    intro j v hj
    obtain ⟨q1, q2⟩ := h2 j v hj
    exact (hc _ v q1 q2).2
  refine ⟨(List.range k).map (fun j => arr.getD (p.base + (off + j)) undef), ?_, by simp, ?_⟩
  · refine RelL.mk (by simp [h1]) ?_
    intro j v v' hj hj'
    obtain ⟨u, hu, hv⟩ := key j v hj
    simp only [List.getElem?_map] at hj'
    have hjk : j < k := by rw [← h1]; exact (List.getElem?_eq_some_iff.1 hj).1
    simp only [List.getElem?_range hjk, Option.map_some, Option.some.injEq] at hj'
    rw [← hj', Array.getD_eq_getD_getElem?, hu]
    exact hv
  · intro j x hj
    rw [cell_of ho]
    simp only [List.getElem?_map] at hj
    have hjk : j < k := by
      rcases Nat.lt_or_ge j k with h | h
      · exact h
      · rw [List.getElem?_eq_none (by simpa using h)] at hj; cases hj
    simp only [List.getElem?_range hjk, Option.map_some, Option.some.injEq] at hj
    obtain ⟨u, hu, _⟩ := key j (l[j]'(by omega)) (by simp)
    rw [Array.getD_eq_getD_getElem?, hu] at hj
    simp at hj
    rw [show p.base + off + j = p.base + (off + j) by omega, hu, hj]

theorem bytesK_sound (h : Rel ρ st w) {v : V} {v' : Value} {s : List UInt8} (h0 : bytesK st v = some s) (hv : RelV ρ v v') :
    (Extern.Bytes.bytesOf v').run P w = .ok ⟨s.toArray⟩ w := by
  unfold bytesK at h0
  cases v <;> first | (cases h0; done) | skip
  case nilsl => cases h0; cases hv; rfl
  case slE => cases h0; cases hv; rfl
  case str t => cases h0; cases hv; rfl
  case sl b off len cap ex sz =>
    obtain ⟨l, h1, h2⟩ := ob_eq h0
    cases hv with
    | sl _ _ _ _ _ _ p c hp hcap hex hlen hlim =>
      obtain ⟨l', g1, g2, g3⟩ := cell_at h h1 hp
      obtain ⟨ns, e1, e2⟩ := toBytes_sound h2 g1
      have hlen : ns.length = len := by rw [← g2, e1]; simp
      have hl := Lib.run_loadBytesX (P := P) w ns ⟨p.blk, p.base + off, none⟩ .empty (fun j x hj => by
        rw [addr_add]
        exact g3 j _ (by rw [e1]; simp [hj]))
      rw [hlen] at hl
      show (Extern.Bytes.loadBytes ⟨p.blk, p.base + off, none⟩ len .empty).run P w = _
      rw [hl]
      congr 1
      apply ByteArray.ext
      show (#[] : Array UInt8) ++ (Lib.bytesOf ns).toArray = s.toArray
      rw [← e2]
      simp [Lib.bytesOf]

noncomputable def cmpI (x : List UInt8) : List UInt8 → Int :=
  lrec (fun y => lcase y 0 fun _ _ => -1) (fun a _ ih y => lcase y 1 fun b y => bcase (Nat.blt a.toNat b.toNat) (-1) (bcase (Nat.blt b.toNat a.toNat) 1 (ih y))) x
theorem cmpI_eq : ∀ (x y : List UInt8), cmpI x y = Lib.compareBytes x y
  | [], [] => rfl
  | [], _ :: _ => rfl
  | _ :: _, [] => rfl
  | a :: x, b :: y => by
    have hd : cmpI (a :: x) (b :: y) = bcase (Nat.blt a.toNat b.toNat) (-1) (bcase (Nat.blt b.toNat a.toNat) 1 (cmpI x y)) := rfl
    rw [hd, cmpI_eq x y, bcase_eq, bcase_eq]
    simp only [Lib.compareBytes, UInt8.lt_iff_toNat_lt, Nat.blt_eq]

noncomputable def pCmp (args : List V) (st : St) : Res := arg2 args fun a b => ob (bytesK st a) fun x => ob (bytesK st b) fun y => some (.int .i64 (cmpI x y), st)

theorem arg2_eq {β : Type} {l : List V} {f : V → V → Option β} {y : β} (h : arg2 l f = some y) : ∃ a b, l = [a, b] ∧ f a b = some y := by
  cases l with
  | nil => cases h
  | cons a l => cases l with
    | nil => cases h
    | cons b l => cases l with
      | nil => exact ⟨a, b, rfl, h⟩
      | cons c l => cases h
theorem arg1_eq {β : Type} {l : List V} {f : V → Option β} {y : β} (h : arg1 l f = some y) : ∃ a, l = [a] ∧ f a = some y := by
  cases l with
  | nil => cases h
  | cons a l => cases l with
    | nil => exact ⟨a, rfl, h⟩
    | cons c l => cases h
theorem rel1 {a : V} {args' : Array Value} (h : RelL ρ [a] args'.toList) : ∃ a', args' = #[a'] ∧ RelV ρ a a' := by
  obtain ⟨l⟩ := args'
  cases h with
  | cons _ a' _ l' h hl => cases hl; exact ⟨a', rfl, h⟩
theorem rel2 {a b : V} {args' : Array Value} (h : RelL ρ [a, b] args'.toList) : ∃ a' b', args' = #[a', b'] ∧ RelV ρ a a' ∧ RelV ρ b b' := by
  obtain ⟨l⟩ := args'
  cases h with
  | cons _ a' _ l' h hl => cases hl with
    | cons _ b' _ l'' h2 hl2 => cases hl2; exact ⟨a', b', rfl, h, h2⟩

/-- what a primitive owes, at one function. -/
def PrimAt (P : Program) (f : FuncId) (p : CallF → List V → St → Res) : Prop :=
  ∀ call, CallOK P call → ∀ args v st st', p call args st = some (v, st') → ∀ (ρ : Ren) (w : World) (args' : Array Value), Glob ρ → Rel ρ st w → RelL ρ args args'.toList →
    ((callFunc f args').run P w = .ok (.enter f args') w ∧ Calls P f args' w (Post ρ st w v st')) ∨
    (∃ v' ρ' w', (callFunc f args').run P w = .ok (.value v') w' ∧ Rel ρ' st' w' ∧ Ext ρ st w ρ' st' w' ∧ RelV ρ' v v')

theorem cmp_prim {f : FuncId} {fn : Func} (hf : P.funcs[f]? = some fn) (hname : (fn.name == "runtime.NumGoroutine") = false) (hb : fn.body.isNone = true) (hn : Extern.findNext fn = none)
    (he : Extern.find fn = some Extern.BytealgCompare.compare) : PrimAt P f fun _ => pCmp := by
  intro call hc args v st st' h ρ w args' hg hr ha
  obtain ⟨a, b, rfl, h⟩ := arg2_eq h
  obtain ⟨x, h1, h⟩ := ob_eq h
  obtain ⟨y, h2, h⟩ := ob_eq h
  cases h
  obtain ⟨a', b', rfl, ra, rb⟩ := rel2 ha
  refine .inr ⟨.int .i64 (cmpI x y), ρ, w, ?_, hr, Ext.refl _ _ _, .int _ _⟩
  rw [run_callFunc_extern hf hname hb hn he]
  have : (Extern.BytealgCompare.compare #[a', b']).run P w = .ok (.int .i64 (cmpI x y)) w := by
    change Sem.run P (do pure (goInt (Extern.BytealgCompare.cmp (← Extern.Bytes.bytesOf a') (← Extern.Bytes.bytesOf b')))) w = _
    simp only [Sem.run_bind, Sem.run_pure, bytesK_sound (P := P) hr h1 ra, bytesK_sound (P := P) hr h2 rb, Result.andThen]
    rw [Lib.cmp_eq, cmpI_eq]
    rfl
  rw [this]
  rfl

theorem nat64_val {a : V} {a' : Value} {n : Nat} (h1 : nat64 a = some n) (ra : RelV ρ a a') : a' = .int .i64 (n : Int) := by
  unfold nat64 at h1
  cases a <;> first | (cases h1; done) | skip
  case int k m =>
    cases k <;> first | (cases h1; done) | skip
    cases m with
    | negSucc q => cases h1
    | ofNat q => cases h1; cases ra; rfl

noncomputable def pNoZero (args : List V) (st : St) : Res := arg1 args fun n => ob (nat64 n) fun n => gd (Nat.ble n 281474976710656) (ob2 (newBlk st (.cells n .nil false)) fun b st => some (.sl b 0 n n false 1, st))

theorem noZero_prim {f : FuncId} {fn : Func} {ps : Array TypeId} {t e : TypeId} (hf : P.funcs[f]? = some fn) (hname : (fn.name == "runtime.NumGoroutine") = false) (hb : fn.body.isNone = true) (hn : Extern.findNext fn = none)
    (he : Extern.find fn = some (Extern.BytealgMakeNoZero.makeNoZero ps #[t])) (ht : P.underlying t = some (.slice e)) : PrimAt P f fun _ => pNoZero := by
  intro call hc args v st st' h ρ w args' hg hr ha
  obtain ⟨a, rfl, h⟩ := arg1_eq h
  obtain ⟨n, h1, h⟩ := ob_eq h
  obtain ⟨h2, h⟩ := gd_eq h
  obtain ⟨b, st1, h3, h⟩ := ob2_eq h
  cases h
  have h2' := ble_true h2
  obtain ⟨a', rfl, ra⟩ := rel1 ha
  have hav : a' = .int .i64 (n : Int) := by
    exact nat64_val h1 ra
  subst hav
  obtain ⟨cs, g1, g2, _⟩ := Lib.run_makeNoZero (P := P) w ps t e ht n h2'
  obtain ⟨e1, e2⟩ := newBlk_eq h3
  subst e1 e2
  have hr2 : Rel ρ st w.drew.drew := (hr.drew _).drew _
  have hx2 : Ext ρ st w ρ st w.drew.drew := (Ext.drew ρ st w (w.drawn + 1)).trans (Ext.drew ρ st _ (w.drawn + 1 + 1))
  obtain ⟨k1, k2⟩ := hr2.new (k := .cells n .nil false) (o := .cells cs e (0, 0)) cs.size (.cells _ _ _ _ _ _ _ _ g2 (by show 0 + cs.size ≤ cs.size; omega) (fun _ => .inl rfl) (fun i v _ hv => by cases hv))
  refine .inr ⟨.slice (some ⟨w.heap.size, 0, none⟩) n cs.size, _, _, ?_, k1, hx2.trans k2, ?_⟩
  · rw [run_callFunc_extern hf hname hb hn he, g1]
    rfl
  · exact RelV.sl st.next 0 n n false 1 ⟨w.heap.size, 0, cs.size⟩ cs.size (Ren.set_self _ _ _) g2 (fun e => by cases e) (Nat.le_refl _) (by show 0 + cs.size * 1 ≤ cs.size; omega)

end Go.Ab

namespace Go.Ab
open Go
variable {P : Program} {tb : Tab} {ρ : Ren} {st st' : St} {w : World}

/-! States that hold less. -/
noncomputable def T.none' {α : Type} (t : T α) : Bool := T.rec (motive := fun _ => Bool) true (fun _ x _ a b => ocase x (bcase a b false) fun _ => false) t
noncomputable def T.tcase {α β : Type} (t : T α) (z : β) (f : T α → Option α → T α → β) : β := T.rec (motive := fun _ => β) z (fun l x r _ _ => f l x r) t
/-- each entry of a trie stands in another one, up to a comparison. -/
noncomputable def T.subB {α : Type} (f : α → α → Bool) (t : T α) : T α → Bool :=
  T.rec (motive := fun _ => T α → Bool) (fun _ => true)
    (fun l x r a b t2 => T.tcase t2 (T.none' (.node l x r)) fun l2 x2 r2 => bcase (ocase x true fun u => ocase x2 false fun v => f u v) (bcase (a l2) (b r2) false) false) t

theorem T.none_get {α : Type} : ∀ {t : T α}, T.none' t = true → ∀ i, t.get i = none := by
  intro t
  induction t with
  | nil => intro _ i; rfl
  | node l x r ihl ihr =>
    intro h i
    have h' : ocase x (bcase (T.none' l) (T.none' r) false) (fun _ => false) = true := h
    cases x with
    | some x => cases h'
    | none =>
      rw [ocase_none] at h'
      obtain ⟨h1, h2⟩ := and_true' h'
      cases i with
      | zero => rfl
      | succ k =>
        rw [T.get_node_succ]
        split
        · exact ihl h1 _
        · exact ihr h2 _

theorem T.subB_get {α : Type} {f : α → α → Bool} : ∀ {t t2 : T α}, T.subB f t t2 = true → ∀ i a, t.get i = some a → ∃ b, t2.get i = some b ∧ f a b = true := by
  intro t
  induction t with
  | nil => intro t2 _ i a h; cases h
  | node l x r ihl ihr =>
    intro t2 h i a hi
    cases t2 with
    | nil =>
      have h' : T.none' (.node l x r) = true := h
      rw [T.none_get h' i] at hi
      cases hi
    | node l2 x2 r2 =>
      have h' : bcase (ocase x true fun u => ocase x2 false fun v => f u v) (bcase (T.subB f l l2) (T.subB f r r2) false) false = true := h
      obtain ⟨h1, h2⟩ := and_true' h'
      obtain ⟨h3, h4⟩ := and_true' h2
      cases i with
      | zero =>
        have hx : x = some a := hi
        subst hx
        rw [ocase_some] at h1
        cases x2 with
        | none => cases h1
        | some v => exact ⟨v, rfl, h1⟩
      | succ k =>
        rw [T.get_node_succ] at hi ⊢
        split at hi
        · rename_i hk; rw [if_pos hk]; exact ihl h3 _ _ hi
        · rename_i hk; rw [if_neg hk]; exact ihr h4 _ _ hi

/-- two tries, the same. -/
noncomputable def T.eqB {α : Type} (f : α → α → Bool) (t : T α) : T α → Bool :=
  T.rec (motive := fun _ => T α → Bool) (fun t2 => T.tcase t2 true fun _ _ _ => false)
    (fun _ x _ a b t2 => T.tcase t2 false fun l2 x2 r2 => bcase (ocase x (ocase x2 true fun _ => false) fun u => ocase x2 false fun v => f u v) (bcase (a l2) (b r2) false) false) t
theorem T.eqB_eq {α : Type} {f : α → α → Bool} (hf : ∀ a b, f a b = true → a = b) : ∀ {t t2 : T α}, T.eqB f t t2 = true → t = t2 := by
  intro t
  induction t with
  | nil =>
    intro t2 h
    cases t2 with
    | nil => rfl
    | node => cases h
  | node l x r ihl ihr =>
    intro t2 h
    cases t2 with
    | nil => cases h
    | node l2 x2 r2 =>
      have h' : bcase (ocase x (ocase x2 true fun _ => false) fun u => ocase x2 false fun v => f u v) (bcase (T.eqB f l l2) (T.eqB f r r2) false) false = true := h
      obtain ⟨h1, h2⟩ := and_true' h'
      obtain ⟨h3, h4⟩ := and_true' h2
      rw [ihl h3, ihr h4]
      congr 1
      cases x with
      | none => cases x2 with
        | none => rfl
        | some v => cases h1
      | some u => cases x2 with
        | none => cases h1
        | some v => rw [hf u v h1]

noncomputable def entEq (a b : Ent) : Bool := bcase (veq a.1 b.1) (bcase (veq a.2.1 b.2.1) (Nat.beq a.2.2 b.2.2) false) false
noncomputable def entsEq (a : List Ent) : List Ent → Bool := lrec (fun b => lcase b true fun _ _ => false) (fun x _ ih b => lcase b false fun y b => bcase (entEq x y) (ih b) false) a
theorem entsEq_eq : ∀ {a b : List Ent}, entsEq a b = true → a = b := by
  intro a
  induction a with
  | nil => intro b h; cases b with
    | nil => rfl
    | cons => cases h
  | cons x a ih =>
    intro b h
    cases b with
    | nil => cases h
    | cons y b =>
      obtain ⟨h1, h2⟩ := and_true' (p := entEq x y) (q := entsEq a b) h
      obtain ⟨h3, h4⟩ := and_true' h1
      obtain ⟨h5, h6⟩ := and_true' h4
      obtain ⟨x1, x2, x3⟩ := x
      obtain ⟨y1, y2, y3⟩ := y
      have e1 : x1 = y1 := veq_sound h3
      have e2 : x2 = y2 := veq_sound h5
      have e3 : x3 = y3 := beq_true h6
      rw [e1, e2, e3, ih h2]

/-- does a block hold no more than another? -/
noncomputable def blkSub (a b : Blk) : Bool :=
  match a with
  | .cells n c ro => match b with
    | .cells m d so => bcase (Nat.beq n m) (bcase ro (bcase so (T.eqB veq c d) false) (bcase so false (T.subB veq c d))) false
    | _ => false
  | .map t es => match b with
    | .map u fs => bcase (Nat.beq t u) (entsEq es fs) false
    | _ => false
  | _ => false
noncomputable def stSub (a b : St) : Bool := bcase (Nat.ble b.next a.next) (T.subB blkSub a.heap b.heap) false

theorem blkSub_rel {a b : Blk} (h : blkSub a b = true) : (a.rw ↔ b.rw) ∧ (∀ n c, a = .cells n c true → b = .cells n c true) ∧ ∀ {p : Pl} {o : Obj}, RelBlk ρ b p o → RelBlk ρ a p o := by
  unfold blkSub at h
  cases a with
  | cells n c ro =>
    cases b with
    | cells m d so =>
      obtain ⟨h1, h2⟩ := and_true' (p := Nat.beq n m) (q := bcase ro (bcase so (T.eqB veq c d) false) (bcase so false (T.subB veq c d))) h
      have e1 := beq_true h1
      subst e1
      cases ro with
      | true =>
        rw [bcase_true] at h2
        obtain ⟨h3, h4⟩ := and_true' (p := so) (q := T.eqB veq c d) h2
        subst h3
        have := T.eqB_eq (fun a b hh => veq_sound hh) h4
        subst this
        exact ⟨Iff.rfl, fun _ _ e => e, fun h => h⟩
      | false =>
        rw [bcase_false] at h2
        cases so with
        | true => cases h2
        | false =>
          rw [bcase_false] at h2
          refine ⟨Iff.rfl, fun _ _ e => (by cases e), fun h => ?_⟩
          cases h with
          | cells _ _ _ p arr e lo hi hn hl hf hc hro =>
            refine .cells _ _ _ _ _ _ _ _ hn hl hf ?_ hro
            intro i v hi hv
            obtain ⟨u, g1, g2⟩ := T.subB_get h2 i v hv
            have e2 : v = u := veq_sound g2
            rw [e2]
            exact hc i u hi g1
    | _ => cases h
  | map t es =>
    cases b with
    | map u fs =>
      obtain ⟨h1, h2⟩ := and_true' (p := Nat.beq t u) (q := entsEq es fs) h
      have e1 := beq_true h1
      have e2 := entsEq_eq h2
      subst e1 e2
      exact ⟨Iff.rfl, fun _ _ e => (by cases e), fun h => h⟩
    | _ => cases h
  | _ => cases h

theorem Rel.sub {st1 : St} (h : Rel ρ st w) (hs : stSub st1 st = true) : Rel ρ st1 w ∧ Ext ρ st w ρ st1 w := by
  obtain ⟨h1, h2⟩ := and_true' (p := Nat.ble st.next st1.next) (q := T.subB blkSub st1.heap st.heap) hs
  have h1' := ble_true h1
  have hown : ∀ i, Own ρ st1 i → Own ρ st i := by
    rintro i ⟨b, k, p, g1, g2, g3, g4⟩
    obtain ⟨k2, q1, q2⟩ := T.subB_get h2 b k g1
    exact ⟨b, k2, p, q1, (blkSub_rel (ρ := ρ) q2).1.1 g2, g3, g4⟩
  refine ⟨⟨?_, fun b p hb => Nat.lt_of_lt_of_le (h.fresh b p hb) h1', ?_⟩, Ren.le_refl _, rfl, rfl, rfl, Nat.le_refl _, fun i _ hn => ⟨rfl, fun ho => hn (hown i ho)⟩, ?_⟩
  · intro b k hb
    obtain ⟨k2, q1, q2⟩ := T.subB_get h2 b k hb
    obtain ⟨p, o, g1, g2, g3⟩ := h.blk b k2 q1
    exact ⟨p, o, g1, g2, (blkSub_rel (ρ := ρ) q2).2.2 g3⟩
  · intro b b' k k' p p' hb hb' hp hp' hh
    obtain ⟨k2, q1, _⟩ := T.subB_get h2 b k hb
    obtain ⟨k3, q3, _⟩ := T.subB_get h2 b' k' hb'
    exact h.inj b b' k2 k3 p p' q1 q3 hp hp' hh
  · intro b n c hb
    obtain ⟨k2, q1, q2⟩ := T.subB_get h2 b _ hb
    rw [q1, (blkSub_rel (ρ := ρ) q2).2.1 n c rfl]

/-! A call whose run is known. -/
theorem vlist_eq' {f : V → V → Bool} (hf : ∀ a b, f a b = true → a = b) : ∀ {a b : List V}, vlist f a b = true → a = b := by
  intro a
  induction a with
  | nil => intro b h; cases b with
    | nil => rfl
    | cons => cases h
  | cons x a ih =>
    intro b h
    cases b with
    | nil => cases h
    | cons y b =>
      obtain ⟨h1, h2⟩ := and_true' (p := f x y) (q := vlist f a b) h
      rw [hf x y h1, ih h2]

structure Seg where
  f : FuncId
  args : List V
  s0 : St
  v : V
  s1 : St

/-- does a call's known run stand for this one? -/
noncomputable def Seg.fits (s : Seg) (f : FuncId) (args : List V) (st : St) : Bool :=
  bcase (Nat.beq s.f f) (bcase (vlist veq s.args args) (stSub s.s0 st) false) false
noncomputable def segP (l : List Seg) : PrimF := fun _ f args st => lrec none (fun s _ ih => bcase (s.fits f args st) (some (some (s.v, s.s1))) ih) l
noncomputable def orP (p q : PrimF) : PrimF := fun call f args st => ocase (p call f args st) (q call f args st) some

/-- a segment's run, as the kernel has reckoned it. -/
noncomputable def segOK (s : Seg) (r : Res) : Bool := ocase r false fun p => bcase (veq s.v p.1) (stSub s.s1 p.2) false

theorem orP_ok {p q : PrimF} (hp : PrimOK P p) (hq : PrimOK P q) : PrimOK P (orP p q) := by
  intro call hc f args v st st' h
  unfold orP at h
  cases hx : p call f args st with
  | some r =>
    rw [hx, ocase_some] at h
    rw [h] at hx
    exact hp call hc f args v st st' hx
  | none =>
    rw [hx, ocase_none] at h
    exact hq call hc f args v st st' h

theorem Post.weak {ρ : Ren} {st0 st1 st2 st3 : St} {w : World} {v : V} {e : Ending} {w' : World} (h0 : Ext ρ st0 w ρ st1 w) (hs : stSub st3 st2 = true) (h : Post ρ st1 w v st2 e w') : Post ρ st0 w v st3 e w' := by
  obtain ⟨v', ρ', e1, e2, e3, e4⟩ := h
  obtain ⟨g1, g2⟩ := e2.sub hs
  exact ⟨v', ρ', e1, g1, (h0.trans e3).trans g2, e4⟩

theorem segP_ok {call0 : CallF} (hc0 : CallOK P call0) : ∀ {l : List Seg}, (∀ s ∈ l, segOK s (call0 (.func s.f) s.args s.s0) = true) → PrimOK P (segP l) := by
  intro l
  induction l with
  | nil => intro _ call _ f args v st st' h; cases h
  | cons s l ih =>
    intro hl call hc f args v st st' h ρ w args' hg hr ha
    have h' : bcase (s.fits f args st) (some (some (s.v, s.s1))) (segP l call f args st) = some (some (v, st')) := h
    cases hx : s.fits f args st with
    | false =>
      rw [hx, bcase_false] at h'
      exact ih (fun s hs => hl s (List.mem_cons_of_mem _ hs)) call hc f args v st st' h' ρ w args' hg hr ha
    | true =>
      rw [hx, bcase_true] at h'
      cases h'
      obtain ⟨g1, g2⟩ := and_true' (p := Nat.beq s.f f) (q := bcase (vlist veq s.args args) (stSub s.s0 st) false) hx
      obtain ⟨g3, g4⟩ := and_true' g2
      have e1 := beq_true g1
      have e2 := vlist_eq' (fun a b hh => veq_sound hh) g3
      subst e1 e2
      obtain ⟨r1, r2⟩ := hr.sub g4
      have hok := hl s List.mem_cons_self
      unfold segOK at hok
      cases hres : call0 (.func s.f) s.args s.s0 with
      | none => rw [hres] at hok; cases hok
      | some p =>
        rw [hres, ocase_some] at hok
        obtain ⟨g5, g6⟩ := and_true' hok
        obtain ⟨v1, st1⟩ := p
        have e3 : s.v = v1 := veq_sound g5
        subst e3
        rcases hc0.func s.f s.args s.v s.s0 st1 hres ρ w args' hg r1 ha with ⟨k1, k2⟩ | ⟨v', ρ', w', k1, k2, k3, k4⟩
        · exact .inl ⟨k1, Calls.mono k2 fun e w' he => Post.weak r2 g6 he⟩
        · obtain ⟨k5, k6⟩ := k2.sub g6
          exact .inr ⟨v', ρ', w', k1, k5, (r2.trans k3).trans k6, k4⟩

end Go.Ab

namespace Go.Ab
open Go
variable {P : Program}

/-! A range over a map, whatever order the tape says: as the kit's law, but the tape stands. -/
theorem run_next_mapT (w : World) (ty : TypeId) (bm since c0 : Nat) (seen : Array Nat) (es : Array MapEntry) (clock : Nat) (hb : w.heap[bm]? = some (.map es clock)) (hold : ∀ x ∈ es.toList, x.born < since) (hsc : since ≤ c0) :
    ((leftOf es seen).size = 0 ∧ (Instr.next (.pointer (some ⟨w.heap.size, 0, none⟩)) false ty).run P (w.alloc (.mapIter (some bm) since seen c0)) = .ok (.tuple #[.bool false]) (w.alloc (.mapIter (some bm) since seen c0))) ∨
    ∃ e ∈ (leftOf es seen).toList, ∃ k : Nat, (Instr.next (.pointer (some ⟨w.heap.size, 0, none⟩)) false ty).run P (w.alloc (.mapIter (some bm) since seen c0)) = .ok (.tuple #[.bool true, e.key, e.val]) (({ w with drawn := k } : World).alloc (.mapIter (some bm) since (seen.push e.born) clock)) := by
  have hlt : bm < w.heap.size := by
    rcases Nat.lt_or_ge bm w.heap.size with h | h
    · exact h
    · simp [Array.getElem?_eq_none h] at hb
  have hb' : (w.alloc (.mapIter (some bm) since seen c0)).heap[bm]? = some (.map es clock) := by rw [heap_alloc_old w _ hlt, hb]
  simp only [Instr.next, getObj, Sem.run_bind, Sem.run, heap_alloc_new, hb', Result.andThen, next_test_false seen es since c0 hold hsc, Bool.false_eq_true, if_false]
  unfold leftOf
  have hmem : ∀ x ∈ (Array.filter (fun e => !seen.contains e.born) es).toList, x.born < since := fun x hx => hold x (by simp at hx ⊢; exact hx.1)
  generalize Array.filter (fun e => !seen.contains e.born) es = L at hmem ⊢
  have e1 : L.filter (fun x => decide (x.born < since)) = L := Array.filter_eq_self.2 (fun x hx => by simpa using hmem x (by simpa using hx))
  have e2 : L.filter (fun x => decide (x.born ≥ since)) = #[] := by
    rw [Array.filter_eq_empty_iff]
    intro x hx
    have := hmem x (by simpa using hx)
    simp
    omega
  simp only [e1, e2, Array.append_empty]
  by_cases h0 : L.size = 0
  · left
    have : L = #[] := Array.eq_empty_of_size_eq_zero h0
    subst this
    refine ⟨rfl, ?_⟩
    simp [choose, Sem.run, Question.forced]
  · right
    have hne : L.isEmpty = false := by simp [Array.isEmpty, h0]
    simp only [hne, Bool.false_eq_true, if_false, Array.empty_append, Array.size_map]
    have hch : ∃ (j : Nat) (k : Nat), j < L.size ∧ (choose (Question.mapNext L.size)).run P (w.alloc (.mapIter (some bm) since seen c0)) = .ok j (({ w with drawn := k } : World).alloc (.mapIter (some bm) since seen c0)) := by
      by_cases hf : L.size ≤ 1
      · exact ⟨0, w.drawn, by omega, by simp [choose, Sem.run, Question.forced, hf]⟩
      · exact ⟨_, w.drawn + 1, Nat.mod_lt _ (by omega), by
          simp only [choose, Sem.run, Question.forced, decide_eq_true_eq, hf, if_false, Question.cut]
          rfl⟩
    obtain ⟨j, k, hj, hrun⟩ := hch
    refine ⟨L[j], by simp, k, ?_⟩
    have hp : ∀ (h : Array Obj) (x y : Obj), (h.push x).setIfInBounds h.size y = h.push y := by
      intro h x y
      apply Array.toList_inj.1
      simp
    have hset : ∀ (a : Option Nat) (b : Nat) (c : Array Nat) (d : Nat) (o' : Obj), (setObj w.heap.size o').run P (({ w with drawn := k } : World).alloc (.mapIter a b c d)) = .ok () (({ w with drawn := k } : World).alloc o') := fun a b c d o' => by
      simp only [setObj, Sem.run]
      have hh : (({ w with drawn := k } : World).alloc (.mapIter a b c d)).heap[w.heap.size]? = some (.mapIter a b c d) := heap_alloc_new ({ w with drawn := k } : World) _
      rw [hh]
      show Result.ok () ({ ({ w with drawn := k } : World).alloc (.mapIter a b c d) with heap := (w.heap.push (.mapIter a b c d)).setIfInBounds w.heap.size o' } : World) = _
      rw [hp]
      rfl
    simp only [hrun, Array.getElem?_map, Array.getElem?_eq_getElem hj, Option.map_some, Sem.run_bind, hset, Result.andThen]
    rfl

/-- what has been met, added up. -/
def seenN (f : MapEntry → Nat) : List MapEntry → Array Nat → Nat
  | [], _ => 0
  | x :: l, seen => (if seen.contains x.born then f x else 0) + seenN f l seen
theorem seenN_other (f : MapEntry → Nat) (seen : Array Nat) (b : Nat) : ∀ (es : List MapEntry), b ∉ es.map (·.born) → seenN f es (seen.push b) = seenN f es seen
  | [], _ => rfl
  | x :: l, h => by
    have hx : (x.born == b) = false := by
      cases hc : x.born == b with
      | false => rfl
      | true => exact absurd (List.mem_cons.2 (Or.inl (beq_iff_eq.1 hc).symm)) h
    have ih := seenN_other f seen b l (fun e => h (List.mem_cons.2 (Or.inr e)))
    simp only [seenN, contains_push, hx, Bool.or_false, ih]
theorem seenN_push (f : MapEntry → Nat) (seen : Array Nat) (e : MapEntry) (hs : seen.contains e.born = false) : ∀ (es : List MapEntry), (es.map (·.born)).Nodup → e ∈ es → seenN f es (seen.push e.born) = seenN f es seen + f e
  | x :: l, hn, he => by
    have hn' : x.born ∉ l.map (·.born) ∧ (l.map (·.born)).Nodup := List.nodup_cons.1 hn
    rcases List.mem_cons.1 he with rfl | h
    · simp only [seenN, contains_push, hs, beq_self_eq_true, Bool.or_true, if_true, Bool.false_eq_true, if_false, seenN_other f seen e.born l hn'.1]
      omega
    · have hx : (x.born == e.born) = false := by
        cases hc : x.born == e.born with
        | false => rfl
        | true => exact absurd (by rw [beq_iff_eq.1 hc]; exact List.mem_map.2 ⟨e, h, rfl⟩) hn'.1
      simp only [seenN, contains_push, hx, Bool.or_false, seenN_push f seen e hs l hn'.2 h]
      omega
theorem seenN_full (f : MapEntry → Nat) (seen : Array Nat) : ∀ (es : List MapEntry), (∀ x ∈ es, seen.contains x.born = true) → seenN f es seen = (es.map f).sum
  | [], _ => rfl
  | x :: l, h => by
    simp only [seenN, h x (List.mem_cons.2 (Or.inl rfl)), if_true, List.map_cons, List.sum_cons, seenN_full f seen l (fun y hy => h y (List.mem_cons.2 (Or.inr hy)))]
theorem seenN_none (f : MapEntry → Nat) : ∀ (es : List MapEntry), seenN f es #[] = 0
  | [] => rfl
  | x :: l => by
    have : (#[] : Array Nat).contains x.born = false := by simp
    simp only [seenN, this, Bool.false_eq_true, if_false, seenN_none f l]
theorem seenN_le (f : MapEntry → Nat) (seen : Array Nat) : ∀ (es : List MapEntry), seenN f es seen ≤ (es.map f).sum
  | [] => Nat.le_refl _
  | x :: l => by
    have := seenN_le f seen l
    simp only [seenN, List.map_cons, List.sum_cons]
    split <;> omega
end Go.Ab

namespace Go.Ab
open Go Go.RowKit
variable {P : Program} {tb : Tab} {ρ : Ren} {st st' : St} {w : World}

/-! Functions of the program that are given to the evaluator by hand: what their proofs share. -/
noncomputable def primOf (f0 : FuncId) (p : CallF → List V → St → Res) : PrimF := fun call f args st => bcase (Nat.beq f f0) (ocase (p call args st) none fun r => some (some r)) none
theorem primOf_ok {f0 : FuncId} {p : CallF → List V → St → Res} (hp : PrimAt P f0 p) : PrimOK P (primOf f0 p) := by
  intro call hc f args v st st' h ρ w args' hg hr ha
  have h' : bcase (Nat.beq f f0) (ocase (p call args st) none fun r => some (some r)) none = some (some (v, st')) := h
  rcases bcase_some h' with ⟨h1, h2⟩ | ⟨_, h2⟩
  · rw [beq_true h1]
    cases hx : p call args st with
    | none => rw [hx] at h2; cases h2
    | some r =>
      rw [hx] at h2
      cases h2
      exact hp call hc args v st st' hx ρ w args' hg hr ha
  · cases h2

theorem Rel.below {w' : World} (h : Rel ρ st w) (hb : Below w.heap.size w w') : Rel ρ st w' ∧ Ext ρ st w ρ st w' := by
  refine ⟨⟨fun b k hk => ?_, h.fresh, h.inj⟩, Ren.le_refl _, hb.os, hb.tape, hb.output, hb.size, fun i hi hn => ⟨hb.block i hi, hn⟩, fun _ _ _ hh => hh⟩
  obtain ⟨p, o, h1, h2, h3⟩ := h.blk b k hk
  exact ⟨p, o, h1, (hb.block _ (lt_of_some h2)).trans h2, h3⟩

/-- a block that has come since. -/
theorem Rel.grown {w' : World} (h : Rel ρ st w) (hb : Below w.heap.size w w') {k : Blk} {p : Pl} {o : Obj} (ho : w'.heap[p.blk]? = some o) (hge : w.heap.size ≤ p.blk) (hk : RelBlk (ρ.set st.next p) k p o)
    (hrw : k.rw := by first | exact trivial | exact rfl) :
    Rel (ρ.set st.next p) ⟨st.heap.put st.next k, st.next + 1⟩ w' ∧ Ext ρ st w (ρ.set st.next p) ⟨st.heap.put st.next k, st.next + 1⟩ w' := by
  obtain ⟨h1, h2⟩ := h.below hb
  have hfree : ∀ b k' p', st.heap.get b = some k' → ρ b = some p' → p'.blk ≠ p.blk := by
    intro b k' p' hb' hp' hh
    obtain ⟨p1, o1, hp1, ho1, _⟩ := h.blk b k' hb'
    rw [hp'] at hp1; cases hp1
    have := lt_of_some ho1
    omega
  refine ⟨h1.add ho hk hfree, h1.le_set _, hb.os, hb.tape, hb.output, hb.size, fun i hi hn => ⟨hb.block i hi, fun hO => ?_⟩, fun b n c hh => ?_⟩
  · rcases Own.of_add hO with h3 | h3
    · exact hn h3
    · omega
  · have hb2 : (st.heap.put st.next k).get b = some (.cells n c true) := hh
    rw [T.get_put] at hb2
    by_cases e : b = st.next
    · rw [if_pos e] at hb2; cases hb2; exact absurd hrw (by simp [Blk.rw])
    · rw [if_neg e] at hb2; exact hb2

theorem setCell_heap (w : World) (a : Addr) (v : Value) (i : Nat) (h : i ≠ a.block) : (w.setCell a v).heap[i]? = w.heap[i]? := by
  simp only [World.setCell, Array.getElem?_modify]
  rw [if_neg (fun e => h e.symm)]
theorem setCell_size (w : World) (a : Addr) (v : Value) : (w.setCell a v).heap.size = w.heap.size := by simp [World.setCell]
/-- a cell written that the state knows nothing of. -/
theorem Rel.setCell {w0 : World} {ρ0 : Ren} {st0 : St} (h : Rel ρ st w) (he : Ext ρ0 st0 w0 ρ st w) {a : Addr} (hfree : ∀ b k p, st.heap.get b = some k → ρ b = some p → p.blk ≠ a.block) (hge : w0.heap.size ≤ a.block) (v : Value) :
    Rel ρ st (w.setCell a v) ∧ Ext ρ0 st0 w0 ρ st (w.setCell a v) := by
  refine ⟨⟨fun b k hk => ?_, h.fresh, h.inj⟩, he.ren, he.os, he.tape, he.output, by rw [setCell_size]; exact he.size, fun i hi hn => ?_, he.ro⟩
  · obtain ⟨p, o, h1, h2, h3⟩ := h.blk b k hk
    exact ⟨p, o, h1, by rw [setCell_heap _ _ _ _ (hfree b k p hk h1)]; exact h2, h3⟩
  · obtain ⟨g1, g2⟩ := he.keep i hi hn
    exact ⟨by rw [setCell_heap _ _ _ _ (by omega)]; exact g1, g2⟩

/-! How many bytes the files of a disk have. -/
noncomputable def lenSl (v : V) : Option Nat :=
  match v with
  | .nilsl => some 0
  | .slE => some 0
  | .sl _ _ len _ _ _ => some len
  | _ => none
noncomputable def sumK (st : St) (l : List Ent) : Option Nat := lrec (some 0) (fun e _ ih => ptrK e.2.1 fun b o => ob (readC st b o) fun s => ob (lenSl s) fun n => ob ih fun m => some (Nat.add n m)) l
noncomputable def stampsL (l : List Ent) : List Nat := lrec [] (fun e _ ih => e.2.2 :: ih) l
noncomputable def stampsOK (c : Nat) (l : List Ent) : Bool := lrec true (fun e l ih => bcase (Nat.blt e.2.2 c) (bcase (memN e.2.2 (stampsL l)) false ih) false) l
noncomputable def pUsed (fo : Nat) (args : List V) (st : St) : Res := arg1 args fun d => ptrK d fun b off => ob (readC st b (Nat.add off fo)) fun m => mapK m fun mb => atMap st mb fun c es => gd (stampsOK c es) <|
  ob (sumK st es) fun n => gd (Nat.ble n 1000000000000) (some (.int .i64 (.ofNat n), st))

theorem stamps_list (l : List Ent) : stampsL l = l.map (·.2.2) := by
  induction l with
  | nil => rfl
  | cons e l ih => show e.2.2 :: stampsL l = _; rw [ih]; rfl
theorem stampsOK_eq {c : Nat} : ∀ {l : List Ent}, stampsOK c l = true → (∀ e ∈ l, e.2.2 < c) ∧ (l.map (·.2.2)).Nodup := by
  intro l
  induction l with
  | nil => intro _; exact ⟨fun e he => (by cases he), List.nodup_nil⟩
  | cons a l ih =>
    intro h
    obtain ⟨h1, h2⟩ := and_true' (p := Nat.blt a.2.2 c) (q := bcase (memN a.2.2 (stampsL l)) false (stampsOK c l)) h
    cases hm : memN a.2.2 (stampsL l) with
    | true => rw [hm] at h2; cases h2
    | false =>
      rw [hm, bcase_false] at h2
      obtain ⟨g1, g2⟩ := ih h2
      refine ⟨fun e he => ?_, ?_⟩
      · rcases List.mem_cons.1 he with e1 | e1
        · subst e1; simpa using h1
        · exact g1 e e1
      · rw [List.map_cons]
        refine List.nodup_cons.2 ⟨fun hh => ?_, g2⟩
        rw [stamps_list] at hm
        rw [memN_mem.2 hh] at hm; cases hm
theorem RelEs.born {es : List Ent} {l : List MapEntry} (h : RelEs ρ es l) : l.map (·.born) = es.map (·.2.2) := by
  induction h with
  | nil => rfl
  | cons e e' l l' h _ ih => rw [List.map_cons, List.map_cons, ih, h.2.2]
/-- a file's length, as the world has it. -/
def fileLen (w : World) (x : MapEntry) : Nat :=
  match x.val with
  | .pointer (some a) => (match w.cell? a with | some (.slice _ n _) => n | _ => 0)
  | _ => 0
theorem sumK_sound (hr : Rel ρ st w) : ∀ {es : List Ent} {l : List MapEntry} {n : Nat}, sumK st es = some n → RelEs ρ es l → (l.map (fileLen w)).sum = n ∧
    ∀ x ∈ l, ∃ fb fo a c, x.val = .pointer (some ⟨fb, fo, none⟩) ∧ w.cell? ⟨fb, fo, none⟩ = some (.slice a (fileLen w x) c) := by
  intro es
  induction es with
  | nil => intro l n h hl; cases h; cases hl; exact ⟨rfl, fun x hx => by cases hx⟩
  | cons e es ih =>
    intro l n h hl
    cases hl with
    | cons _ e' _ l' he hl =>
      have h' : ptrK e.2.1 (fun b o => ob (readC st b o) fun s => ob (lenSl s) fun n => ob (sumK st es) fun m => some (Nat.add n m)) = some n := h
      have hv := he.2.1
      cases hev : e.2.1 <;> rw [hev] at h' hv <;> first | (cases h'; done) | skip
      rename_i b o
      obtain ⟨s, h1, h2⟩ := ob_eq (o := readC st b o) h'
      obtain ⟨k, h3, h4⟩ := ob_eq h2
      obtain ⟨m, h5, h6⟩ := ob_eq h4
      cases h6
      cases hval : e'.val <;> rw [hval] at hv <;> first | (cases hv; done) | skip
      cases hv with
      | ptr _ _ p hp =>
        obtain ⟨_, s', g1, g2⟩ := read_sound hr h1 hp
        have hs : ∃ a c, s' = .slice a k c := by
          unfold lenSl at h3
          cases s <;> first | (cases h3; done) | skip
          all_goals (cases h3; cases g2; exact ⟨_, _, rfl⟩)
        obtain ⟨a, c, rfl⟩ := hs
        obtain ⟨q1, q2⟩ := ih h5 hl
        have hfl : fileLen w e' = k := by unfold fileLen; rw [hval]; simp only [g1]
        refine ⟨by rw [List.map_cons, List.sum_cons, q1, hfl]; rfl, fun x hx => ?_⟩
        rcases List.mem_cons.1 hx with e1 | e1
        · subst e1; exact ⟨_, _, a, c, hval, by rw [hfl]; exact g1⟩
        · exact q2 x e1

theorem used_prim {f : FuncId} {fo : Nat} (hent : ∀ args (w : World), (callFunc f args).run P w = .ok (.enter f args) w)
    (hwalk : ∀ (pb off bm : Nat) (es : Array MapEntry) (clock : Nat) (g : MapEntry → Nat) (w : World), w.cell? ⟨pb, off + fo, none⟩ = some (.map (some bm)) → w.heap[bm]? = some (.map es clock) → (∀ x ∈ es.toList, x.born < clock) → (es.toList.map (·.born)).Nodup →
      (∀ x ∈ es.toList, ∃ fb fo a c, x.val = .pointer (some ⟨fb, fo, none⟩) ∧ w.cell? ⟨fb, fo, none⟩ = some (.slice a (g x) c)) → (es.toList.map g).sum < 2 ^ 62 →
      Calls P f #[.pointer (some ⟨pb, off, none⟩)] w fun e w' => e = .returned (.int .i64 ((es.toList.map g).sum : Nat)) ∧ ∃ k seen, w' = ({ w with drawn := k } : World).alloc (.mapIter (some bm) clock seen clock)) :
    PrimAt P f fun _ => pUsed fo := by
  intro call hc args v st st' h ρ w args' hg hr ha
  obtain ⟨d, rfl, h1⟩ := arg1_eq h
  obtain ⟨d', rfl, rd⟩ := rel1 ha
  cases d <;> first | (cases h1; done) | skip
  rename_i b off
  obtain ⟨m, h2, h3⟩ := ob_eq (o := readC st b (Nat.add off fo)) h1
  obtain ⟨mb, rfl, h4⟩ := mapK_eq h3
  obtain ⟨c, es, h5, h6⟩ := atMap_eq h4
  obtain ⟨h7, h8⟩ := gd_eq h6
  obtain ⟨n, h9, h10⟩ := ob_eq h8
  obtain ⟨h11, h12⟩ := gd_eq h10
  cases h12
  have h11' := ble_true h11
  cases rd with
  | ptr _ _ p hp =>
    obtain ⟨_, m', g1, g2⟩ := read_sound hr h2 hp
    cases g2 with
    | map _ q hq =>
      obtain ⟨arr, g3, g4⟩ := hr.map h5 hq
      obtain ⟨s1, s2⟩ := stampsOK_eq h7
      have hb1 : ∀ x ∈ arr.toList, x.born < c := by
        intro x hx
        have : x.born ∈ arr.toList.map (·.born) := List.mem_map.2 ⟨x, hx, rfl⟩
        rw [g4.born] at this
        obtain ⟨e, he, e2⟩ := List.mem_map.1 this
        have := s1 e he
        omega
      obtain ⟨k1, k2⟩ := sumK_sound hr h9 g4
      refine .inl ⟨hent _ _, Calls.mono (hwalk p.blk (p.base + off) q.blk arr c (fileLen w) w (by rw [Nat.add_assoc]; exact g1) g3 hb1 (by rw [g4.born]; exact s2) k2 (by rw [k1]; omega)) ?_⟩
      rintro e w' ⟨rfl, k, seen, rfl⟩
      rw [k1]
      obtain ⟨r1, r2⟩ := (hr.drew k).push (.mapIter (some q.blk) c seen c)
      exact ⟨_, ρ, rfl, r1, (Ext.drew ρ st w k).trans r2, .int _ _⟩

end Go.Ab

namespace Go.Ab
open Go Go.RowKit Go.Sort
open Go.Proofs (encStr)
variable {P : Program} {tb : Tab} {ρ : Ren} {st st' : St} {w : World}

/-! The names on a disk, rising. -/
theorem lltB_lt : ∀ (x y : List UInt8), (lltB x y = true) ↔ x < y
  | [], [] => by simp [lltB]
  | [], b :: y => by simp [lltB]
  | a :: x, [] => by simp [lltB]
  | a :: x, b :: y => by
    have hd : lltB (a :: x) (b :: y) = bcase (Nat.beq a.toNat b.toNat) (lltB x y) (Nat.blt a.toNat b.toNat) := rfl
    rw [hd, bcase_eq]
    have ih := lltB_lt x y
    by_cases h : a = b
    · subst h
      rw [if_pos (Nat.beq_refl _), ih]
      simp
    · have hne : ¬ Nat.beq a.toNat b.toNat = true := fun hh => h (UInt8.toNat_inj.1 (beq_true hh))
      rw [if_neg hne]
      simp [List.cons_lt_cons_iff, h, UInt8.lt_iff_toNat_lt, Nat.blt_eq]

noncomputable def insB (k : List UInt8) (l : List (List UInt8)) : List (List UInt8) := lrec [k] (fun x l ih => bcase (lltB x k) (x :: ih) (k :: x :: l)) l
noncomputable def sortB (l : List (List UInt8)) : List (List UInt8) := lrec [] (fun x _ ih => insB x ih) l
theorem insB_cons (k x : List UInt8) (l : List (List UInt8)) : insB k (x :: l) = bcase (lltB x k) (x :: insB k l) (k :: x :: l) := rfl
theorem insB_perm (k : List UInt8) : ∀ l, (insB k l).Perm (k :: l) := by
  intro l
  induction l with
  | nil => exact .refl _
  | cons x l ih =>
    rw [insB_cons, bcase_eq]
    split
    · exact (ih.cons x).trans (List.Perm.swap _ _ _)
    · exact .refl _
theorem sortB_perm : ∀ l, (sortB l).Perm l := by
  intro l
  induction l with
  | nil => exact .refl _
  | cons x l ih => exact (insB_perm x (sortB l)).trans (ih.cons x)
theorem insB_sorted (k : List UInt8) : ∀ l, l.Pairwise (fun a b : List UInt8 => a ≤ b) → (insB k l).Pairwise fun a b => a ≤ b := by
  intro l
  induction l with
  | nil => intro _; exact List.pairwise_singleton _ _
  | cons x l ih =>
    intro h
    obtain ⟨h1, h2⟩ := List.pairwise_cons.1 h
    rw [insB_cons, bcase_eq]
    split
    · rename_i hx
      have hx' : x ≤ k := List.le_of_lt ((lltB_lt x k).1 hx)
      refine List.pairwise_cons.2 ⟨fun y hy => ?_, ih h2⟩
      rcases List.mem_cons.1 ((insB_perm k l).mem_iff.1 hy) with e | e
      · subst e; exact hx'
      · exact h1 y e
    · rename_i hx
      have hk : k ≤ x := by
        have : ¬ x < k := fun hh => hx ((lltB_lt x k).2 hh)
        exact List.not_lt.1 this
      refine List.pairwise_cons.2 ⟨fun y hy => ?_, h⟩
      rcases List.mem_cons.1 hy with e | e
      · subst e; exact hk
      · exact List.le_trans hk (h1 y e)
theorem sortB_sorted : ∀ l, (sortB l).Pairwise fun a b : List UInt8 => a ≤ b := by
  intro l
  induction l with
  | nil => exact .nil
  | cons x l ih => exact insB_sorted x _ ih
theorem sortB_merge {l ss : List (List UInt8)} (h : ss.Perm l) : ss.mergeSort (fun x y => decide (x ≤ y)) = sortB l := by
  have tr : ∀ a b c : List UInt8, leB a b = true → leB b c = true → leB a c = true := fun a b c h1 h2 => by simp only [leB, decide_eq_true_eq] at *; exact List.le_trans h1 h2
  have to : ∀ a b : List UInt8, (leB a b || leB b a) = true := fun a b => by simp only [leB, Bool.or_eq_true, decide_eq_true_eq]; exact List.le_total a b
  refine List.Perm.eq_of_pairwise (le := fun a b => leB a b = true) (fun a b _ _ h1 h2 => ?_) (List.pairwise_mergeSort tr to ss) ?_ (((List.mergeSort_perm ss leB).trans h).trans (sortB_perm l).symm)
  · simp only [leB, decide_eq_true_eq] at h1 h2
    exact List.le_antisymm h1 h2
  · exact (sortB_sorted l).imp fun h => by simpa [leB] using h

noncomputable def keysB (l : List Ent) : Option (List (List UInt8)) := mapO (fun e : Ent => strK e.1) l
noncomputable def shortB (l : List (List UInt8)) : Bool := lrec true (fun x _ ih => bcase (Nat.ble (llen x 0) 1000) ih false) l
noncomputable def strsV (l : List (List UInt8)) : List V := lrec [] (fun x _ ih => .str x :: ih) l
noncomputable def pList (fo : Nat) (args : List V) (st : St) : Res := arg1 args fun d => ptrK d fun b off => ob (readC st b (Nat.add off fo)) fun m => mapK m fun mb => atMap st mb fun c es => gd (stampsOK c es) <| gd (apartK es) <|
  ob (keysB es) fun ks => gd (shortB ks) <| gd (Nat.ble (llen ks 0) 1000) <| lcase ks (some (.nilsl, st)) fun _ _ => ob2 (newCells st (strsV (sortB ks))) fun b st => some (.sl b 0 (llen ks 0) (llen ks 0) false 1, st)

theorem strsV_eq (l : List (List UInt8)) : strsV l = l.map V.str := by
  induction l with
  | nil => rfl
  | cons x l ih => show V.str x :: strsV l = _; rw [ih]; rfl
theorem shortB_eq : ∀ {l : List (List UInt8)}, shortB l = true → ∀ x ∈ l, x.length ≤ 1000 := by
  intro l
  induction l with
  | nil => intro _ x hx; cases hx
  | cons a l ih =>
    intro h x hx
    obtain ⟨h1, h2⟩ := and_true' (p := Nat.ble (llen a 0) 1000) (q := shortB l) h
    rcases List.mem_cons.1 hx with e | e
    · subst e
      have := ble_true h1
      rw [llen_eq] at this; omega
    · exact ih h2 x e
theorem keysB_sound : ∀ {es : List Ent} {l : List MapEntry} {ks : List (List UInt8)}, keysB es = some ks → RelEs ρ es l → l.map (·.key) = ks.map encStr ∧ es.map (·.1) = ks.map V.str := by
  intro es
  induction es with
  | nil => intro l ks h hl; cases h; cases hl; exact ⟨rfl, rfl⟩
  | cons e es ih =>
    intro l ks h hl
    cases hl with
    | cons _ e' _ l' he hl =>
      obtain ⟨k, h1, h2⟩ := ob_eq (o := strK e.1) h
      obtain ⟨ks2, h3, h4⟩ := ob_eq (o := keysB es) h2
      cases h4
      obtain ⟨g1, g2⟩ := ih h3 hl
      have hk := he.1
      cases hek : e.1 <;> rw [hek] at h1 hk <;> first | (cases h1; done) | skip
      cases h1
      cases hkv : e'.key <;> rw [hkv] at hk <;> first | (cases hk; done) | skip
      cases hk
      refine ⟨?_, ?_⟩
      · rw [List.map_cons, List.map_cons, g1, hkv]
      · rw [List.map_cons, List.map_cons, g2, hek]

/-- the reader that looks at nothing. -/
def readNo : Value → Option (DataW Unit × List MemPlace) := fun _ => some (.nil, [])

theorem list_prim {f : FuncId} {fo : Nat} {kt : TypeId} (hk : P.underlying kt = some .string) (hent : ∀ args (w : World), (callFunc f args).run P w = .ok (.enter f args) w)
    (hwalk : ∀ (pb off b nn : Nat) (D0 : DataW Unit) (R : Value → Option (DataW Unit × List MemPlace)) (w : World), w.cell? ⟨pb, off + fo, none⟩ = some (.map (some b)) → w.ownsMap P kt R b nn D0 → Maps.size D0 ≤ maxLen → Maps.size D0 * 16 ≤ 140737488355328 →
      Calls P f #[.pointer (some ⟨pb, off, none⟩)] w fun e w' => ∃ (v : Value) (ss : List (List UInt8)), e = .returned v ∧ ss.Perm (strKeys D0) ∧
        w'.ownsRow w.heap.size kt 1 v ss.length ((ss.mergeSort (fun x y => decide (x ≤ y))).map encStr) ∧ (v = .slice none 0 0 ↔ ss = []) ∧ Below w.heap.size w w') :
    PrimAt P f fun _ => pList fo := by
  intro call hc args v st st' h ρ w args' hg hr ha
  obtain ⟨d, rfl, h1⟩ := arg1_eq h
  obtain ⟨d', rfl, rd⟩ := rel1 ha
  cases d <;> first | (cases h1; done) | skip
  rename_i b off
  obtain ⟨m, h2, h3⟩ := ob_eq (o := readC st b (Nat.add off fo)) h1
  obtain ⟨mb, rfl, h4⟩ := mapK_eq h3
  obtain ⟨c, es, h5, h6⟩ := atMap_eq h4
  obtain ⟨h7, h8⟩ := gd_eq h6
  obtain ⟨hap, h8⟩ := gd_eq h8
  obtain ⟨ks, h9, h10⟩ := ob_eq h8
  obtain ⟨h11, h12⟩ := gd_eq h10
  obtain ⟨h13, h14⟩ := gd_eq h12
  have h13' := ble_true h13
  rw [llen_eq, Nat.zero_add] at h13'
  cases rd with
  | ptr _ _ p hp =>
    obtain ⟨_, m', g1, g2⟩ := read_sound hr h2 hp
    cases g2 with
    | map _ q hq =>
      obtain ⟨arr, g3, g4⟩ := hr.map h5 hq
      obtain ⟨s1, s2⟩ := stampsOK_eq h7
      obtain ⟨k1, k2⟩ := keysB_sound h9 g4
      have hlen : arr.size = ks.length := by have := congrArg List.length k1; simpa using this
      have hb1 : ∀ x ∈ arr.toList, x.born < c := by
        intro x hx
        have : x.born ∈ arr.toList.map (·.born) := List.mem_map.2 ⟨x, hx, rfl⟩
        rw [g4.born] at this
        obtain ⟨e, he, e2⟩ := List.mem_map.1 this
        have := s1 e he
        omega
      have hks : ks.Nodup := by
        have h1 := apartK_eq hap
        have h2 : (es.map (·.1)).Pairwise fun a b => keyEq a b = some false := by
          have : es.map (·.1) = (es.map strip).map (·.1) := by rw [List.map_map]; rfl
          rw [this]
          exact List.pairwise_map.2 h1
        rw [k2] at h2
        have h3 := List.pairwise_map.1 h2
        refine h3.imp fun {a b} hh e => ?_
        subst e
        have : keyEq (.str a) (.str a) = some (leqB a a) := rfl
        rw [this, leqB_eq] at hh
        simp at hh
      have hinj : ∀ a b : List UInt8, encStr a = encStr b → a = b := fun a b h => encStr_inj h
      have hkn : (arr.toList.map (·.key)).Nodup := by
        rw [k1]
        exact List.pairwise_map.2 (hks.imp fun {a b} hh e => hh (hinj a b e))
      have hshort := shortB_eq h11
      have hml : (1000 : Nat) ≤ maxLen := by decide
      have hkey : ∀ x ∈ arr.toList, ∃ s ∈ ks, x.key = encStr s := by
        intro x hx
        have : x.key ∈ arr.toList.map (·.key) := List.mem_map.2 ⟨x, hx, rfl⟩
        rw [k1] at this
        obtain ⟨s, hs, e⟩ := List.mem_map.1 this
        exact ⟨s, hs, e.symm⟩
      have hkeyOf : ∀ s ∈ ks, keyOf P kt (encStr s) = some (.string s) := by
        intro s hs
        have := hshort s hs
        have h9 : s.length ≤ maxLen := Nat.le_trans this (by decide)
        have hsz : (ByteArray.mk s.toArray).size = s.length := by simp [ByteArray.size]
        have h10 : mapKey P kt (.string ⟨s.toArray⟩) = some (.string s) := by
          unfold mapKey
          rw [hk]
          simp only [hsz, h9, if_true]
        unfold keyOf
        rw [hk]
        exact h10
      have hrd : ∀ x ∈ arr.toList, ∀ s, x.key = encStr s → s ∈ ks → WideElems.rd P kt readNo x = some (.string s, .nil) := by
        intro x _ s e hs
        unfold WideElems.rd
        rw [e, hkeyOf s hs]
        rfl
      have F : WideElems.Fit P kt readNo arr c := ⟨Nat.le_trans (by omega) hml, ⟨hb1, by rw [g4.born]; exact s2, hkn⟩, fun x hx => by
        obtain ⟨s, hs, e⟩ := hkey x hx
        exact ⟨_, hrd x hx s e hs⟩⟩
      have hown := World.ownsMap_of_fit (w := w) g3 F (fun _ _ _ h => h)
      have hsk : (strKeys (DataW.map ((arr.toList.map (WideElems.rg P kt readNo)).foldr DataW.insert []))).Perm ks := by
        have h1 : (strKeys (DataW.map ((arr.toList.map (WideElems.rg P kt readNo)).foldr DataW.insert []))) = ((arr.toList.map (WideElems.rg P kt readNo)).foldr DataW.insert []).map fun p => strOf p.1 := rfl
        rw [h1]
        refine ((WideShapes.sorted_perm _).map _).trans ?_
        rw [List.map_map]
        have : arr.toList.map ((fun p : Lit × DataW Unit => strOf p.1) ∘ WideElems.rg P kt readNo) = ks := by
          have h2 : ∀ (l : List MapEntry) (ls : List (List UInt8)), l.map (·.key) = ls.map encStr → (∀ x ∈ l, x ∈ arr.toList) → (∀ s ∈ ls, s ∈ ks) → l.map ((fun p : Lit × DataW Unit => strOf p.1) ∘ WideElems.rg P kt readNo) = ls := by
            intro l
            induction l with
            | nil => intro ls h _ _; cases ls with
              | nil => rfl
              | cons => cases h
            | cons x l ih =>
              intro ls h hm hm2
              cases ls with
              | nil => cases h
              | cons s ls =>
                simp only [List.map_cons, List.cons.injEq] at h
                rw [List.map_cons, ih ls h.2 (fun y hy => hm y (List.mem_cons_of_mem _ hy)) (fun y hy => hm2 y (List.mem_cons_of_mem _ hy))]
                congr 1
                show strOf (WideElems.rg P kt readNo x).1 = s
                unfold WideElems.rg
                rw [hrd x (hm x List.mem_cons_self) s h.1 (hm2 s List.mem_cons_self)]
                rfl
          exact h2 _ _ k1 (fun x hx => hx) (fun s hs => hs)
        rw [this]
      have hsz : Maps.size (DataW.map ((arr.toList.map (WideElems.rg P kt readNo)).foldr DataW.insert [])) = ks.length := by
        show ((arr.toList.map (WideElems.rg P kt readNo)).foldr DataW.insert []).length = _
        rw [length_sorted]; simp [hlen]
      refine .inl ⟨hent _ _, Calls.mono (hwalk p.blk (p.base + off) q.blk _ _ readNo w (by rw [Nat.add_assoc]; exact g1) hown (by rw [hsz]; exact Nat.le_trans h13' hml) (by rw [hsz]; omega)) ?_⟩
      rintro e w' ⟨v', ss, rfl, hss, hrow, hnil, hbel⟩
      have hperm := hss.trans hsk
      have hms := sortB_merge hperm
      rw [hms] at hrow
      have hsl : ss.length = ks.length := hperm.length_eq
      cases hks0 : ks with
      | nil =>
        rw [hks0] at h14
        cases h14
        have hss0 : ss = [] := by rw [hks0] at hsl; exact List.eq_nil_of_length_eq_zero hsl
        have hv := hnil.2 hss0
        subst hv
        obtain ⟨r1, r2⟩ := hr.below hbel
        exact ⟨_, ρ, rfl, r1, r2, .nilsl⟩
      | cons k0 kl =>
        have h15 : ob2 (newCells st (strsV (sortB ks))) (fun b st => some (V.sl b 0 (llen ks 0) (llen ks 0) false 1, st)) = some (v, st') := by
          rw [hks0] at h14 ⊢; exact h14
        obtain ⟨b2, st2, h16, h17⟩ := ob2_eq h15
        cases h17
        have hlr : (sortB ks).length = ks.length := (sortB_perm ks).length_eq
        rcases hrow.2 with ⟨rfl, hz⟩ | ⟨g, cap, cur, rfl, hbase, hgb, r1, r2, r3, r4⟩
        · exfalso
          rw [hsl, hks0] at hz; simp at hz
        · obtain ⟨e1, e2⟩ := newBlk_eq h16
          rw [hsl] at r1 r4
          obtain ⟨q1, q2⟩ := hr.grown hbel (k := .cells (llen (strsV (sortB ks)) 0) (putAll (strsV (sortB ks)) 0 .nil) false) (p := ⟨g, 0, cap⟩) hgb hbase (by
            refine .cells _ _ _ _ _ _ _ _ (by rw [llen_eq, strsV_eq]; simp; omega) (by show 0 + cap ≤ cur.size; omega) (fun _ => .inl rfl) ?_
            intro i u hi hu
            rw [putAll_get] at hu
            split at hu
            · rename_i hh
              rw [strsV_eq, Nat.sub_zero, List.getElem?_map] at hu
              cases hx : (sortB ks)[i]? with
              | none => rw [hx] at hu; cases hu
              | some s =>
                rw [hx] at hu
                cases hu
                refine ⟨rfl, encStr s, ?_, .str s⟩
                have h18 : (cur.toList.take (ks.length * 1))[i]? = some (encStr s) := by rw [r4, List.getElem?_map, hx]; rfl
                rw [List.getElem?_take] at h18
                split at h18
                · simpa using h18
                · cases h18
            · cases hu)
          rw [e2, e1]
          refine ⟨_, _, rfl, q1, q2, ?_⟩
          rw [llen_eq, Nat.zero_add, hsl]
          exact RelV.sl st.next 0 ks.length ks.length false 1 ⟨g, 0, cap⟩ cap (Ren.set_self _ _ _) r1 (fun e => by cases e) (Nat.le_refl _) (by show 0 + cap * 1 ≤ cap; omega)

end Go.Ab

namespace Go.Ab
open Go Go.RowKit
variable {P : Program} {tb : Tab} {ρ : Ren} {st st' : St} {w : World}

/-! A function that defers a closure, which recovers nothing: edit.Read. -/
/-- the two cells of results, as they were made. -/
structure Ecells (W' : World) (B : Nat) : Prop where
  c0 : W'.cell? ⟨B, 0, none⟩ = some (.int .u64 0)
  c1 : W'.cell? ⟨B, 1, none⟩ = some (.int .u64 0)
  c2 : W'.cell? ⟨B, 2, none⟩ = some (.int .u64 0)
  c3 : W'.cell? ⟨B, 3, none⟩ = some (.slice none 0 0)
  c4 : W'.cell? ⟨B, 4, none⟩ = some (.slice none 0 0)
  c5 : W'.cell? ⟨B + 1, 0, none⟩ = some (.int .i64 0)
  f0 : W'.frozen? ⟨B, 0, none⟩ = false
  f1 : W'.frozen? ⟨B, 1, none⟩ = false
  f2 : W'.frozen? ⟨B, 2, none⟩ = false
  f3 : W'.frozen? ⟨B, 3, none⟩ = false
  f4 : W'.frozen? ⟨B, 4, none⟩ = false
  f5 : W'.frozen? ⟨B + 1, 0, none⟩ = false

theorem push_last (h : Array Obj) (a : Obj) : (h.push a)[h.size]? = some a := by simp
theorem push_low (h : Array Obj) (a : Obj) {i : Nat} (hi : i < h.size) : (h.push a)[i]? = h[i]? := by rw [Array.getElem?_push, if_neg (by omega)]
theorem push3_0 (h : Array Obj) (a b c : Obj) : (((h.push a).push b).push c)[h.size]? = some a := by
  rw [push_low _ _ (by simp; omega), push_low _ _ (by simp), push_last]
theorem push3_1 (h : Array Obj) (a b c : Obj) : (((h.push a).push b).push c)[h.size + 1]? = some b := by
  have h1 : (h.push a).size = h.size + 1 := by simp
  rw [push_low _ _ (by simp), ← h1, push_last]
theorem isSlV_rel {v : V} {v' : Value} (h : isSlV v = true) (hr : RelV ρ v v') : ∃ a l c, v' = .slice a l c := by
  unfold isSlV at h
  cases v <;> first | (cases h; done) | skip
  all_goals (cases hr; exact ⟨_, _, _, rfl⟩)

def editOK (e : V) : Bool :=
  match e with
  | .agg [.int .u64 _, .int .u64 _, .int .u64 _, x, y] => isSlV x && isSlV y
  | _ => false
theorem editOK_eq {e : V} (h : editOK e = true) : ∃ n0 n1 n2 x y, e = .agg [.int .u64 n0, .int .u64 n1, .int .u64 n2, x, y] ∧ isSlV x = true ∧ isSlV y = true := by
  unfold editOK at h
  split at h
  · rename_i n0 n1 n2 x y
    obtain ⟨h1, h2⟩ := Bool.and_eq_true_iff.1 h
    exact ⟨n0, n1, n2, x, y, rfl, h1, h2⟩
  · cases h
noncomputable def pRead (f1 : FuncId) (call : CallF) (args : List V) (st : St) : Res :=
  arg1 args fun p => gd (isSlV p) (ob2 (newCells st [p]) fun b st1 => ob2 (call (.func f1) [.ptr b 0] st1) fun e st2 => gd (editOK e) (some (.tuple [e, .int .i64 0], st2)))

theorem read_prim {f f1 : FuncId} {t1 t2 t3 : TypeId} (hent : ∀ args (w : World), (callFunc f args).run P w = .ok (.enter f args) w) (hent1 : ∀ args (w : World), (callFunc f1 args).run P w = .ok (.enter f1 args) w)
    (hwalk : ∀ (pa : Option Addr) (pl pc : Nat) (w : World) (R : Value → World → Prop),
      Calls P f1 #[.pointer (some ⟨w.heap.size + 2, 0, none⟩)] (((w.alloc (.cells #[.int .u64 0, .int .u64 0, .int .u64 0, .slice none 0 0, .slice none 0 0] t1)).alloc (.cells #[.int .i64 0] t2)).alloc (.cells #[.slice pa pl pc] t3)) (fun e W' =>
        ∃ n0 n1 n2 a3 l3 c3 a4 l4 c4, e = .returned (.agg #[.int .u64 n0, .int .u64 n1, .int .u64 n2, .slice a3 l3 c3, .slice a4 l4 c4]) ∧ Ecells W' w.heap.size ∧
          R (.agg #[.int .u64 n0, .int .u64 n1, .int .u64 n2, .slice a3 l3 c3, .slice a4 l4 c4])
            ((((((W'.setCell ⟨w.heap.size, 0, none⟩ (.int .u64 n0)).setCell ⟨w.heap.size, 1, none⟩ (.int .u64 n1)).setCell ⟨w.heap.size, 2, none⟩ (.int .u64 n2)).setCell ⟨w.heap.size, 3, none⟩ (.slice a3 l3 c3)).setCell ⟨w.heap.size, 4, none⟩ (.slice a4 l4 c4)).setCell
              ⟨w.heap.size + 1, 0, none⟩ (.int .i64 0))) →
      Calls P f #[.slice pa pl pc] w fun e w' => ∃ v', e = .returned (.tuple #[v', .int .i64 0]) ∧ R v' w') :
    PrimAt P f fun call => pRead f1 call := by
  intro call hc args v st st' h ρ w args' hg hr ha
  obtain ⟨p, rfl, h1⟩ := arg1_eq h
  obtain ⟨p', rfl, rp⟩ := rel1 ha
  obtain ⟨h2, h3⟩ := gd_eq h1
  obtain ⟨b, st1, h4, h5⟩ := ob2_eq h3
  obtain ⟨e, st2, h6, h7⟩ := ob2_eq h5
  obtain ⟨h8, h9⟩ := gd_eq h7
  cases h9
  obtain ⟨pa, pl, pc, rfl⟩ := isSlV_rel h2 rp
  obtain ⟨m0, m1, m2, x, y, rfl, hx, hy⟩ := editOK_eq h8
  refine .inl ⟨hent _ _, Calls.mono (hwalk pa pl pc w (fun v' W => ∃ ρ2, Rel ρ2 st' W ∧ Ext ρ st w ρ2 st' W ∧ RelV ρ2 (.agg [.int .u64 m0, .int .u64 m1, .int .u64 m2, x, y]) v') ?_) ?_⟩
  · -- the inner call
    generalize hE : (Obj.cells #[.int .u64 0, .int .u64 0, .int .u64 0, .slice none 0 0, .slice none 0 0] t1 (0, 0)) = oE
    generalize hX : (Obj.cells #[.int .i64 0] t2 (0, 0)) = oX
    obtain ⟨r1, x1⟩ := hr.push oE
    obtain ⟨r2, x2⟩ := r1.push oX
    have hsz2 : (({ w with heap := w.heap.push oE } : World).heap.push oX).size = w.heap.size + 2 := by simp
    obtain ⟨g1, g2, g3⟩ := newRow_sound (arr := #[.slice pa pl pc]) r2 t3 h4 (by simp) (.cons _ _ _ _ rp .nil) (by
      intro v hv
      have : v = p := by simpa using hv
      subst this
      unfold isSlV at h2
      cases v <;> first | (cases h2; done) | rfl)
    simp only [] at g1 g2 g3
    rw [hsz2] at g1 g2 g3
    have hc1 := hc.func f1 [.ptr b 0] _ st1 st' h6 _ _ #[.pointer (some ⟨w.heap.size + 2, 0, none⟩)] (hg.mono g3.ren) g2 (.cons _ _ _ _ (by simpa using RelV.ptr b 0 _ g1) .nil)
    rcases hc1 with ⟨_, hc2⟩ | ⟨_, _, _, hc2, _⟩
    · refine Calls.mono hc2 ?_
      rintro e W' ⟨v1, ρ2, rfl, q1, q2, q3⟩
      obtain ⟨e1, e2⟩ := newBlk_eq h4
      have hno : ∀ i, w.heap.size ≤ i → i < w.heap.size + 2 → ¬ Own (ρ.set st.next ⟨w.heap.size + 2, 0, (#[Value.slice pa pl pc] : Array Value).size⟩) st1 i := by
        intro i hi1 hi2 hO
        rw [e2] at hO
        rcases Own.of_add hO with h10 | h10
        · exact not_own_new hr hi1 h10
        · have h11 : i = w.heap.size + 2 := h10
          omega
      have hk0 := q2.keep w.heap.size (by simp; omega) (hno _ (Nat.le_refl _) (by omega))
      have hk1 := q2.keep (w.heap.size + 1) (by simp) (hno _ (by omega) (by omega))
      have hE2 : W'.heap[w.heap.size]? = some oE := hk0.1.trans (push3_0 _ _ _ _)
      have hX2 : W'.heap[w.heap.size + 1]? = some oX := hk1.1.trans (push3_1 _ _ _ _)
      have hext := ((x1.trans x2).trans g3).trans q2
      have hf0 := ro_free hr q1 hext hk0.2 (Nat.le_refl _)
      have hf1 := ro_free hr q1 hext hk1.2 (by omega)
      obtain ⟨v1c, hv1, l1⟩ : ∃ c', v1 = .agg c' ∧ RelL ρ2 [.int .u64 m0, .int .u64 m1, .int .u64 m2, x, y] c'.toList := by
        cases q3 with | agg _ c' h _ => exact ⟨c', rfl, h⟩
      obtain ⟨cl⟩ := v1c
      have l1' : RelL ρ2 [.int .u64 m0, .int .u64 m1, .int .u64 m2, x, y] cl := l1
      cases l1' with | cons _ b0 _ l2 k0 l1' =>
      cases l1' with | cons _ b1 _ l3 k1 l1' =>
      cases l1' with | cons _ b2 _ l4 k2 l1' =>
      cases l1' with | cons _ b3 _ l5 k3 l1' =>
      cases l1' with | cons _ b4 _ l6 k4 l1' =>
      cases l1'
      cases k0; cases k1; cases k2
      obtain ⟨a3, l3, c3, rfl⟩ := isSlV_rel hx k3
      obtain ⟨a4, l4, c4, rfl⟩ := isSlV_rel hy k4
      subst hv1
      refine ⟨_, _, _, a3, l3, c3, a4, l4, c4, rfl, ?_, ?_⟩
      · subst hE hX
        refine ⟨?_, ?_, ?_, ?_, ?_, ?_, ?_, ?_, ?_, ?_, ?_, ?_⟩ <;> first | (simp [World.cell?, hE2]; done) | (simp [World.cell?, hX2]; done) | (simp [World.frozen?, hE2]; done) | (simp [World.frozen?, hX2]; done)
      · obtain ⟨s0, t0⟩ := q1.setCell hext (a := ⟨w.heap.size, 0, none⟩) hf0 (Nat.le_refl _) (.int .u64 m0)
        obtain ⟨s1, t1⟩ := s0.setCell t0 (a := ⟨w.heap.size, 1, none⟩) hf0 (Nat.le_refl _) (.int .u64 m1)
        obtain ⟨s2, t2⟩ := s1.setCell t1 (a := ⟨w.heap.size, 2, none⟩) hf0 (Nat.le_refl _) (.int .u64 m2)
        obtain ⟨s3, t3⟩ := s2.setCell t2 (a := ⟨w.heap.size, 3, none⟩) hf0 (Nat.le_refl _) (.slice a3 l3 c3)
        obtain ⟨s4, t4⟩ := s3.setCell t3 (a := ⟨w.heap.size, 4, none⟩) hf0 (Nat.le_refl _) (.slice a4 l4 c4)
        obtain ⟨s5, t5⟩ := s4.setCell t4 (a := ⟨w.heap.size + 1, 0, none⟩) hf1 (by show w.heap.size ≤ w.heap.size + 1; omega) (.int .i64 0)
        exact ⟨ρ2, s5, t5, q3⟩
    · rw [hent1] at hc2; cases hc2
  · rintro e w' ⟨v', rfl, ρ2, q1, q2, q3⟩
    exact ⟨_, ρ2, rfl, q1, q2, .tuple _ _ (.cons _ _ _ _ q3 (.cons _ _ _ _ (.int _ _) .nil))⟩

end Go.Ab

namespace Go.Ab
open Go
variable {P : Program} {tb : Tab} {ρ : Ren} {st st' : St} {w : World}

/-! A call whose run is known, on that part of the state which it comes to. -/
abbrev BL := List (Nat × Blk)
noncomputable def heapOf (l : BL) : T Blk := lrec .nil (fun p _ ih => T.force ih fun t => t.put p.1 p.2) l
noncomputable def putL (l : BL) (h : T Blk) : T Blk := lrec h (fun p _ ih => T.force ih fun t => t.put p.1 p.2) l
noncomputable def delL (l : BL) (h : T Blk) : T Blk := lrec h (fun p _ ih => T.force ih fun t => t.del p.1) l
noncomputable def subL (l : BL) (h : T Blk) : Bool := lrec true (fun p _ ih => bcase (ocase (h.get p.1) false fun k => blkSub p.2 k) ih false) l

/-- two results, the same; a tuple's parts may be structs. -/
noncomputable def veqR (a b : V) : Bool :=
  match a with
  | .tuple x => match b with
    | .tuple y => vlist veq x y
    | _ => false
  | a => veq a b
theorem veqR_sound {a b : V} (h : veqR a b = true) : a = b := by
  unfold veqR at h
  split at h
  · split at h
    · rw [vlist_eq' (fun a b hh => veq_sound hh) h]
    · cases h
  · exact veq_sound h

structure FSeg where
  f : FuncId
  args : List V
  s0 : BL
  n0 : Nat
  v : V
  s1 : BL
  n1 : Nat

noncomputable def FSeg.fits (s : FSeg) (f : FuncId) (args : List V) (st : St) : Bool :=
  bcase (Nat.beq s.f f) (bcase (Nat.ble st.next s.n0) (bcase (vlist veq s.args args) (subL s.s0 st.heap) false) false) false
noncomputable def FSeg.after (s : FSeg) (st : St) : St := ⟨putL s.s1 (delL s.s0 st.heap), s.n1⟩
noncomputable def fsegP (l : List FSeg) : PrimF := fun _ f args st => lrec none (fun s _ ih => bcase (s.fits f args st) (some (some (s.v, s.after st))) ih) l
/-- the segment's run, as the kernel has reckoned it. -/
noncomputable def FSeg.ok (s : FSeg) (call : CallF) : Bool :=
  ocase (call (.func s.f) s.args ⟨heapOf s.s0, s.n0⟩) false fun p => bcase (veqR s.v p.1) (bcase (Nat.ble p.2.next s.n1) (subL s.s1 p.2.heap) false) false

theorem heapOf_get : ∀ (l : BL) (b : Nat) (k : Blk), (heapOf l).get b = some k → ∃ x ∈ l, x.1 = b ∧ x.2 = k := by
  intro l
  induction l with
  | nil => intro b k h; cases h
  | cons x l ih =>
    intro b k h
    have h' : (T.force (heapOf l) fun t => t.put x.1 x.2).get b = some k := h
    rw [T.force_eq, T.get_put] at h'
    by_cases e : b = x.1
    · rw [if_pos e] at h'; cases h'; exact ⟨x, List.mem_cons_self, e.symm, rfl⟩
    · rw [if_neg e] at h'
      obtain ⟨y, h1, h2⟩ := ih b k h'
      exact ⟨y, List.mem_cons_of_mem _ h1, h2⟩
theorem putL_get : ∀ (l : BL) (h : T Blk) (b : Nat) (k : Blk), (putL l h).get b = some k → (∃ x ∈ l, x.1 = b ∧ x.2 = k) ∨ ((∀ x ∈ l, x.1 ≠ b) ∧ h.get b = some k) := by
  intro l h
  induction l with
  | nil => intro b k hh; exact .inr ⟨fun x hx => (by cases hx), hh⟩
  | cons x l ih =>
    intro b k hh
    have h' : (T.force (putL l h) fun t => t.put x.1 x.2).get b = some k := hh
    rw [T.force_eq, T.get_put] at h'
    by_cases e : b = x.1
    · rw [if_pos e] at h'; cases h'; exact .inl ⟨x, List.mem_cons_self, e.symm, rfl⟩
    · rw [if_neg e] at h'
      rcases ih b k h' with ⟨y, h1, h2⟩ | ⟨h1, h2⟩
      · exact .inl ⟨y, List.mem_cons_of_mem _ h1, h2⟩
      · refine .inr ⟨fun y hy => ?_, h2⟩
        rcases List.mem_cons.1 hy with e1 | e1
        · subst e1; exact fun hh => e hh.symm
        · exact h1 y e1
theorem delL_get : ∀ (l : BL) (h : T Blk) (b : Nat) (k : Blk), (delL l h).get b = some k → (∀ x ∈ l, x.1 ≠ b) ∧ h.get b = some k := by
  intro l h
  induction l with
  | nil => intro b k hh; exact ⟨fun x hx => (by cases hx), hh⟩
  | cons x l ih =>
    intro b k hh
    have h' : (T.force (delL l h) fun t => t.del x.1).get b = some k := hh
    rw [T.force_eq, T.get_del] at h'
    by_cases e : b = x.1
    · rw [if_pos e] at h'; cases h'
    · rw [if_neg e] at h'
      obtain ⟨h1, h2⟩ := ih b k h'
      refine ⟨fun y hy => ?_, h2⟩
      rcases List.mem_cons.1 hy with e1 | e1
      · subst e1; exact fun hh => e hh.symm
      · exact h1 y e1
theorem subL_eq : ∀ {l : BL} {h : T Blk}, subL l h = true → ∀ x ∈ l, ∃ k, h.get x.1 = some k ∧ blkSub x.2 k = true := by
  intro l h
  induction l with
  | nil => intro _ x hx; cases hx
  | cons a l ih =>
    intro hh x hx
    obtain ⟨h1, h2⟩ := and_true' (p := ocase (h.get a.1) false fun k => blkSub a.2 k) (q := subL l h) hh
    rcases List.mem_cons.1 hx with e | e
    · subst e
      cases hg : h.get x.1 with
      | none => rw [hg] at h1; cases h1
      | some k => rw [hg] at h1; exact ⟨k, rfl, h1⟩
    · exact ih h2 x e

/-- a state of which each block stands in another one. -/
theorem Rel.part {l : BL} {n : Nat} (h : Rel ρ st w) (hs : subL l st.heap = true) (hn : st.next ≤ n) : Rel ρ ⟨heapOf l, n⟩ w := by
  have hb := subL_eq hs
  refine ⟨fun b k hk => ?_, fun b p hp => Nat.lt_of_lt_of_le (h.fresh b p hp) hn, fun b b' k k' p p' hk hk' hp hp' hh => ?_⟩
  · obtain ⟨x, hx, rfl, rfl⟩ := heapOf_get _ _ _ hk
    obtain ⟨k2, q1, q2⟩ := hb x hx
    obtain ⟨p, o, g1, g2, g3⟩ := h.blk _ k2 q1
    exact ⟨p, o, g1, g2, (blkSub_rel (ρ := ρ) q2).2.2 g3⟩
  · obtain ⟨x, hx, rfl, rfl⟩ := heapOf_get _ _ _ hk
    obtain ⟨y, hy, rfl, rfl⟩ := heapOf_get _ _ _ hk'
    obtain ⟨k2, q1, _⟩ := hb x hx
    obtain ⟨k3, q3, _⟩ := hb y hy
    exact h.inj _ _ k2 k3 p p' q1 q3 hp hp' hh

/-- the frame: what a run on a part has made of that part, beside all else. -/
theorem frame_ok {s : FSeg} (h : Rel ρ st w) (hs : subL s.s0 st.heap = true) {ρ' : Ren} {w' : World} {st1 : St} (h1 : Rel ρ' st1 w') (he : Ext ρ ⟨heapOf s.s0, s.n0⟩ w ρ' st1 w') (hs1 : subL s.s1 st1.heap = true) (hn1 : st1.next ≤ s.n1) :
    Rel ρ' (s.after st) w' ∧ Ext ρ st w ρ' (s.after st) w' := by
  have hb := subL_eq hs
  have hb1 := subL_eq hs1
  -- what the part may write, the whole may
  have hown0 : ∀ i, Own ρ ⟨heapOf s.s0, s.n0⟩ i → ∃ x ∈ s.s0, ∃ k p, st.heap.get x.1 = some k ∧ k.rw ∧ ρ x.1 = some p ∧ p.blk = i := by
    rintro i ⟨b, k, p, g1, g2, g3, g4⟩
    obtain ⟨x, hx, rfl, rfl⟩ := heapOf_get _ _ _ g1
    obtain ⟨k2, q1, q2⟩ := hb x hx
    exact ⟨x, hx, k2, p, q1, (blkSub_rel (ρ := ρ) q2).1.1 g2, g3, g4⟩
  have hown0' : ∀ i, Own ρ ⟨heapOf s.s0, s.n0⟩ i → Own ρ st i := fun i hi => let ⟨x, _, k, p, a, b, c, d⟩ := hown0 i hi; ⟨x.1, k, p, a, b, c, d⟩
  have hcase : ∀ b k, (s.after st).heap.get b = some k → (∃ x ∈ s.s1, x.1 = b ∧ x.2 = k) ∨ ((∀ x ∈ s.s0, x.1 ≠ b) ∧ st.heap.get b = some k) := by
    intro b k hk
    rcases putL_get _ _ _ _ hk with h2 | ⟨_, h3⟩
    · exact .inl h2
    · exact .inr (delL_get _ _ _ _ h3)
  -- a block beside the part
  have hside : ∀ b k p, (∀ x ∈ s.s0, x.1 ≠ b) → st.heap.get b = some k → ρ b = some p → p.blk < w.heap.size ∧ w'.heap[p.blk]? = w.heap[p.blk]? ∧ ¬ Own ρ' st1 p.blk := by
    intro b k p hx hk hp
    obtain ⟨p1, o, g1, g2, _⟩ := h.blk b k hk
    rw [hp] at g1; cases g1
    have hlt := lt_of_some g2
    refine ⟨hlt, he.keep p.blk hlt fun ho => ?_⟩
    obtain ⟨x, hx1, k2, p2, q1, _, q3, q4⟩ := hown0 _ ho
    exact hx x hx1 (h.inj x.1 b k2 k p2 p q1 hk q3 hp q4)
  refine ⟨⟨fun b k hk => ?_, fun b p hp => Nat.lt_of_lt_of_le (h1.fresh b p hp) hn1, fun b b' k k' p p' hk hk' hp hp' hh => ?_⟩, he.ren, he.os, he.tape, he.output, he.size, fun i hi hn => ?_, fun b n c hk => ?_⟩
  · rcases hcase b k hk with ⟨x, hx, rfl, rfl⟩ | ⟨hx, hk2⟩
    · obtain ⟨k2, q1, q2⟩ := hb1 x hx
      obtain ⟨p, o, g1, g2, g3⟩ := h1.blk _ k2 q1
      exact ⟨p, o, g1, g2, (blkSub_rel (ρ := ρ') q2).2.2 g3⟩
    · obtain ⟨p, o, g1, g2, g3⟩ := h.blk b k hk2
      exact ⟨p, o, he.ren _ _ g1, (hside b k p hx hk2 g1).2.1.trans g2, g3.mono he.ren⟩
  · -- two from one place
    have mixed : ∀ b b' k k' p p', (∃ x ∈ s.s1, x.1 = b ∧ x.2 = k) → ((∀ x ∈ s.s0, x.1 ≠ b') ∧ st.heap.get b' = some k') → ρ' b = some p → ρ' b' = some p' → p.blk = p'.blk → b = b' := by
      intro b b' k k' p p' hx hk' hp hp' hh
      obtain ⟨x, hx, rfl, rfl⟩ := hx
      obtain ⟨hx', hk2⟩ := hk'
      obtain ⟨k2, q1, q2⟩ := hb1 x hx
      obtain ⟨p2, o2, g1, g2, _⟩ := h.blk b' k' hk2
      have hpp : p' = p2 := by have := he.ren _ _ g1; rw [hp'] at this; exact (Option.some.inj this)
      subst hpp
      have hsd := hside b' k' p' hx' hk2 g1
      by_cases hrw : k2.rw
      · exact absurd ⟨x.1, k2, p, q1, hrw, hp, hh⟩ hsd.2.2
      · cases k2 with
        | cells n c ro =>
          cases ro with
          | false => exact absurd rfl hrw
          | true =>
            have h5 := he.ro x.1 n c q1
            obtain ⟨y, hy, hy1, hy2⟩ := heapOf_get _ _ _ h5
            obtain ⟨k3, q5, q6⟩ := hb y hy
            obtain ⟨p3, o3, g5, g6, _⟩ := h.blk y.1 k3 q5
            have hp3 : p = p3 := by have := he.ren _ _ g5; rw [hy1, hp] at this; exact (Option.some.inj this)
            subst hp3
            have := h.inj y.1 b' k3 k' p p' q5 hk2 g5 g1 hh
            exact absurd this (hx' y hy)
        | map => exact absurd trivial hrw
        | umap => exact absurd trivial hrw
        | iter => exact absurd trivial hrw
        | striter => exact absurd trivial hrw
        | loop => exact absurd trivial hrw
    rcases hcase b k hk with hx | hx
    · rcases hcase b' k' hk' with hx' | hx'
      · obtain ⟨x, hx, rfl, rfl⟩ := hx
        obtain ⟨y, hy, rfl, rfl⟩ := hx'
        obtain ⟨k2, q1, _⟩ := hb1 x hx
        obtain ⟨k3, q3, _⟩ := hb1 y hy
        exact h1.inj _ _ k2 k3 p p' q1 q3 hp hp' hh
      · exact mixed b b' k k' p p' hx hx' hp hp' hh
    · rcases hcase b' k' hk' with hx' | hx'
      · exact (mixed b' b k' k p' p hx' hx hp' hp hh.symm).symm
      · obtain ⟨p2, o2, g1, _, _⟩ := h.blk b k hx.2
        obtain ⟨p3, o3, g3, _, _⟩ := h.blk b' k' hx'.2
        have e1 : p = p2 := by have := he.ren _ _ g1; rw [hp] at this; exact (Option.some.inj this)
        have e2 : p' = p3 := by have := he.ren _ _ g3; rw [hp'] at this; exact (Option.some.inj this)
        subst e1 e2
        exact h.inj b b' k k' p p' hx.2 hx'.2 g1 g3 hh
  · obtain ⟨g1, g2⟩ := he.keep i hi fun ho => hn (hown0' i ho)
    refine ⟨g1, ?_⟩
    rintro ⟨b, k, p, q1, q2, q3, q4⟩
    rcases hcase b k q1 with ⟨x, hx, rfl, rfl⟩ | ⟨hx, hk2⟩
    · obtain ⟨k2, r1, r2⟩ := hb1 x hx
      exact g2 ⟨x.1, k2, p, r1, (blkSub_rel (ρ := ρ') r2).1.1 q2, q3, q4⟩
    · obtain ⟨p2, o2, g5, _, _⟩ := h.blk b k hk2
      have e1 : p = p2 := by have := he.ren _ _ g5; rw [q3] at this; exact (Option.some.inj this)
      subst e1
      exact hn ⟨b, k, p, hk2, q2, g5, q4⟩
  · rcases hcase b _ hk with ⟨x, hx, rfl, hxk⟩ | ⟨_, hk2⟩
    · obtain ⟨k2, r1, r2⟩ := hb1 x hx
      rw [(blkSub_rel (ρ := ρ') r2).2.1 n c hxk] at r1
      have h5 := he.ro x.1 n c r1
      obtain ⟨y, hy, hy1, hy2⟩ := heapOf_get _ _ _ h5
      obtain ⟨k3, q5, q6⟩ := hb y hy
      rw [← hy1, q5, (blkSub_rel (ρ := ρ) q6).2.1 n c hy2]
    · exact hk2

theorem fsegP_ok {call0 : CallF} (hc0 : CallOK P call0) : ∀ {l : List FSeg}, (∀ s ∈ l, s.ok call0 = true) → PrimOK P (fsegP l) := by
  intro l
  induction l with
  | nil => intro _ call _ f args v st st' h; cases h
  | cons s l ih =>
    intro hl call hc f args v st st' h ρ w args' hg hr ha
    have h' : bcase (s.fits f args st) (some (some (s.v, s.after st))) (fsegP l call f args st) = some (some (v, st')) := h
    cases hx : s.fits f args st with
    | false =>
      rw [hx, bcase_false] at h'
      exact ih (fun s hs => hl s (List.mem_cons_of_mem _ hs)) call hc f args v st st' h' ρ w args' hg hr ha
    | true =>
      rw [hx, bcase_true] at h'
      cases h'
      obtain ⟨g1, g2⟩ := and_true' (p := Nat.beq s.f f) (q := bcase (Nat.ble st.next s.n0) (bcase (vlist veq s.args args) (subL s.s0 st.heap) false) false) hx
      obtain ⟨g3, g4⟩ := and_true' g2
      obtain ⟨g5, g6⟩ := and_true' g4
      have e1 := beq_true g1
      have e2 := vlist_eq' (fun a b hh => veq_sound hh) g5
      subst e1 e2
      have r1 := hr.part g6 (ble_true g3)
      have hok := hl s List.mem_cons_self
      unfold FSeg.ok at hok
      cases hres : call0 (.func s.f) s.args ⟨heapOf s.s0, s.n0⟩ with
      | none => rw [hres] at hok; cases hok
      | some p =>
        rw [hres, ocase_some] at hok
        obtain ⟨g7, g8⟩ := and_true' hok
        obtain ⟨g9, g10⟩ := and_true' g8
        obtain ⟨v1, st1⟩ := p
        have e3 : s.v = v1 := veqR_sound g7
        subst e3
        rcases hc0.func s.f s.args s.v _ st1 hres ρ w args' hg r1 ha with ⟨k1, k2⟩ | ⟨v', ρ', w', k1, k2, k3, k4⟩
        · refine .inl ⟨k1, Calls.mono k2 ?_⟩
          rintro e w' ⟨v', ρ', rfl, q1, q2, q3⟩
          obtain ⟨z1, z2⟩ := frame_ok hr g6 q1 q2 g10 (ble_true g9)
          exact ⟨v', ρ', rfl, z1, z2, q3⟩
        · obtain ⟨z1, z2⟩ := frame_ok hr g6 k2 k3 g10 (ble_true g9)
          exact .inr ⟨v', ρ', w', k1, z1, z2, k4⟩

end Go.Ab

namespace Go.Ab
open Go
/-! What the evaluator is given by hand at this seat. -/
noncomputable def primT : PrimF := orP (primOf 245 fun _ => pCmp) (orP (primOf 185 fun _ => pUsed 4) (orP (primOf 40 fun _ => pList 4) (orP (primOf 285 fun _ => pNoZero) (primOf 168 (pRead 251)))))

/-! Short words for what is printed by program. -/
noncomputable def vi (n : Int) : V := .int .i64 n
noncomputable def vu (n : Int) : V := .int .u64 n
noncomputable def vy (n : Int) : V := .int .u8 n
noncomputable def y8 (l : List Nat) : List V := lrec [] (fun x _ ih => .int .u8 (.ofNat x) :: ih) l
noncomputable def b8 (n : Nat) (l : List Nat) : Blk := .cells n (putAll (y8 l) 0 .nil) false
noncomputable def bc (n : Nat) (l : List V) (ro : Bool) : Blk := .cells n (putAll l 0 .nil) ro
noncomputable def bx (n : Nat) (l : List (Nat × V)) (ro : Bool) : Blk := .cells n (lrec .nil (fun p _ ih => T.force ih fun t => t.put p.1 p.2) l) ro
end Go.Ab
