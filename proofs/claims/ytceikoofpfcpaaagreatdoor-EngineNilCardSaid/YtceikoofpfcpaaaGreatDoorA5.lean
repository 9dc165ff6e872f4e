/-
  A PART OF THE PROOF OF EngineNil's TIED CARD: that the evaluator's maps answer as the model's do. No condition beyond those that the theorems below bear.
-/
import Derived.Test.YtceikoofpfcpaaaGreatDoorA3
import Derived.MapKept
namespace Go.Ab
open Go
variable {P : Program} {ρ : Ren} {st st' : St} {w : World} {tb : Tab}

/-! Maps. -/
theorem atMap_eq {β : Type} {st : St} {b : Nat} {f : Nat → List Ent → Option β} {y : β} (h : atMap st b f = some y) : ∃ c es, st.heap.get b = some (.map c es) ∧ f c es = some y := by
  obtain ⟨k, hk, h⟩ := ob_eq h
  cases k with
  | map c es => exact ⟨c, es, hk, h⟩
  | _ => cases h

theorem Rel.map {ρ : Ren} {st : St} {w : World} (h : Rel ρ st w) {b c : Nat} {es : List Ent} {p : Pl} (hb : st.heap.get b = some (.map c es)) (hp : ρ b = some p) :
    ∃ arr, w.heap[p.blk]? = some (.map arr c) ∧ RelEs ρ es arr.toList := by
  obtain ⟨p1, o1, hp1, ho1, hr⟩ := h.blk b _ hb
  rw [hp] at hp1; cases hp1
  cases hr with
  | map _ _ _ arr h => exact ⟨arr, ho1, h⟩

theorem run_getObj {w : World} {r : Nat} {o : Obj} (h : w.heap[r]? = some o) (hc : ∀ c e f, o ≠ .cells c e f) : (getObj r).run P w = .ok o w := by
  cases o with
  | cells c e f => exact absurd rfl (hc c e f)
  | _ => simp [getObj, Sem.run, h]
theorem run_setObj {w : World} {r : Nat} {o o' : Obj} (h : w.heap[r]? = some o) (hc : ∀ c e f, o ≠ .cells c e f) : (setObj r o').run P w = .ok () (World.putObj w r o') := by
  cases o with
  | cells c e f => exact absurd rfl (hc c e f)
  | _ => simp [setObj, Sem.run, h, World.putObj]

/-- a key, and what kind of keys a map has. -/
def KeyTy (d : TypeDesc) : Prop := d = .string ∨ ∃ k, d = .int k
theorem isKeyD_eq {d : TypeDesc} (h : isKeyD d = true) : KeyTy d := by
  unfold isKeyD at h
  split at h
  · exact .inl rfl
  · exact .inr ⟨_, rfl⟩
  · cases h

theorem keyEq_kind {u v : V} {q : Bool} (h : keyEq u v = some q) : (∃ k a b, u = .int k a ∧ v = .int k b ∧ q = (a == b)) ∨ (∃ a b, u = .str a ∧ v = .str b ∧ q = (a == b)) := by
  cases u <;> first | (cases h; done) | skip
  case int k a =>
    cases v <;> first | (cases h; done) | skip
    rename_i j b
    obtain ⟨h1, h2⟩ := gd_eq (b := keq k j) h
    cases h2
    cases keq_eq h1
    exact .inl ⟨k, a, b, rfl, rfl, ieq_eq a b⟩
  case str a =>
    cases v <;> first | (cases h; done) | skip
    rename_i b
    cases h
    exact .inr ⟨a, b, rfl, rfl, leqB_eq a b⟩

theorem mfind_nil (k : V) : mfind k [] = some none := rfl
theorem mfind_cons (k : V) (e : Ent) (l : List Ent) : mfind k (e :: l) = ob (keyEq k e.1) fun q => bcase q (some (some e.2)) (mfind k l) := rfl
theorem mset_cons (k x : V) (c : Nat) (e : Ent) (l : List Ent) : mset k x c (e :: l) = ob (keyEq k e.1) fun q => bcase q (some (c, (k, x, e.2.2) :: l)) (ob2 (mset k x c l) fun c l => some (c, e :: l)) := rfl
theorem mdel_cons (k : V) (e : Ent) (l : List Ent) : mdel k (e :: l) = ob (keyEq k e.1) fun q => bcase q (some l) (ob (mdel k l) fun l => some (e :: l)) := rfl

theorem ByteArray_beq (a b : ByteArray) : ((a == b) = true) = (a = b) := propext (Go.MapKept.bytes_beq a b)

theorem str_beq (a b : List UInt8) : ((ByteArray.mk a.toArray) == (ByteArray.mk b.toArray)) = (a == b) := by
  rw [Bool.eq_iff_iff, ByteArray_beq]
  simp only [beq_iff_eq]
  constructor
  · intro h; have := congrArg ByteArray.data h; simpa using this
  · intro h; rw [h]

theorem keyOK_eq {d : TypeDesc} {k : V} (h : keyOK d k = true) : (∃ j q a, d = .int j ∧ k = .int q a) ∨ (∃ a, d = .string ∧ k = .str a) := by
  unfold keyOK at h
  cases d <;> first | (cases h; done) | skip
  · cases k <;> first | (cases h; done) | skip
    exact .inl ⟨_, _, _, rfl, rfl⟩
  · cases k <;> first | (cases h; done) | skip
    exact .inr ⟨_, rfl, rfl⟩

/-- two keys that are held against each other. -/
theorem key_same {d : TypeDesc} {u v : V} {u' v' : Value} {q : Bool} (h : keyEq u v = some q) (hu : RelV ρ u u') (hv : RelV ρ v v') (hd : keyOK d u = true) :
    Instr.sameNow d u' v' = some q := by
  rcases keyEq_kind h with ⟨k, a, b, rfl, rfl, rfl⟩ | ⟨a, b, rfl, rfl, rfl⟩
  · rcases keyOK_eq hd with ⟨j, q, x, rfl, _⟩ | ⟨_, _, e⟩
    · cases hu; cases hv; simp [Instr.sameNow]
    · cases e
  · rcases keyOK_eq hd with ⟨_, _, _, _, e⟩ | ⟨x, rfl, _⟩
    · cases e
    · cases hu; cases hv; simp [Instr.sameNow, str_beq]

theorem bcase_some {α : Type} {b : Bool} {x y : Option α} {z : α} (h : bcase b x y = some z) : (b = true ∧ x = some z) ∨ (b = false ∧ y = some z) := by
  cases b
  · exact .inr ⟨rfl, h⟩
  · exact .inl ⟨rfl, h⟩

theorem mfind_sound {d : TypeDesc} {k : V} {k' : Value} (hk : RelV ρ k k') (hd : keyOK d k = true) : ∀ {es : List Ent} {l : List MapEntry} {r : Option (V × Nat)} (i : Nat), mfind k es = some r → RelEs ρ es l →
    (r = none ∧ Instr.findNow d k' l i = some none) ∨ ∃ v b j e', r = some (v, b) ∧ Instr.findNow d k' l i = some (some (i + j, e'.val)) ∧ l[j]? = some e' ∧ RelV ρ v e'.val ∧ e'.born = b := by
  intro es
  induction es with
  | nil => intro l r i h hl; cases h; cases hl; exact .inl ⟨rfl, rfl⟩
  | cons e es ih =>
    intro l r i h hl
    cases hl with
    | cons _ e' _ l' he hl =>
      rw [mfind_cons] at h
      obtain ⟨q, hq, h1⟩ := ob_eq h
      have hs := key_same hq hk he.1 hd
      rcases bcase_some h1 with ⟨rfl, h2⟩ | ⟨rfl, h2⟩
      · cases h2
        exact .inr ⟨e.2.1, e.2.2, 0, e', rfl, by simp [Instr.findNow, hs], by simp, he.2.1, he.2.2.symm⟩
      · rcases ih (i + 1) h2 hl with ⟨g1, g2⟩ | ⟨v, b, j, e2, g1, g2, g3, g4, g5⟩
        · exact .inl ⟨g1, by simp [Instr.findNow, hs, g2]⟩
        · exact .inr ⟨v, b, j + 1, e2, g1, by simp only [Instr.findNow, hs, g2]; congr 3; omega, by simpa using g3, g4, g5⟩

theorem mset_sound {d : TypeDesc} {k x : V} {k' x' : Value} (hk : RelV ρ k k') (hx : RelV ρ x x') (hd : keyOK d k = true) : ∀ {es es2 : List Ent} {l : List MapEntry} {c c2 : Nat} (i : Nat), mset k x c es = some (c2, es2) → RelEs ρ es l →
    (∃ j e', Instr.findNow d k' l i = some (some (i + j, e'.val)) ∧ l[j]? = some e' ∧ c2 = c ∧ RelEs ρ es2 (l.modify j fun e => { e with key := k', val := x' }) ∧ Instr.sameNow d k' e'.key = some true) ∨
    (Instr.findNow d k' l i = some none ∧ c2 = c + 1 ∧ RelEs ρ es2 (l ++ [{ key := k', val := x', born := c }])) := by
  intro es
  induction es with
  | nil => intro es2 l c c2 i h hl; cases h; cases hl; exact .inr ⟨rfl, rfl, .cons _ _ _ _ ⟨hk, hx, rfl⟩ .nil⟩
  | cons e es ih =>
    intro es2 l c c2 i h hl
    cases hl with
    | cons _ e' _ l' he hl =>
      rw [mset_cons] at h
      obtain ⟨q, hq, h1⟩ := ob_eq h
      have hs := key_same hq hk he.1 hd
      rcases bcase_some h1 with ⟨rfl, h2⟩ | ⟨rfl, h2⟩
      · cases h2
        exact .inl ⟨0, e', by simp [Instr.findNow, hs], by simp, rfl, RelEs.cons (k, x, e.2.2) { e' with key := k', val := x' } _ _ ⟨hk, hx, he.2.2⟩ hl, hs⟩
      · obtain ⟨c3, es3, h3, h4⟩ := ob2_eq h2
        cases h4
        rcases ih (i + 1) h3 hl with ⟨j, e2, g1, g2, g3, g4, g5⟩ | ⟨g1, g2, g3⟩
        · exact .inl ⟨j + 1, e2, by simp only [Instr.findNow, hs, g1]; congr 3; omega, by simpa using g2, g3, by simpa using RelEs.cons _ _ _ _ he g4, g5⟩
        · exact .inr ⟨by simp [Instr.findNow, hs, g1], g2, .cons _ _ _ _ he g3⟩

theorem mdel_sound {d : TypeDesc} {k : V} {k' : Value} (hk : RelV ρ k k') (hd : keyOK d k = true) : ∀ {es es2 : List Ent} {l : List MapEntry} (i : Nat), mdel k es = some es2 → RelEs ρ es l →
    (∃ j v', Instr.findNow d k' l i = some (some (i + j, v')) ∧ j < l.length ∧ RelEs ρ es2 (l.eraseIdx j)) ∨ (Instr.findNow d k' l i = some none ∧ RelEs ρ es2 l) := by
  intro es
  induction es with
  | nil => intro es2 l i h hl; cases h; cases hl; exact .inr ⟨rfl, .nil⟩
  | cons e es ih =>
    intro es2 l i h hl
    cases hl with
    | cons _ e' _ l' he hl =>
      rw [mdel_cons] at h
      obtain ⟨q, hq, h1⟩ := ob_eq h
      have hs := key_same hq hk he.1 hd
      rcases bcase_some h1 with ⟨rfl, h2⟩ | ⟨rfl, h2⟩
      · cases h2
        exact .inl ⟨0, e'.val, by simp [Instr.findNow, hs], by simp, by simpa using hl⟩
      · obtain ⟨es3, h3, h4⟩ := ob_eq h2
        cases h4
        rcases ih (i + 1) h3 hl with ⟨j, v', g1, g2, g3⟩ | ⟨g1, g2⟩
        · exact .inl ⟨j + 1, v', by simp only [Instr.findNow, hs, g1]; congr 3; omega, by simpa using g2, by simpa using RelEs.cons _ _ _ _ he g3⟩
        · exact .inr ⟨by simp [Instr.findNow, hs, g1], .cons _ _ _ _ he g2⟩

theorem mapElem_eq (ht : TabOK P tb) {t : TypeId} {d : TypeDesc} {re : Row} (h : mapElem tb t = some (d, re)) :
    ∃ k e, P.underlying t = some (.map k e) ∧ P.underlying k = some d ∧ RowOK P e re := by
  obtain ⟨r, hr, h1⟩ := ob_eq h
  obtain ⟨k, e, hk, h2⟩ := ob2_eq h1
  obtain ⟨rk, hrk, h3⟩ := ob_eq h2
  obtain ⟨re', hre, h4⟩ := ob_eq h3
  cases h4
  obtain ⟨i, z, _, _, g3, _⟩ := (row_ok ht hr).ex
  obtain ⟨i2, z2, _, _, g4, _⟩ := (row_ok ht hrk).ex
  have : r.desc = .map k e := by
    unfold elemMap at hk
    split at hk
    · cases hk; assumption
    · cases hk
  exact ⟨k, e, by rw [g3, this], g4, row_ok ht hre⟩

theorem checkKey_run {kt : TypeId} {d : TypeDesc} {k : V} {k' : Value} (hu : P.underlying kt = some d) (hd : keyOK d k = true) (hk : RelV ρ k k') (b : Bool) :
    (Instr.checkKey b 10000 kt k').run P w = .ok () w := by
  have : ∀ n, (Instr.checkKey b (n + 1) kt k').run P w = .ok () w := by
    intro n
    rcases keyOK_eq hd with ⟨j, q, a, rfl, rfl⟩ | ⟨a, rfl, rfl⟩
    · cases hk; simp [Instr.checkKey, run_underlying hu]
    · cases hk; simp [Instr.checkKey, run_underlying hu]
  exact this 9999

theorem findKey_run {kt : TypeId} {d : TypeDesc} {k' : Value} {l : List MapEntry} {r : Option (Nat × Value)} (hu : P.underlying kt = some d) (h : Instr.findNow d k' l 0 = some r) :
    (Instr.findKey kt k' l).run P w = .ok r w := by
  simp only [Instr.findKey, Sem.run_bind, run_underlying hu, Result.andThen_ok, h, Sem.run_pure]

end Go.Ab

namespace Go.Ab
open Go

theorem and_true' {p q : Bool} (h : bcase p q false = true) : p = true ∧ q = true := by
  rw [bcase_eq] at h
  split at h
  · rename_i h1; exact ⟨h1, h⟩
  · cases h
/-! Maps whose entries' order is open. -/
noncomputable def sfind (k : V) (l : List (V × V)) : Option (Option V) := lrec (some none) (fun e _ ih => ob (keyEq k e.1) fun q => bcase q (some (some e.2)) ih) l
noncomputable def sset (k x : V) (l : List (V × V)) : Option (List (V × V)) := lrec (some [(k, x)]) (fun e l ih => ob (keyEq k e.1) fun q => bcase q (some ((k, x) :: l)) (ob ih fun l => some (e :: l))) l
noncomputable def sdel (k : V) (l : List (V × V)) : Option (List (V × V)) := lrec (some []) (fun e l ih => ob (keyEq k e.1) fun q => bcase q (some l) (ob ih fun l => some (e :: l))) l
theorem sfind_cons (k : V) (e : V × V) (l : List (V × V)) : sfind k (e :: l) = ob (keyEq k e.1) fun q => bcase q (some (some e.2)) (sfind k l) := rfl
theorem sset_cons (k x : V) (e : V × V) (l : List (V × V)) : sset k x (e :: l) = ob (keyEq k e.1) fun q => bcase q (some ((k, x) :: l)) (ob (sset k x l) fun l => some (e :: l)) := rfl
theorem sdel_cons (k : V) (e : V × V) (l : List (V × V)) : sdel k (e :: l) = ob (keyEq k e.1) fun q => bcase q (some l) (ob (sdel k l) fun l => some (e :: l)) := rfl

theorem mfind_strip {k : V} : ∀ (es : List Ent), (mfind k es).map (fun f => f.map (·.1)) = sfind k (es.map strip) := by
  intro es
  induction es with
  | nil => rfl
  | cons e es ih =>
    rw [List.map_cons, mfind_cons, sfind_cons]
    show _ = ob (keyEq k e.1) _
    cases keyEq k e.1 with
    | none => rfl
    | some q => cases q with
      | true => rfl
      | false => exact ih
theorem mset_strip {k x : V} : ∀ (es : List Ent) (c : Nat), (mset k x c es).map (fun f => f.2.map strip) = sset k x (es.map strip) := by
  intro es
  induction es with
  | nil => intro c; rfl
  | cons e es ih =>
    intro c
    rw [List.map_cons, mset_cons, sset_cons]
    show _ = ob (keyEq k e.1) _
    cases keyEq k e.1 with
    | none => rfl
    | some q => cases q with
      | true => rfl
      | false =>
        rw [ob_some, ob_some, bcase_false, bcase_false, ← ih c]
        cases mset k x c es with
        | none => rfl
        | some p => rfl
theorem mdel_strip {k : V} : ∀ (es : List Ent), (mdel k es).map (fun f => f.map strip) = sdel k (es.map strip) := by
  intro es
  induction es with
  | nil => rfl
  | cons e es ih =>
    rw [List.map_cons, mdel_cons, sdel_cons]
    show _ = ob (keyEq k e.1) _
    cases keyEq k e.1 with
    | none => rfl
    | some q => cases q with
      | true => rfl
      | false =>
        rw [ob_some, ob_some, bcase_false, bcase_false, ← ih]
        cases mdel k es with
        | none => rfl
        | some p => rfl

abbrev ApartR (a b : V × V) : Prop := keyEq a.1 b.1 = some false
theorem keyEq_symm {a b : V} (h : keyEq a b = some false) : keyEq b a = some false := by
  rcases keyEq_kind h with ⟨k, x, y, rfl, rfl, h2⟩ | ⟨x, y, rfl, rfl, h2⟩
  · have hne : x ≠ y := by simpa using h2
    show gd (keq k k) (some (ieq y x)) = some false
    have : keq k k = true := Nat.beq_refl _
    rw [this, ieq_eq]
    simp [gd, Ne.symm hne]
  · have hne : x ≠ y := by simpa using h2
    show some (leqB y x) = some false
    rw [leqB_eq]
    simp [Ne.symm hne]
theorem ApartR.symm {a b : V × V} (h : ApartR a b) : ApartR b a := keyEq_symm h
theorem keyEq_trans {k a b : V} (h : keyEq k a = some true) (h2 : keyEq a b = some false) : keyEq k b = some false := by
  rcases keyEq_kind h with ⟨j, x, y, rfl, rfl, h3⟩ | ⟨x, y, rfl, rfl, h3⟩
  · have : x = y := by simpa using h3
    subst this; exact h2
  · have : x = y := by simpa using h3
    subst this; exact h2

theorem apart1_eq {k : V} : ∀ {l : List Ent}, apart1 k l = true → ∀ e ∈ l, keyEq k e.1 = some false := by
  intro l
  induction l with
  | nil => intro _ e he; cases he
  | cons a l ih =>
    intro h e he
    have h' : ocase (keyEq k a.1) false (fun q => bcase q false (apart1 k l)) = true := h
    cases hq : keyEq k a.1 with
    | none => rw [hq] at h'; cases h'
    | some q =>
      rw [hq, ocase_some] at h'
      cases q with
      | true => cases h'
      | false =>
        rcases List.mem_cons.1 he with e1 | e1
        · subst e1; exact hq
        · exact ih h' e e1
theorem apartK_eq : ∀ {l : List Ent}, apartK l = true → (l.map strip).Pairwise ApartR := by
  intro l
  induction l with
  | nil => intro _; exact .nil
  | cons a l ih =>
    intro h
    obtain ⟨h1, h2⟩ := and_true' (p := apart1 a.1 l) (q := apartK l) h
    rw [List.map_cons]
    refine List.pairwise_cons.2 ⟨fun b hb => ?_, ih h2⟩
    obtain ⟨e, he, rfl⟩ := List.mem_map.1 hb
    exact apart1_eq h1 e he

theorem pw_perm {l l2 : List (V × V)} (h : l.Perm l2) (hp : l.Pairwise ApartR) : l2.Pairwise ApartR := (h.pairwise_iff (fun h => ApartR.symm h)).1 hp

theorem sfind_perm {k : V} {l l2 : List (V × V)} (h : l.Perm l2) : ∀ {r : Option V}, l.Pairwise ApartR → sfind k l = some r → sfind k l2 = some r := by
  induction h with
  | nil => intro r _ h; exact h
  | cons x _ ih =>
    intro r hp hs
    rw [sfind_cons] at hs ⊢
    obtain ⟨q, hq, h1⟩ := ob_eq hs
    rw [hq, ob_some]
    cases q with
    | true => exact h1
    | false => exact ih (List.pairwise_cons.1 hp).2 h1
  | swap x y l =>
    intro r hp hs
    have hxy : keyEq y.1 x.1 = some false := (List.pairwise_cons.1 hp).1 x List.mem_cons_self
    rw [sfind_cons, sfind_cons] at hs
    rw [sfind_cons, sfind_cons]
    obtain ⟨q, hq, h1⟩ := ob_eq hs
    cases q with
    | true =>
      rw [keyEq_trans hq hxy, hq]
      exact h1
    | false =>
      rw [bcase_false] at h1
      obtain ⟨q2, hq2, h2⟩ := ob_eq h1
      rw [hq2, hq]
      cases q2 with
      | true => exact h2
      | false => exact h2
  | trans h1 _ ih1 ih2 =>
    intro r hp hs
    exact ih2 (pw_perm h1 hp) (ih1 hp hs)

theorem sset_perm {k x : V} {l l2 : List (V × V)} (h : l.Perm l2) : ∀ {a : List (V × V)}, l.Pairwise ApartR → sset k x l = some a → ∃ b, sset k x l2 = some b ∧ a.Perm b := by
  induction h with
  | nil => intro r _ h; exact ⟨r, h, .refl _⟩
  | cons e hp0 ih =>
    intro a hp hs
    rw [sset_cons] at hs
    rw [sset_cons]
    obtain ⟨q, hq, h1⟩ := ob_eq hs
    rw [hq, ob_some]
    cases q with
    | true => cases h1; exact ⟨_, rfl, hp0.cons _⟩
    | false =>
      rw [bcase_false] at h1 ⊢
      obtain ⟨a2, h2, h3⟩ := ob_eq h1
      cases h3
      obtain ⟨b, h4, h5⟩ := ih (List.pairwise_cons.1 hp).2 h2
      rw [h4]
      exact ⟨_, rfl, h5.cons _⟩
  | swap e f l =>
    intro a hp hs
    have hxy : keyEq f.1 e.1 = some false := (List.pairwise_cons.1 hp).1 e List.mem_cons_self
    rw [sset_cons, sset_cons] at hs
    rw [sset_cons, sset_cons]
    obtain ⟨q, hq, h1⟩ := ob_eq hs
    cases q with
    | true =>
      cases h1
      rw [keyEq_trans hq hxy, hq]
      exact ⟨_, rfl, List.Perm.swap _ _ _⟩
    | false =>
      rw [bcase_false] at h1
      obtain ⟨a2, h1', h1⟩ := ob_eq h1
      cases h1
      obtain ⟨q2, hq2, h2⟩ := ob_eq h1'
      rw [hq2, hq]
      cases q2 with
      | true => cases h2; exact ⟨_, rfl, List.Perm.swap _ _ _⟩
      | false =>
        rw [bcase_false] at h2
        obtain ⟨a3, h3, h4⟩ := ob_eq h2
        cases h4
        simp only [ob_some, bcase_false, h3]
        exact ⟨_, rfl, List.Perm.swap _ _ _⟩
  | trans h1 _ ih1 ih2 =>
    intro a hp hs
    obtain ⟨b, g1, g2⟩ := ih1 hp hs
    obtain ⟨c, g3, g4⟩ := ih2 (pw_perm h1 hp) g1
    exact ⟨c, g3, g2.trans g4⟩

theorem sdel_perm {k : V} {l l2 : List (V × V)} (h : l.Perm l2) : ∀ {a : List (V × V)}, l.Pairwise ApartR → sdel k l = some a → ∃ b, sdel k l2 = some b ∧ a.Perm b := by
  induction h with
  | nil => intro r _ h; exact ⟨r, h, .refl _⟩
  | cons e hp0 ih =>
    intro a hp hs
    rw [sdel_cons] at hs
    rw [sdel_cons]
    obtain ⟨q, hq, h1⟩ := ob_eq hs
    rw [hq, ob_some]
    cases q with
    | true => cases h1; exact ⟨_, rfl, hp0⟩
    | false =>
      rw [bcase_false] at h1 ⊢
      obtain ⟨a2, h2, h3⟩ := ob_eq h1
      cases h3
      obtain ⟨b, h4, h5⟩ := ih (List.pairwise_cons.1 hp).2 h2
      rw [h4]
      exact ⟨_, rfl, h5.cons _⟩
  | swap e f l =>
    intro a hp hs
    have hxy : keyEq f.1 e.1 = some false := (List.pairwise_cons.1 hp).1 e List.mem_cons_self
    rw [sdel_cons, sdel_cons] at hs
    rw [sdel_cons, sdel_cons]
    obtain ⟨q, hq, h1⟩ := ob_eq hs
    cases q with
    | true =>
      cases h1
      rw [keyEq_trans hq hxy, hq]
      exact ⟨_, rfl, .refl _⟩
    | false =>
      rw [bcase_false] at h1
      obtain ⟨a2, h1', h1⟩ := ob_eq h1
      cases h1
      obtain ⟨q2, hq2, h2⟩ := ob_eq h1'
      rw [hq2, hq]
      cases q2 with
      | true => cases h2; exact ⟨_, rfl, .refl _⟩
      | false =>
        rw [bcase_false] at h2
        obtain ⟨a3, h3, h4⟩ := ob_eq h2
        cases h4
        simp only [ob_some, bcase_false, h3]
        exact ⟨_, rfl, List.Perm.swap _ _ _⟩
  | trans h1 _ ih1 ih2 =>
    intro a hp hs
    obtain ⟨b, g1, g2⟩ := ih1 hp hs
    obtain ⟨c, g3, g4⟩ := ih2 (pw_perm h1 hp) g1
    exact ⟨c, g3, g2.trans g4⟩

/-- an entry found in one order is found in each. -/
theorem mfind_perm {k : V} {es es2 : List Ent} {r : Option (V × Nat)} (hp : (es2.map strip).Perm (es.map strip)) (ha : es2 = es ∨ apartK es = true) (h : mfind k es = some r) :
    ∃ r2, mfind k es2 = some r2 ∧ r2.map (·.1) = r.map (·.1) := by
  rcases ha with rfl | ha
  · exact ⟨r, h, rfl⟩
  · have h1 := mfind_strip (k := k) es
    rw [h] at h1
    have h2 := sfind_perm hp.symm (apartK_eq ha) h1.symm
    have h3 := mfind_strip (k := k) es2
    rw [h2] at h3
    cases hx : mfind k es2 with
    | none => rw [hx] at h3; cases h3
    | some r2 => rw [hx] at h3; exact ⟨r2, rfl, Option.some.inj h3⟩
theorem mset_perm {k x : V} {es es2 a : List Ent} {c c0 : Nat} (c2 : Nat) (hp : (es2.map strip).Perm (es.map strip)) (ha : apartK es = true) (h : mset k x c es = some (c0, a)) :
    ∃ c3 b, mset k x c2 es2 = some (c3, b) ∧ (b.map strip).Perm (a.map strip) := by
  have h1 := mset_strip (k := k) (x := x) es c
  rw [h] at h1
  obtain ⟨b, h2, h4⟩ := sset_perm hp.symm (apartK_eq ha) h1.symm
  have h3 := mset_strip (k := k) (x := x) es2 c2
  rw [h2] at h3
  cases hx : mset k x c2 es2 with
  | none => rw [hx] at h3; cases h3
  | some r2 =>
    rw [hx] at h3
    obtain ⟨c3, b2⟩ := r2
    refine ⟨c3, b2, rfl, ?_⟩
    have h5 : b2.map strip = b := Option.some.inj h3
    rw [h5]; exact h4.symm
theorem mdel_perm {k : V} {es es2 a : List Ent} (hp : (es2.map strip).Perm (es.map strip)) (ha : apartK es = true) (h : mdel k es = some a) :
    ∃ b, mdel k es2 = some b ∧ (b.map strip).Perm (a.map strip) := by
  have h1 := mdel_strip (k := k) es
  rw [h] at h1
  obtain ⟨b, h2, h4⟩ := sdel_perm hp.symm (apartK_eq ha) h1.symm
  have h3 := mdel_strip (k := k) es2
  rw [h2] at h3
  cases hx : mdel k es2 with
  | none => rw [hx] at h3; cases h3
  | some r2 =>
    rw [hx] at h3
    refine ⟨r2, rfl, ?_⟩
    have h5 : r2.map strip = b := Option.some.inj h3
    rw [h5]; exact h4.symm

end Go.Ab

namespace Go.Ab
open Go
variable {P : Program} {ρ : Ren} {st st' : St} {w : World} {tb : Tab}

theorem mapK_eq {β : Type} {v : V} {f : Nat → Option β} {y : β} (h : mapK v f = some y) : ∃ b, v = .map b ∧ f b = some y := by
  cases v <;> first | (exact ⟨_, rfl, h⟩) | cases h

/-- a map's entries written anew. -/
theorem putMap_sound (h : Rel ρ st w) {b c c2 : Nat} {es es2 : List Ent} {p : Pl} {arr2 : Array MapEntry} (hb : st.heap.get b = some (.map c es)) (hp : ρ b = some p)
    (he : RelEs ρ es2 arr2.toList) {st' : St} (hs : putBlk st b (.map c2 es2) = some st') :
    ∀ arr, w.heap[p.blk]? = some (.map arr c) → (setObj p.blk (.map arr2 c2)).run P w = .ok () (World.putObj w p.blk (.map arr2 c2)) ∧
      Rel ρ st' (World.putObj w p.blk (.map arr2 c2)) ∧ Ext ρ st w ρ st' (World.putObj w p.blk (.map arr2 c2)) := by
  intro arr ho
  simp only [putBlk, setBlk, T.force_eq, Option.some.injEq] at hs
  subst hs
  obtain ⟨g1, g2⟩ := h.put hb hp (k := .map c2 es2) (o := .map arr2 c2) (.map _ _ _ _ he) trivial
  exact ⟨run_setObj ho (fun _ _ _ e => by cases e), g1, g2⟩

/-- a map's block written anew. -/
theorem putMapB_sound (h : Rel ρ st w) {b : Nat} {k0 k : Blk} {p : Pl} {arr arr2 : Array MapEntry} {c c2 : Nat} (hb : st.heap.get b = some k0) (hp : ρ b = some p) (hk : RelBlk ρ k p (.map arr2 c2)) (hrw : k0.rw ∧ k.rw)
    {st' : St} (hs : putBlk st b k = some st') (ho : w.heap[p.blk]? = some (.map arr c)) : (setObj p.blk (.map arr2 c2)).run P w = .ok () (World.putObj w p.blk (.map arr2 c2)) ∧
      Rel ρ st' (World.putObj w p.blk (.map arr2 c2)) ∧ Ext ρ st w ρ st' (World.putObj w p.blk (.map arr2 c2)) := by
  simp only [putBlk, setBlk, T.force_eq, Option.some.injEq] at hs
  subst hs
  obtain ⟨g1, g2⟩ := h.put hb hp (k := k) (o := .map arr2 c2) hk hrw.1 hrw.2
  exact ⟨run_setObj ho (fun _ _ _ e => by cases e), g1, g2⟩

theorem blkMapU_eq {β : Type} {k : Blk} {f : Nat → List Ent → Option β} {y : β} (h : blkMapU k f = some y) {p : Pl} {o : Obj} (hr : RelBlk ρ k p o) :
    ∃ (c c' : Nat) (es es2 : List Ent) (arr : Array MapEntry), o = .map arr c' ∧ f c es = some y ∧ RelEs ρ es2 arr.toList ∧ (es2.map strip).Perm (es.map strip) ∧ (es2 = es ∨ apartK es = true) := by
  unfold blkMapU at h
  cases k <;> first | (cases h; done) | skip
  case map c es => cases hr with | map _ _ _ arr h2 => exact ⟨c, c, es, es, arr, rfl, h, h2, .refl _, .inl rfl⟩
  case umap es =>
    obtain ⟨g1, g2⟩ := gd_eq h
    cases hr with | umap _ _ arr clock es2 hp h2 => exact ⟨0, clock, es, es2, arr, rfl, g2, h2, hp, .inr g1⟩

theorem getMap_sound (h : Rel ρ st w) {β : Type} {v : V} {v' : Value} {f : Nat → List Ent → Option β} {y : β} (hg : getMap st v f = some y) (hv : RelV ρ v v') :
    ∃ (c c' : Nat) (es es2 : List Ent) (arr : Array MapEntry), f c es = some y ∧ RelEs ρ es2 arr.toList ∧ (es2.map strip).Perm (es.map strip) ∧ (es2 = es ∨ apartK es = true) ∧
      ((v' = .map none ∧ arr = #[]) ∨ ∃ r, v' = .map (some r) ∧ w.heap[r]? = some (.map arr c')) := by
  cases hv <;> first | (cases hg; done) | skip
  · rename_i b p hp
    obtain ⟨k, hb, h1⟩ := ob_eq hg
    obtain ⟨p1, o, hp1, ho, hr⟩ := h.blk b k hb
    rw [hp] at hp1; cases hp1
    obtain ⟨c, c', es, es2, arr, rfl, g1, g2, g3, g4⟩ := blkMapU_eq h1 hr
    exact ⟨c, c', es, es2, arr, g1, g2, g3, g4, .inr ⟨p.blk, rfl, ho⟩⟩
  · exact ⟨0, 0, [], [], #[], hg, .nil, .refl _, .inl rfl, .inl ⟨rfl, rfl⟩⟩

theorem lookup_sound (ht : TabOK P tb) (h : Rel ρ st w) {fr : T V} {ev : Operand → Value} (hf : Fits ρ fr ev) {t : TypeId} {x ix : Operand} {ok : Bool} {v : V} (h0 : oLookup tb fr st t x ix ok = some (v, st')) :
    st' = st ∧ Gives P ρ w (Instr.lookup t (ev x) (ev ix) ok) v := by
  obtain ⟨d, re, hm, h1⟩ := ob2_eq h0
  obtain ⟨m, hm2, h2⟩ := ob_eq (o := opd fr x) h1
  obtain ⟨k, hk, h3⟩ := ob_eq (o := opd fr ix) h2
  obtain ⟨hkd, h4⟩ := gd_eq h3
  obtain ⟨kt, e, hu, huk, hre⟩ := mapElem_eq ht hm
  have rm := hf.opd x m hm2
  have rk := hf.opd ix k hk
  generalize ev x = m' at rm
  generalize ev ix = k' at rk
  obtain ⟨c, c', es, es2, arr, h5, hes, hpm, hap, hcase⟩ := getMap_sound h h4 rm
  obtain ⟨f, hf2, h6⟩ := ob_eq h5
  obtain ⟨f2, hf3, hff⟩ := mfind_perm hpm hap hf2
  obtain ⟨z, hz, hz2, _⟩ := hre.zero ρ w
  have key : ∀ r' : Option (Nat × Value), Instr.findNow d k' arr.toList 0 = some r' → (Instr.lookup t m' k' ok).run P w =
      .ok (match r' with | some (_, v) => (if ok then .tuple #[v, .bool true] else v) | none => (if ok then .tuple #[z, .bool false] else z)) w := by
    intro r' hr'
    have hck := fun b => checkKey_run (P := P) (w := w) huk hkd rk b
    have hfk := findKey_run (P := P) (w := w) huk hr'
    clear h0 h1 h2 h3 h4 h5 hm hm2 hk hf2 h6 hff hf3
    rcases hcase with ⟨rfl, rfl⟩ | ⟨r, rfl, ho⟩
    · cases r' with
      | none => simp [Instr.lookup, run_underlying hu, hck, hfk, hz]
      | some q => simp [Instr.lookup, run_underlying hu, hck, hfk]
    · have hgo := run_getObj (P := P) ho (fun _ _ _ e => by cases e)
      cases r' with
      | none => simp [Instr.lookup, run_underlying hu, hck, hfk, hz, hgo]
      | some q => simp [Instr.lookup, run_underlying hu, hck, hfk, hgo]
  rcases mfind_sound rk hkd 0 hf3 hes with ⟨rfl, g⟩ | ⟨u, b, j, e2, rfl, g, _, g2, _⟩
  · have hfn : f = none := by cases f with
      | none => rfl
      | some q => cases hff
    subst hfn
    cases h6
    refine ⟨rfl, _, key _ g, ?_⟩
    cases ok with
    | true => exact .tuple _ _ (.cons _ _ _ _ hz2 (.cons _ _ _ _ (.bool _) .nil))
    | false => exact hz2
  · obtain ⟨q, rfl, hq⟩ : ∃ q, f = some q ∧ q.1 = u := by
      cases f with
      | none => cases hff
      | some q => exact ⟨q, rfl, (Option.some.inj hff).symm⟩
    cases h6
    refine ⟨rfl, _, key _ g, ?_⟩
    rw [hq]
    cases ok with
    | true => exact .tuple _ _ (.cons _ _ _ _ g2 (.cons _ _ _ _ (.bool _) .nil))
    | false => exact g2

theorem same_bits {d : TypeDesc} {a b : Value} (h : Instr.sameNow d a b = some true) : Instr.sameBits 10000 b a = true := by
  unfold Instr.sameNow at h
  split at h <;> try (cases h; done)
  all_goals first
    | (split at h
       · simp at h; rename_i e; subst e; subst h; simp [Instr.sameBits]
       · cases h)
    | (simp at h; subst h; simp [Instr.sameBits])
    | (simp only [Option.some.injEq, ByteArray_beq] at h; simp only [Instr.sameBits, ByteArray_beq]; exact h.symm)

theorem stays_run {a b : Value} (h : Instr.sameBits 10000 a b = true) : (Instr.keyThatStays a b).run P w = .ok b w := by
  simp [Instr.keyThatStays, h]

theorem modify_toList (arr : Array MapEntry) (j : Nat) (f : MapEntry → MapEntry) : (arr.modify j f).toList = arr.toList.modify j f := by simp

theorem mapUpdate_sound (ht : TabOK P tb) (h : Rel ρ st w) {fr : T V} {ev : Operand → Value} (hf : Fits ρ fr ev) {t : TypeId} {m k x : Operand} {v : V} (h0 : oMapUpdate tb fr st t m k x = some (v, st')) :
    v = .tuple [] ∧ ∃ w', (Instr.mapUpdate t (ev m) (ev k) (ev x)).run P w = .ok () w' ∧ Rel ρ st' w' ∧ Ext ρ st w ρ st' w' := by
  obtain ⟨d, re, hm, h1⟩ := ob2_eq h0
  obtain ⟨mv, hmv, h2⟩ := ob_eq (o := opd fr m) h1
  obtain ⟨kv, hkv, h3⟩ := ob_eq (o := opd fr k) h2
  obtain ⟨hkd, h4⟩ := gd_eq h3
  obtain ⟨xv, hxv, h5⟩ := ob_eq (o := opd fr x) h4
  obtain ⟨b, rfl, h6⟩ := mapK_eq h5
  obtain ⟨bk, hb, h7⟩ := ob_eq h6
  obtain ⟨bk2, h8, h9⟩ := ob_eq h7
  obtain ⟨st1, h10, h11⟩ := ob_eq h9
  cases h11
  obtain ⟨kt, e, hu, huk, hre⟩ := mapElem_eq ht hm
  have rm := hf.opd m _ hmv
  have rk := hf.opd k _ hkv
  have rx := hf.opd x _ hxv
  generalize ev m = m' at rm
  generalize ev k = k' at rk
  generalize ev x = x' at rx
  refine ⟨rfl, ?_⟩
  cases rm with
  | map _ p hp =>
    obtain ⟨p1, o, hp1, ho, hr⟩ := h.blk b bk hb
    rw [hp] at hp1; cases hp1
    -- the entries in the world's order
    obtain ⟨arr, c, es2, c2, a2, rfl, hes, h12, hrel⟩ : ∃ (arr : Array MapEntry) (c : Nat) (es2 : List Ent) (c2 : Nat) (a2 : List Ent), o = .map arr c ∧ RelEs ρ es2 arr.toList ∧ mset kv xv c es2 = some (c2, a2) ∧
        (∀ arr2 : Array MapEntry, RelEs ρ a2 arr2.toList → RelBlk ρ bk2 p (.map arr2 c2)) ∧ (bk.rw ∧ bk2.rw) := by
      unfold upBlk at h8
      cases bk <;> first | (cases h8; done) | skip
      case map c es =>
        obtain ⟨c2, es2, g1, g2⟩ := ob2_eq h8
        cases g2
        cases hr with | map _ _ _ arr hr => exact ⟨arr, c, es, c2, es2, rfl, hr, g1, fun arr2 h => .map _ _ _ _ h, trivial, trivial⟩
      case umap es =>
        obtain ⟨g0, g1⟩ := gd_eq h8
        obtain ⟨c2, a, g2, g3⟩ := ob2_eq g1
        cases g3
        cases hr with
        | umap _ _ arr clock es2 hpm hr =>
          obtain ⟨c3, b3, k1, k2⟩ := mset_perm clock hpm g0 g2
          exact ⟨arr, clock, es2, c3, b3, rfl, hr, k1, fun arr2 h => .umap _ _ _ _ b3 k2 h, trivial, trivial⟩
    obtain ⟨hrel, hrw⟩ := hrel
    rcases mset_sound rk rx hkd 0 h12 hes with ⟨j, e2, g1, g2, rfl, g3, g4⟩ | ⟨g1, rfl, g3⟩
    · rw [← modify_toList] at g3
      obtain ⟨r1, r2, r3⟩ := putMapB_sound (P := P) h hb hp (hrel _ g3) hrw h10 ho
      refine ⟨_, ?_, r2, r3⟩
      have hj : arr[j]? = some e2 := by simpa using g2
      rw [Nat.zero_add] at g1
      simp only [Instr.mapUpdate, Sem.run_bind, run_underlying hu, Result.andThen_ok, run_getObj ho (fun _ _ _ e => by cases e), checkKey_run huk hkd rk, findKey_run huk g1, hj, Option.map_some, Option.getD_some,
        stays_run (same_bits g4)]
      exact r1
    · obtain ⟨r1, r2, r3⟩ := putMapB_sound (P := P) h hb hp (hrel (arr.push { key := k', val := x', born := c }) (by simpa using g3)) hrw h10 ho
      refine ⟨_, ?_, r2, r3⟩
      simp only [Instr.mapUpdate, Sem.run_bind, run_underlying hu, Result.andThen_ok, run_getObj ho (fun _ _ _ e => by cases e), checkKey_run huk hkd rk, findKey_run huk g1]
      exact r1

end Go.Ab

namespace Go.Ab
open Go
variable {P : Program} {ρ : Ren} {st st' : St} {w : World} {tb : Tab}

theorem same_eq {d : TypeDesc} {a b : Value} (h : Instr.sameNow d a b = some true) : a = b := by
  unfold Instr.sameNow at h
  split at h
  · split at h
    · rename_i e; simp at h; subst e; subst h; rfl
    · cases h
  · simp only [Option.some.injEq, ByteArray_beq] at h; rw [h]
  · simp at h; rw [h]
  · cases h

theorem mapEntry_sound (ht : TabOK P tb) (h : Rel ρ st w) {fr : T V} {ev : Operand → Value} (hf : Fits ρ fr ev) {t : TypeId} {m k : Operand} {v : V} (h0 : oMapEntry tb fr st t m k = some (v, st')) :
    Comes1 P ρ st w (Instr.mapEntry t (ev m) (ev k)) v st' := by
  obtain ⟨d, re, hm, h1⟩ := ob2_eq h0
  obtain ⟨mv, hmv, h2⟩ := ob_eq (o := opd fr m) h1
  obtain ⟨kv, hkv, h3⟩ := ob_eq (o := opd fr k) h2
  obtain ⟨hkd, h4⟩ := gd_eq h3
  obtain ⟨b, rfl, h6⟩ := mapK_eq h4
  obtain ⟨c, es, hb, h7⟩ := atMap_eq h6
  obtain ⟨f, hfd, h8⟩ := ob_eq h7
  obtain ⟨kt, e, hu, huk, hre⟩ := mapElem_eq ht hm
  have rm := hf.opd m _ hmv
  have rk := hf.opd k _ hkv
  generalize ev m = m' at rm
  generalize ev k = k' at rk
  cases rm with
  | map _ p hp =>
    obtain ⟨arr, ho, hes⟩ := h.map hb hp
    obtain ⟨z, hz, hz2, _⟩ := hre.zero ρ w
    have hgo := run_getObj (P := P) ho (fun _ _ _ e => by cases e)
    have hck := fun b => checkKey_run (P := P) (w := w) huk hkd rk b
    rcases mfind_sound rk hkd 0 hfd hes with ⟨rfl, g⟩ | ⟨u, n, j, e2, rfl, g, g1, g2, g3⟩
    · obtain ⟨c2, es2, h9, h10⟩ := ob2_eq (o := mset kv (zeroV re) c es) h8
      obtain ⟨st1, h11, h12⟩ := ob_eq h10
      cases h12
      rcases mset_sound rk hz2 hkd 0 h9 hes with ⟨j, e2, g1, _⟩ | ⟨_, rfl, g3⟩
      · rw [g] at g1; cases g1
      · obtain ⟨r1, r2, r3⟩ := putMap_sound (P := P) (arr2 := arr.push { key := k', val := z, born := c }) h hb hp (by simpa using g3) h11 arr ho
        refine ⟨ρ, _, .tuple #[z, .int .i64 c], ?_, r2, r3, .tuple _ _ (.cons _ _ _ _ hz2 (.cons _ _ _ _ (.int _ _) .nil))⟩
        simp only [Instr.mapEntry, Sem.run_bind, run_underlying hu, Result.andThen_ok, hgo, hck, findKey_run huk g, hz, r1, Sem.run_pure, goInt]
    · cases h8
      -- the entry is there: its key is written anew, as it was
      have hj : arr[j]? = some e2 := by simpa using g1
      have hsame : Instr.sameNow d k' e2.key = some true := by
        have : ∀ (l : List MapEntry) (i : Nat) (q : Nat) (v : Value), Instr.findNow d k' l i = some (some (q, v)) → ∃ e, l[q - i]? = some e ∧ i ≤ q ∧ Instr.sameNow d k' e.key = some true := by
          intro l
          induction l with
          | nil => intro i q v hh; cases hh
          | cons a l ih =>
            intro i q v hh
            simp only [Instr.findNow] at hh
            split at hh
            · rename_i hs; cases hh; exact ⟨a, by simp, Nat.le_refl _, hs⟩
            · obtain ⟨e, q1, q2, q3⟩ := ih _ _ _ hh
              refine ⟨e, ?_, by omega, q3⟩
              rw [show q - i = (q - (i + 1)) + 1 by omega]
              simpa using q1
            · cases hh
        obtain ⟨e, q1, _, q3⟩ := this _ _ _ _ g
        rw [Nat.zero_add, Nat.sub_zero] at q1
        rw [g1] at q1; cases q1
        exact q3
      have hkey : k' = e2.key := same_eq hsame
      have hmod : arr.modify j (fun e => { e with key := k' }) = arr := by
        apply Array.ext_getElem?
        intro i
        rw [Array.getElem?_modify]
        by_cases e : j = i
        · subst e; rw [if_pos rfl, hj, hkey]; rfl
        · rw [if_neg e]
      have hset := run_setObj (P := P) (o' := .map arr c) ho (fun _ _ _ e => by cases e)
      rw [putObj_same ho] at hset
      refine ⟨ρ, w, .tuple #[e2.val, .int .i64 n], ?_, h, Ext.refl _ _ _, .tuple _ _ (.cons _ _ _ _ g2 (.cons _ _ _ _ (.int _ _) .nil))⟩
      rw [Nat.zero_add] at g
      simp only [Instr.mapEntry, Sem.run_bind, run_underlying hu, Result.andThen_ok, hgo, hck, findKey_run huk g, hj, Option.map_some, Option.getD_some, stays_run (same_bits hsame), hmod, hset, Sem.run_pure, goInt, g3]

theorem mstamp_sound {n : Nat} {x : V} {x' : Value} (hx : RelV ρ x x') : ∀ {es es2 : List Ent} {l : List MapEntry}, mstamp n x es = some es2 → RelEs ρ es l →
    ∃ i, l.findIdx? (fun e => (e.born : Int) == (n : Int)) = some i ∧ RelEs ρ es2 (l.modify i fun e => { e with val := x' }) := by
  intro es
  induction es with
  | nil => intro es2 l h; cases h
  | cons e es ih =>
    intro es2 l h hl
    cases hl with
    | cons _ e' _ l' he hl =>
      have h1 : bcase (Nat.beq n e.2.2) (some ((e.1, x, e.2.2) :: es)) (ob (mstamp n x es) fun l => some (e :: l)) = some es2 := h
      rcases bcase_some h1 with ⟨hb, h2⟩ | ⟨hb, h2⟩
      · cases h2
        have := beq_true hb
        refine ⟨0, ?_, ?_⟩
        · rw [List.findIdx?_cons]; simp [← he.2.2, this]
        · exact RelEs.cons (e.1, x, e.2.2) { e' with val := x' } _ _ ⟨he.1, hx, he.2.2⟩ hl
      · obtain ⟨es3, h3, h4⟩ := ob_eq h2
        cases h4
        obtain ⟨i, g1, g2⟩ := ih h3 hl
        refine ⟨i + 1, ?_, by simpa using RelEs.cons _ _ _ _ he g2⟩
        rw [List.findIdx?_cons]
        have : ((e'.born : Int) == (n : Int)) = false := by
          rw [← he.2.2, beq_eq_false_iff_ne]
          intro hh
          have : n = e.2.2 := by omega
          rw [this, Nat.beq_refl] at hb; cases hb
        rw [this]
        simp [g1]

theorem entryStore_sound (h : Rel ρ st w) {fr : T V} {ev : Operand → Value} (hf : Fits ρ fr ev) {t : TypeId} {m s x : Operand} {v : V} (h0 : oEntryStore fr st m s x = some (v, st')) :
    v = .tuple [] ∧ ∃ w', (Instr.entryStore t (ev m) (ev s) (ev x)).run P w = .ok () w' ∧ Rel ρ st' w' ∧ Ext ρ st w ρ st' w' := by
  obtain ⟨mv, hmv, h2⟩ := ob_eq (o := opd fr m) h0
  obtain ⟨sv, hsv, h3⟩ := ob_eq (o := opd fr s) h2
  obtain ⟨xv, hxv, h4⟩ := ob_eq (o := opd fr x) h3
  obtain ⟨n, hn, h5⟩ := ob_eq h4
  obtain ⟨b, rfl, h6⟩ := mapK_eq h5
  obtain ⟨c, es, hb, h7⟩ := atMap_eq h6
  obtain ⟨es2, h8, h9⟩ := ob_eq h7
  obtain ⟨st1, h10, h11⟩ := ob_eq h9
  cases h11
  have rm := hf.opd m _ hmv
  obtain ⟨k, hk⟩ := natOf_sound hn (hf.opd s _ hsv)
  have rx := hf.opd x _ hxv
  rw [hk]
  generalize ev m = m' at rm
  generalize ev x = x' at rx
  refine ⟨rfl, ?_⟩
  cases rm with
  | map _ p hp =>
    obtain ⟨arr, ho, hes⟩ := h.map hb hp
    obtain ⟨i, g1, g2⟩ := mstamp_sound rx h8 hes
    rw [← modify_toList] at g2
    obtain ⟨r1, r2, r3⟩ := putMap_sound (P := P) h hb hp g2 h10 arr ho
    refine ⟨_, ?_, r2, r3⟩
    have : arr.findIdx? (fun e => (e.born : Int) == (n : Int)) = some i := by rw [← g1, ← List.findIdx?_toArray]
    simp only [Instr.entryStore, asInt, asIntOf, Sem.run_bind, Result.andThen_ok, run_getObj ho (fun _ _ _ e => by cases e), Sem.run_pure, this]
    exact r1

theorem delete_sound (ht : TabOK P tb) (h : Rel ρ st w) {ts : Array TypeId} {ty : TypeId} {m k v : V} {m' k' : Value} {t : TypeId} {d : TypeDesc} {re : Row} (h1 : ts[0]? = some t) (hm : mapElem tb t = some (d, re))
    (hkd : keyOK d k = true) (h0 : deleteA st m k = some (v, st')) (rm : RelV ρ m m') (rk : RelV ρ k k') : Comes1 P ρ st w (Builtin.delete_ ts ty #[m', k']) v st' := by
  obtain ⟨kt, e, hu, huk, hre⟩ := mapElem_eq ht hm
  have hck := fun b => checkKey_run (P := P) (w := w) huk hkd rk b
  cases rm <;> first | (cases h0; done) | skip
  · rename_i b p hp
    obtain ⟨bk, hb, h2⟩ := ob_eq h0
    obtain ⟨bk2, h3, h4⟩ := ob_eq h2
    obtain ⟨st1, h5, h6⟩ := ob_eq h4
    cases h6
    obtain ⟨p1, o, hp1, ho, hr⟩ := h.blk b bk hb
    rw [hp] at hp1; cases hp1
    obtain ⟨arr, c, es2, a2, rfl, hes, h12, hrel, hrw⟩ : ∃ (arr : Array MapEntry) (c : Nat) (es2 : List Ent) (a2 : List Ent), o = .map arr c ∧ RelEs ρ es2 arr.toList ∧ mdel k es2 = some a2 ∧
        (∀ arr2 : Array MapEntry, RelEs ρ a2 arr2.toList → RelBlk ρ bk2 p (.map arr2 c)) ∧ (bk.rw ∧ bk2.rw) := by
      unfold delBlk at h3
      cases bk <;> first | (cases h3; done) | skip
      case map c es =>
        obtain ⟨es2, g1, g2⟩ := ob_eq h3
        cases g2
        cases hr with | map _ _ _ arr hr => exact ⟨arr, c, es, es2, rfl, hr, g1, fun arr2 h => .map _ _ _ _ h, trivial, trivial⟩
      case umap es =>
        obtain ⟨g0, g1⟩ := gd_eq h3
        obtain ⟨a, g2, g3⟩ := ob_eq g1
        cases g3
        cases hr with
        | umap _ _ arr clock es2 hpm hr =>
          obtain ⟨b3, k1, k2⟩ := mdel_perm hpm g0 g2
          exact ⟨arr, clock, es2, b3, rfl, hr, k1, fun arr2 h => .umap _ _ _ _ b3 k2 h, trivial, trivial⟩
    have hgo := run_getObj (P := P) ho (fun _ _ _ e => by cases e)
    rcases mdel_sound rk hkd 0 h12 hes with ⟨j, v', g1, g2, g3⟩ | ⟨g1, g3⟩
    · have hlt : j < arr.size := by simpa using g2
      obtain ⟨r1, r2, r3⟩ := putMapB_sound (P := P) h hb hp (hrel (arr.eraseIdxIfInBounds j) (by rw [Array.eraseIdxIfInBounds_eq, dif_pos hlt]; simpa using g3)) hrw h5 ho
      rw [Nat.zero_add] at g1
      refine ⟨ρ, _, .tuple #[], ?_, r2, r3, .tuple _ _ .nil⟩
      simp [Builtin.delete_, h1, run_underlying hu, hgo, hck, findKey_run huk g1, r1]
    · obtain ⟨r1, r2, r3⟩ := putMapB_sound (P := P) h hb hp (hrel arr g3) hrw h5 ho
      refine ⟨ρ, _, .tuple #[], ?_, r2, r3, .tuple _ _ .nil⟩
      simp [Builtin.delete_, h1, run_underlying hu, hgo, hck, findKey_run huk g1, r1]
  · cases h0
    refine ⟨ρ, w, .tuple #[], ?_, h, Ext.refl _ _ _, .tuple _ _ .nil⟩
    simp [Builtin.delete_, h1, run_underlying hu, hck]

end Go.Ab
