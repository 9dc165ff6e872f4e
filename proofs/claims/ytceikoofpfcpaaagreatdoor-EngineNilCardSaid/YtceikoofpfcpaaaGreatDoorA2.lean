/-
  A PART OF THE PROOF OF EngineNil's TIED CARD: when an abstract state describes a world, and that reads and writes of memory keep it so. No condition beyond those that the theorems below bear.
-/
import Derived.Test.YtceikoofpfcpaaaGreatDoorA1
import Derived.Calls
import Derived.Below
import Derived.Laws.Sem
import Derived.Laws.Cells
namespace Go.Ab
open Go

/-! Tries. -/
section
variable {α : Type}
theorem T.get_nil (n : Nat) : (T.nil : T α).get n = none := rfl
theorem T.get_node_zero (l : T α) (x : Option α) (r : T α) : (T.node l x r).get 0 = x := rfl
theorem T.get_node_succ (l : T α) (x : Option α) (r : T α) (k : Nat) : (T.node l x r).get (k + 1) = if k % 2 = 0 then l.get (k / 2) else r.get (k / 2) := by
  show (Nat.rec (motive := fun _ => Nat → Option α) l.get (fun _ _ => r.get) (Nat.mod k 2)) (Nat.div k 2) = _
  show (Nat.rec (motive := fun _ => Nat → Option α) l.get (fun _ _ => r.get) (k % 2)) (k / 2) = _
  cases k % 2 with
  | zero => rw [if_pos rfl]; rfl
  | succ n => rw [if_neg (by omega)]

theorem T.sing_zero (x : Option α) (f : Nat) : T.sing x (f + 1) 0 = .node .nil x .nil := rfl
theorem T.sing_succ (x : Option α) (f k : Nat) : T.sing x (f + 1) (k + 1) = if k % 2 = 0 then .node (T.sing x f (k / 2)) none .nil else .node .nil none (T.sing x f (k / 2)) := by
  show (Nat.rec (motive := fun _ => T α) (.node (T.sing x f (k / 2)) none .nil) (fun _ _ => .node .nil none (T.sing x f (k / 2))) (k % 2)) = _
  cases k % 2 with
  | zero => rw [if_pos rfl]; rfl
  | succ n => rw [if_neg (by omega)]
theorem T.put_nil (x : Option α) (n : Nat) : T.putO x .nil n = T.sing x (n + 1) n := rfl
theorem T.put_zero (x : Option α) (l : T α) (y : Option α) (r : T α) : T.putO x (.node l y r) 0 = .node l x r := rfl
theorem T.put_succ (x : Option α) (l : T α) (y : Option α) (r : T α) (k : Nat) :
    T.putO x (.node l y r) (k + 1) = if k % 2 = 0 then .node (T.putO x l (k / 2)) y r else .node l y (T.putO x r (k / 2)) := by
  show (Nat.rec (motive := fun _ => T α) (.node (T.putO x l (k / 2)) y r) (fun _ _ => .node l y (T.putO x r (k / 2))) (k % 2)) = _
  cases k % 2 with
  | zero => rw [if_pos rfl]; rfl
  | succ n => rw [if_neg (by omega)]

theorem half_inj {k j : Nat} (h : k % 2 = j % 2) (h2 : k / 2 = j / 2) : k = j := by omega

theorem T.get_sing (x : Option α) : ∀ (f n m : Nat), n < f → (T.sing x f n).get m = if m = n then x else none := by
  intro f
  induction f with
  | zero => intro n m h; omega
  | succ f ih =>
    intro n m h
    cases n with
    | zero =>
      rw [T.sing_zero]
      cases m with
      | zero => simp [T.get_node_zero]
      | succ m => rw [T.get_node_succ]; simp [T.get_nil]
    | succ k =>
      rw [T.sing_succ]
      by_cases hk : k % 2 = 0
      · rw [if_pos hk]
        cases m with
        | zero => simp [T.get_node_zero]
        | succ j =>
          rw [T.get_node_succ]
          by_cases hj : j % 2 = 0
          · rw [if_pos hj, ih _ _ (by omega)]
            by_cases e : j = k
            · subst e; simp
            · rw [if_neg (fun h => e (half_inj (by omega) h)), if_neg (by omega)]
          · rw [if_neg hj, T.get_nil, if_neg (by omega)]
      · rw [if_neg hk]
        cases m with
        | zero => simp [T.get_node_zero]
        | succ j =>
          rw [T.get_node_succ]
          by_cases hj : j % 2 = 0
          · rw [if_pos hj, T.get_nil, if_neg (by omega)]
          · rw [if_neg hj, ih _ _ (by omega)]
            by_cases e : j = k
            · subst e; simp
            · rw [if_neg (fun h => e (half_inj (by omega) h)), if_neg (by omega)]

theorem T.get_putO (x : Option α) : ∀ (t : T α) (n m : Nat), (T.putO x t n).get m = if m = n then x else t.get m := by
  intro t
  induction t with
  | nil => intro n m; rw [T.put_nil, T.get_sing x _ _ _ (by omega)]; rfl
  | node l y r ihl ihr =>
    intro n m
    cases n with
    | zero =>
      rw [T.put_zero]
      cases m with
      | zero => simp [T.get_node_zero]
      | succ j => rw [T.get_node_succ, T.get_node_succ]; simp
    | succ k =>
      rw [T.put_succ]
      by_cases hk : k % 2 = 0
      · rw [if_pos hk]
        cases m with
        | zero => simp [T.get_node_zero]
        | succ j =>
          rw [T.get_node_succ, T.get_node_succ]
          by_cases hj : j % 2 = 0
          · rw [if_pos hj, if_pos hj, ihl]
            by_cases e : j = k
            · subst e; simp
            · rw [if_neg (fun h => e (half_inj (by omega) h)), if_neg (by omega)]
          · rw [if_neg hj, if_neg hj, if_neg (by omega)]
      · rw [if_neg hk]
        cases m with
        | zero => simp [T.get_node_zero]
        | succ j =>
          rw [T.get_node_succ, T.get_node_succ]
          by_cases hj : j % 2 = 0
          · rw [if_pos hj, if_pos hj, if_neg (by omega)]
          · rw [if_neg hj, if_neg hj, ihr]
            by_cases e : j = k
            · subst e; simp
            · rw [if_neg (fun h => e (half_inj (by omega) h)), if_neg (by omega)]

theorem T.get_put (t : T α) (n m : Nat) (x : α) : (t.put n x).get m = if m = n then some x else t.get m := T.get_putO (some x) t n m
theorem T.get_del (t : T α) (n m : Nat) : (t.del n).get m = if m = n then none else t.get m := T.get_putO none t n m
theorem T.get_put_self (t : T α) (n : Nat) (x : α) : (t.put n x).get n = some x := by rw [T.get_put]; simp
theorem T.force_eq {β : Type} (t : T α) (f : T α → β) : t.force f = f t := by cases t <;> rfl
end

/-! The combinators. -/
section
variable {α β γ : Type}
@[simp] theorem ob_none (f : α → Option β) : ob none f = none := rfl
@[simp] theorem ob_some (a : α) (f : α → Option β) : ob (some a) f = f a := rfl
theorem ob_eq {o : Option α} {f : α → Option β} {y : β} (h : ob o f = some y) : ∃ a, o = some a ∧ f a = some y := by
  cases o with
  | none => cases h
  | some a => exact ⟨a, rfl, h⟩
@[simp] theorem pcase_mk (a : α) (b : β) (f : α → β → γ) : pcase (a, b) f = f a b := rfl
theorem ob2_eq {o : Option (α × β)} {f : α → β → Option γ} {y : γ} (h : ob2 o f = some y) : ∃ a b, o = some (a, b) ∧ f a b = some y := by
  obtain ⟨⟨a, b⟩, h1, h2⟩ := ob_eq h
  exact ⟨a, b, h1, h2⟩
@[simp] theorem bcase_true (x y : β) : bcase true x y = x := rfl
@[simp] theorem bcase_false (x y : β) : bcase false x y = y := rfl
theorem bcase_eq (b : Bool) (x y : β) : bcase b x y = if b = true then x else y := by cases b <;> rfl
theorem gd_eq {b : Bool} {x : Option α} {y : α} (h : gd b x = some y) : b = true ∧ x = some y := by
  cases b with
  | true => exact ⟨rfl, h⟩
  | false => cases h
@[simp] theorem gd_true (x : Option α) : gd true x = x := rfl
@[simp] theorem gd_false (x : Option α) : gd false x = none := rfl
@[simp] theorem ocase_none (z : β) (f : α → β) : ocase none z f = z := rfl
@[simp] theorem ocase_some (z : β) (f : α → β) (a : α) : ocase (some a) z f = f a := rfl
@[simp] theorem lcase_nil (z : β) (f : α → List α → β) : lcase [] z f = z := rfl
@[simp] theorem lcase_cons (z : β) (f : α → List α → β) (a : α) (l : List α) : lcase (a :: l) z f = f a l := rfl
@[simp] theorem ncase_zero (z : β) (f : Nat → β) : ncase 0 z f = z := rfl
@[simp] theorem ncase_succ (z : β) (f : Nat → β) (n : Nat) : ncase (n + 1) z f = f n := rfl
@[simp] theorem icase_ofNat (f g : Nat → β) (n : Nat) : icase (Int.ofNat n) f g = f n := rfl
@[simp] theorem icase_negSucc (f g : Nat → β) (n : Nat) : icase (Int.negSucc n) f g = g n := rfl
@[simp] theorem lrec_nil (z : β) (c : α → List α → β → β) : lrec z c [] = z := rfl
@[simp] theorem lrec_cons (z : β) (c : α → List α → β → β) (x : α) (l : List α) : lrec z c (x :: l) = c x l (lrec z c l) := rfl
@[simp] theorem nrec_zero (z : β) (c : Nat → β → β) : nrec z c 0 = z := rfl
@[simp] theorem nrec_succ (z : β) (c : Nat → β → β) (n : Nat) : nrec z c (n + 1) = c n (nrec z c n) := rfl

theorem llen_eq (l : List α) : ∀ n, llen l n = n + l.length := by
  induction l with
  | nil => intro n; rfl
  | cons x l ih => intro n; show llen l (n + 1) = _; rw [ih]; simp; omega
theorem app_eq (a b : List α) : app a b = a ++ b := by
  induction a with
  | nil => rfl
  | cons x l ih => show x :: app l b = _; rw [ih]; rfl
theorem lget_eq (l : List α) : ∀ n, lget l n = l[n]? := by
  induction l with
  | nil => intro n; simp [lget]
  | cons x l ih => intro n; cases n with
    | zero => rfl
    | succ k => show lget l k = _; rw [ih]; simp
theorem mapO_nil (f : α → Option β) : mapO f [] = some [] := rfl
theorem mapO_cons (f : α → Option β) (x : α) (l : List α) : mapO f (x :: l) = ob (f x) fun y => ob (mapO f l) fun ys => some (y :: ys) := rfl
theorem ltake_eq : ∀ (k : Nat) (l r : List α), ltake k l = some r → k ≤ l.length ∧ r = l.take k := by
  intro k
  induction k with
  | zero => intro l r h; cases h; exact ⟨Nat.zero_le _, by simp⟩
  | succ k ih =>
    intro l r h
    cases l with
    | nil => cases h
    | cons x l =>
      obtain ⟨q, hq, h⟩ := ob_eq (o := ltake k l) h
      cases h
      obtain ⟨h1, h2⟩ := ih l q hq
      exact ⟨by simp; omega, by simp [h2]⟩
theorem ldrop_eq : ∀ (k : Nat) (l : List α), ldrop k l = l.drop k := by
  intro k
  induction k with
  | zero => intro l; rfl
  | succ k ih => intro l; cases l with
    | nil => rfl
    | cons x l => show ldrop k l = _; rw [ih]; simp
end


/-! The relation. -/
/-- where a block lies: a block of the world, from a cell on, so many cells. -/
structure Pl where
  blk : Nat
  base : Nat
  lim : Nat

abbrev Ren := Nat → Option Pl
def Ren.le (ρ ρ' : Ren) : Prop := ∀ b p, ρ b = some p → ρ' b = some p
theorem Ren.le_refl (ρ : Ren) : ρ.le ρ := fun _ _ h => h
theorem Ren.le_trans {ρ ρ' ρ'' : Ren} (h : ρ.le ρ') (h' : ρ'.le ρ'') : ρ.le ρ'' := fun b p x => h' b p (h b p x)

def V.scalar (v : V) : Bool :=
  match v with
  | .agg _ => false
  | .tuple _ => false
  | _ => true

inductive RelFn (ρ : Ren) : Fn → Fn → Prop where
  | func (f : FuncId) : RelFn ρ (.func f) (.func f)
  | method (n : String) : RelFn ρ (.method n) (.method n)
  | methodOf (t : TypeId) (n : String) : RelFn ρ (.methodOf t n) (.methodOf t n)
  | via (t : TypeId) (p : Array FieldStep) (f : FuncId) (b : Bool) : RelFn ρ (.via t p f b) (.via t p f b)
  | yield (l : Nat) (p : Pl) (h : ρ l = some p) : RelFn ρ (.yield l) (.yield p.blk)

mutual
inductive RelV (ρ : Ren) : V → Value → Prop where
  | bool (b : Bool) : RelV ρ (.bool b) (.bool b)
  | int (k : IntKind) (n : Int) : RelV ρ (.int k n) (.int k n)
  | str (s : List UInt8) : RelV ρ (.str s) (.string ⟨s.toArray⟩)
  | ptr (b off : Nat) (p : Pl) (h : ρ b = some p) : RelV ρ (.ptr b off) (.pointer (some ⟨p.blk, p.base + off, none⟩))
  | nilptr : RelV ρ .nilptr (.pointer none)
  | sl (b off len cap : Nat) (exact : Bool) (sz : Nat) (p : Pl) (c : Nat) (h : ρ b = some p) (hcap : cap ≤ c) (hex : exact = true → c = cap) (hlen : len ≤ cap)
      (hlim : off + c * sz ≤ p.lim) : RelV ρ (.sl b off len cap exact sz) (.slice (some ⟨p.blk, p.base + off, none⟩) len c)
  | slE (a : Addr) (c : Nat) : RelV ρ .slE (.slice (some a) 0 c)
  | nilsl : RelV ρ .nilsl (.slice none 0 0)
  | map (b : Nat) (p : Pl) (h : ρ b = some p) : RelV ρ (.map b) (.map (some p.blk))
  | nilmap : RelV ρ .nilmap (.map none)
  | func (fn fn' : Fn) (a c : List V) (a' c' : Array Value) (hf : RelFn ρ fn fn') (ha : RelL ρ a a'.toList) (hc : RelL ρ c c'.toList) : RelV ρ (.func fn a c) (.func fn' a' c')
  | nilFunc : RelV ρ .nilFunc .nilFunc
  | iface (t : TypeId) (v : V) (v' : Value) (h : RelV ρ v v') : RelV ρ (.iface t v) (.iface t v')
  | nilIface : RelV ρ .nilIface .nilIface
  | agg (c : List V) (c' : Array Value) (h : RelL ρ c c'.toList) (hs : ∀ v ∈ c, v.scalar = true) : RelV ρ (.agg c) (.agg c')
  | tuple (c : List V) (c' : Array Value) (h : RelL ρ c c'.toList) : RelV ρ (.tuple c) (.tuple c')
inductive RelL (ρ : Ren) : List V → List Value → Prop where
  | nil : RelL ρ [] []
  | cons (v : V) (v' : Value) (l : List V) (l' : List Value) (h : RelV ρ v v') (hl : RelL ρ l l') : RelL ρ (v :: l) (v' :: l')
end

theorem RelFn.mono {ρ ρ' : Ren} (hr : ρ.le ρ') {f f' : Fn} (h : RelFn ρ f f') : RelFn ρ' f f' := by
  cases h with
  | func f => exact .func f
  | method n => exact .method n
  | methodOf t n => exact .methodOf t n
  | via t p f b => exact .via t p f b
  | yield l p h => exact .yield l p (hr _ _ h)

mutual
theorem RelV.mono {ρ ρ' : Ren} (hr : ρ.le ρ') : ∀ {v : V} {v' : Value}, RelV ρ v v' → RelV ρ' v v'
  | _, _, .bool b => .bool b
  | _, _, .int k n => .int k n
  | _, _, .str s => .str s
  | _, _, .ptr b off p h => .ptr b off p (hr _ _ h)
  | _, _, .nilptr => .nilptr
  | _, _, .sl b off len cap exact sz p c h hcap hex hlen hlim => .sl b off len cap exact sz p c (hr _ _ h) hcap hex hlen hlim
  | _, _, .slE a c => .slE a c
  | _, _, .nilsl => .nilsl
  | _, _, .map b p h => .map b p (hr _ _ h)
  | _, _, .nilmap => .nilmap
  | _, _, .func fn fn' a c a' c' hf ha hc => .func fn fn' a c a' c' (hf.mono hr) (RelL.mono hr ha) (RelL.mono hr hc)
  | _, _, .nilFunc => .nilFunc
  | _, _, .iface t v v' h => .iface t v v' (RelV.mono hr h)
  | _, _, .nilIface => .nilIface
  | _, _, .agg c c' h hs => .agg c c' (RelL.mono hr h) hs
  | _, _, .tuple c c' h => .tuple c c' (RelL.mono hr h)
theorem RelL.mono {ρ ρ' : Ren} (hr : ρ.le ρ') : ∀ {l : List V} {l' : List Value}, RelL ρ l l' → RelL ρ' l l'
  | _, _, .nil => .nil
  | _, _, .cons v v' l l' h hl => .cons v v' l l' (RelV.mono hr h) (RelL.mono hr hl)
end

theorem RelL.length {ρ : Ren} {l : List V} {l' : List Value} (h : RelL ρ l l') : l.length = l'.length := by
  induction l generalizing l' with
  | nil => cases h; rfl
  | cons v l ih => cases h with | cons _ v' _ l' h hl => simp [ih hl]
theorem RelL.get {ρ : Ren} {l : List V} {l' : List Value} (h : RelL ρ l l') {i : Nat} {v : V} (hi : l[i]? = some v) : ∃ v', l'[i]? = some v' ∧ RelV ρ v v' := by
  induction l generalizing l' i with
  | nil => simp at hi
  | cons x l ih =>
    cases h with
    | cons _ x' _ l' h hl =>
      cases i with
      | zero => simp at hi; subst hi; exact ⟨x', by simp, h⟩
      | succ i => simp at hi; obtain ⟨v', h1, h2⟩ := ih hl hi; exact ⟨v', by simpa using h1, h2⟩
theorem RelL.append {ρ : Ren} {a b : List V} {a' b' : List Value} (h : RelL ρ a a') (k : RelL ρ b b') : RelL ρ (a ++ b) (a' ++ b') := by
  induction a generalizing a' with
  | nil => cases h; exact k
  | cons v l ih => cases h with | cons _ v' _ l' h hl => exact .cons _ _ _ _ h (ih hl)
theorem RelL.take {ρ : Ren} {a : List V} {a' : List Value} (h : RelL ρ a a') (n : Nat) : RelL ρ (a.take n) (a'.take n) := by
  induction n generalizing a a' with
  | zero => simp; exact .nil
  | succ n ih => cases h with
    | nil => simp; exact .nil
    | cons _ _ _ _ h hl => simp; exact .cons _ _ _ _ h (ih hl)
theorem RelL.drop {ρ : Ren} {a : List V} {a' : List Value} (h : RelL ρ a a') (n : Nat) : RelL ρ (a.drop n) (a'.drop n) := by
  induction n generalizing a a' with
  | zero => simpa using h
  | succ n ih => cases h with
    | nil => simp; exact .nil
    | cons _ _ _ _ h hl => simp; exact ih hl
theorem RelL.mk {ρ : Ren} {l : List V} {l' : List Value} (hl : l.length = l'.length) (h : ∀ (i : Nat) (v : V) (v' : Value), l[i]? = some v → l'[i]? = some v' → RelV ρ v v') : RelL ρ l l' := by
  induction l generalizing l' with
  | nil => cases l' with
    | nil => exact .nil
    | cons => simp at hl
  | cons v l ih => cases l' with
    | nil => simp at hl
    | cons v' l' => exact .cons _ _ _ _ (h 0 v v' (by simp) (by simp)) (ih (by simpa using hl) fun i a b ha hb => h (i + 1) a b (by simpa using ha) (by simpa using hb))

/-- frames. -/
def RelT (ρ : Ren) (fr : T V) (tmps : Array Value) : Prop := ∀ t v, fr.get t = some v → ∃ v', tmps[t]? = some v' ∧ RelV ρ v v'
theorem RelT.mono {ρ ρ' : Ren} (hr : ρ.le ρ') {fr : T V} {tmps : Array Value} (h : RelT ρ fr tmps) : RelT ρ' fr tmps :=
  fun t v ht => let ⟨v', a, b⟩ := h t v ht; ⟨v', a, b.mono hr⟩

def RelEnt (ρ : Ren) (e : Ent) (e' : MapEntry) : Prop := RelV ρ e.1 e'.key ∧ RelV ρ e.2.1 e'.val ∧ e.2.2 = e'.born
inductive RelEs (ρ : Ren) : List Ent → List MapEntry → Prop where
  | nil : RelEs ρ [] []
  | cons (e : Ent) (e' : MapEntry) (l : List Ent) (l' : List MapEntry) (h : RelEnt ρ e e') (hl : RelEs ρ l l') : RelEs ρ (e :: l) (e' :: l')
theorem RelEs.mono {ρ ρ' : Ren} (hr : ρ.le ρ') {l : List Ent} {l' : List MapEntry} (h : RelEs ρ l l') : RelEs ρ' l l' := by
  induction h with
  | nil => exact .nil
  | cons e e' l l' h _ ih => exact .cons _ _ _ _ ⟨h.1.mono hr, h.2.1.mono hr, h.2.2⟩ ih

/-- are all these temporaries below a number? -/
noncomputable def allLt (n : Nat) (l : List Nat) : Bool := lrec true (fun t _ ih => bcase (Nat.blt t n) ih false) l
noncomputable def dstLt (n : Nat) (d : Option Tmp) : Bool := ocase d true fun t => Nat.blt t n
noncomputable def opsLt (n : Nat) (l : List Oper) : Bool := lrec true (fun o _ ih => bcase (dstLt n o.dst) ih false) l
/-- do all temporaries that a code writes lie below a number? -/
noncomputable def fitsC (n : Nat) (c : Code) : Bool := Code.rec (motive := fun _ => Bool) true (fun _ ops _ => opsLt n ops.toList) (fun _ _ a b => bcase a b false) (fun _ _ _ a b => bcase a b false)
  (fun _ _ a => a) (fun _ a => a) (fun _ ps _ _ a b => bcase (allLt n ps.toList) (bcase a b false) false) (fun _ => true) (fun _ a => a) (fun _ => true) (fun _ => true) true (fun _ => true) c
/-- how far a loop over a function has come. -/
def pendState (pend : Option Code) (l : Loop) : Prop := l.pending = pend ∧ l.state = (match pend with | none => LoopState.ready | some _ => LoopState.done) ∧ ∀ c, pend = some c → ∀ n, fitsC n c = true

/-- an entry's key and value. -/
def strip (e : Ent) : V × V := (e.1, e.2.1)

inductive RelBlk (ρ : Ren) : Blk → Pl → Obj → Prop where
  | cells (n : Nat) (c : T V) (ro : Bool) (p : Pl) (arr : Array Value) (e : TypeId) (lo hi : Nat) (hn : n ≤ p.lim) (hl : p.base + p.lim ≤ arr.size)
      (hf : ro = false → lo = hi ∨ arr.size ≤ lo)
      (hc : ∀ i v, i < n → c.get i = some v → v.scalar = true ∧ ∃ v', arr[p.base + i]? = some v' ∧ RelV ρ v v') (hro : ro = true → p.blk < 256 := by (intro e; cases e)) : RelBlk ρ (.cells n c ro) p (.cells arr e (lo, hi))
  | map (clock : Nat) (es : List Ent) (p : Pl) (arr : Array MapEntry) (h : RelEs ρ es arr.toList) : RelBlk ρ (.map clock es) p (.map arr clock)
  | umap (es : List Ent) (p : Pl) (arr : Array MapEntry) (clock : Nat) (es2 : List Ent) (hp : (es2.map strip).Perm (es.map strip)) (h : RelEs ρ es2 arr.toList) : RelBlk ρ (.umap es) p (.map arr clock)
  | iterN (since : Nat) (seen : List Nat) (last : Nat) (p : Pl) (hb : p.base = 0) : RelBlk ρ (.iter none since seen last) p (.mapIter none since seen.toArray last)
  | iterS (m since : Nat) (seen : List Nat) (last : Nat) (p q : Pl) (hb : p.base = 0) (h : ρ m = some q) : RelBlk ρ (.iter (some m) since seen last) p (.mapIter (some q.blk) since seen.toArray last)
  | striter (s : List UInt8) (pos : Nat) (p : Pl) (bs : ByteArray) (hb : p.base = 0) (hp : pos ≤ bs.size) (h : bs.data.toList.drop pos = s) : RelBlk ρ (.striter s pos) p (.stringIter bs pos)
  | loop (fn : FuncId) (tmps : T V) (params : List Tmp) (assign body : Code) (pend : Option Code) (p : Pl) (l : Loop) (h1 : p.base = 0) (h2 : RelT ρ tmps l.tmps)
      (h3 : l.params = params.toArray) (h4 : l.assign = assign) (h5 : l.body = body) (h6 : pendState pend l) (h7 : fitsC l.tmps.size (.seq assign body) = true) (h8 : allLt l.tmps.size params = true) :
      RelBlk ρ (.loop fn tmps params assign body pend) p (.loop l)

theorem RelBlk.mono {ρ ρ' : Ren} (hr : ρ.le ρ') {k : Blk} {p : Pl} {o : Obj} (h : RelBlk ρ k p o) : RelBlk ρ' k p o := by
  cases h with
  | cells n c ro p arr e lo hi hn hl hf hc hro => exact .cells n c ro p arr e lo hi hn hl hf (fun i v a b => let ⟨s, v', x, y⟩ := hc i v a b; ⟨s, v', x, y.mono hr⟩) hro
  | map clock es p arr h => exact .map clock es p arr (h.mono hr)
  | umap es p arr clock es2 hp h => exact .umap es p arr clock es2 hp (h.mono hr)
  | iterN since seen last p hb => exact .iterN since seen last p hb
  | iterS m since seen last p q hb h => exact .iterS m since seen last p q hb (hr _ _ h)
  | striter s pos p bs hb hp h => exact .striter s pos p bs hb hp h
  | loop fn tmps params assign body pend p l h1 h2 h3 h4 h5 h6 h7 h8 => exact .loop fn tmps params assign body pend p l h1 (h2.mono hr) h3 h4 h5 h6 h7 h8

def Blk.rw (k : Blk) : Prop :=
  match k with
  | .cells _ _ ro => ro = false
  | _ => True

/-- does the abstract state describe the world? -/
structure Rel (ρ : Ren) (st : St) (w : World) : Prop where
  blk : ∀ b k, st.heap.get b = some k → ∃ p o, ρ b = some p ∧ w.heap[p.blk]? = some o ∧ RelBlk ρ k p o
  fresh : ∀ b p, ρ b = some p → b < st.next
  inj : ∀ b b' k k' p p', st.heap.get b = some k → st.heap.get b' = some k' → ρ b = some p → ρ b' = some p' → p.blk = p'.blk → b = b'

/-- the blocks of the world that may be written. -/
def Own (ρ : Ren) (st : St) (i : Nat) : Prop := ∃ b k p, st.heap.get b = some k ∧ k.rw ∧ ρ b = some p ∧ p.blk = i

structure Ext (ρ : Ren) (st : St) (w : World) (ρ' : Ren) (st' : St) (w' : World) : Prop where
  ren : ρ.le ρ'
  os : w'.os = w.os
  tape : w'.tape = w.tape
  output : w'.output = w.output
  size : w.heap.size ≤ w'.heap.size
  keep : ∀ i, i < w.heap.size → ¬ Own ρ st i → w'.heap[i]? = w.heap[i]? ∧ ¬ Own ρ' st' i
  ro : ∀ b n c, st'.heap.get b = some (.cells n c true) → st.heap.get b = some (.cells n c true)

theorem Ext.refl (ρ : Ren) (st : St) (w : World) : Ext ρ st w ρ st w := ⟨Ren.le_refl _, rfl, rfl, rfl, Nat.le_refl _, fun _ _ h => ⟨rfl, h⟩, fun _ _ _ h => h⟩
theorem Ext.trans {ρ ρ' ρ'' : Ren} {st st' st'' : St} {w w' w'' : World} (h : Ext ρ st w ρ' st' w') (k : Ext ρ' st' w' ρ'' st'' w'') : Ext ρ st w ρ'' st'' w'' :=
  ⟨Ren.le_trans h.ren k.ren, k.os.trans h.os, k.tape.trans h.tape, k.output.trans h.output, Nat.le_trans h.size k.size, (fun i hi hn =>
    let ⟨a, b⟩ := h.keep i hi hn
    let ⟨c, d⟩ := k.keep i (Nat.lt_of_lt_of_le hi h.size) b
    ⟨c.trans a, d⟩), fun b n c x => h.ro b n c (k.ro b n c x)⟩

end Go.Ab

namespace Go.Ab
open Go
variable {P : Program}

theorem addr_add (b o j : Nat) : (⟨b, o, none⟩ : Addr).add j = ⟨b, o + j, none⟩ := by
  unfold Addr.add
  by_cases h : j = 0
  · simp [h]
  · simp [h]

def World.putObj (w : World) (g : Nat) (o : Obj) : World := { w with heap := w.heap.setIfInBounds g o }

/-! Rel's basic steps. -/
theorem Own.of_put {ρ : Ren} {st : St} {b : Nat} {k : Blk} {n : Nat} {i : Nat} {k0 : Blk} (h0 : st.heap.get b = some k0) (hk : k.rw → k0.rw)
    (h : Own ρ ⟨st.heap.put b k, n⟩ i) : Own ρ st i := by
  obtain ⟨b', k', p', hb, hrw, hr, hp⟩ := h
  rw [T.get_put] at hb
  by_cases e : b' = b
  · rw [if_pos e] at hb; cases hb
    exact ⟨b, k0, p', h0, hk hrw, e ▸ hr, hp⟩
  · rw [if_neg e] at hb
    exact ⟨b', k', p', hb, hrw, hr, hp⟩

/-- a block written anew, with its object. -/
theorem Rel.put {ρ : Ren} {st : St} {w : World} (h : Rel ρ st w) {b : Nat} {k0 k : Blk} {p : Pl} {o : Obj} (h0 : st.heap.get b = some k0) (hp : ρ b = some p)
    (hk : RelBlk ρ k p o) (hrw0 : k0.rw) (hrw : k.rw := by first | exact trivial | exact rfl) :
    Rel ρ ⟨st.heap.put b k, st.next⟩ (World.putObj w p.blk o) ∧ Ext ρ st w ρ ⟨st.heap.put b k, st.next⟩ (World.putObj w p.blk o) := by
  obtain ⟨p1, o1, hp1, ho1, _⟩ := h.blk b k0 h0
  rw [hp] at hp1; cases hp1
  have hlt : p.blk < w.heap.size := by
    rcases Nat.lt_or_ge p.blk w.heap.size with h | h
    · exact h
    · simp [Array.getElem?_eq_none h] at ho1
  refine ⟨⟨?_, h.fresh, ?_⟩, ⟨Ren.le_refl _, rfl, rfl, rfl, by simp [World.putObj], ?_, ?_⟩⟩
  · intro b' k' hb'
    rw [T.get_put] at hb'
    by_cases e : b' = b
    · rw [if_pos e] at hb'; cases hb'
      exact ⟨p, o, e ▸ hp, by simp [World.putObj, hlt], hk⟩
    · rw [if_neg e] at hb'
      obtain ⟨p', o', hp', ho', hr'⟩ := h.blk b' k' hb'
      have hne : p.blk ≠ p'.blk := fun hh => e (h.inj b' b k' k0 p' p hb' h0 hp' hp hh.symm)
      exact ⟨p', o', hp', by simp [World.putObj, Array.getElem?_setIfInBounds_ne hne, ho'], hr'⟩
  · intro b1 b2 k1 k2 p1 p2 h1 h2 hp1 hp2 hh
    have key : ∀ b' k', (st.heap.put b k).get b' = some k' → ∃ k'', st.heap.get b' = some k'' := by
      intro b' k' hb'
      rw [T.get_put] at hb'
      by_cases e : b' = b
      · exact ⟨k0, e ▸ h0⟩
      · rw [if_neg e] at hb'; exact ⟨k', hb'⟩
    obtain ⟨k1', h1'⟩ := key _ _ h1
    obtain ⟨k2', h2'⟩ := key _ _ h2
    exact h.inj _ _ _ _ _ _ h1' h2' hp1 hp2 hh
  · intro i hi hn
    refine ⟨?_, fun ho => hn (Own.of_put h0 (fun _ => hrw0) ho)⟩
    have hne : p.blk ≠ i := fun hh => hn ⟨b, k0, p, h0, hrw0, hp, hh⟩
    simp [World.putObj, Array.getElem?_setIfInBounds_ne hne]
  · intro b' n c hb'
    rw [T.get_put] at hb'
    by_cases e : b' = b
    · rw [if_pos e] at hb'; cases hb'; exact absurd hrw (by simp [Blk.rw])
    · rw [if_neg e] at hb'; exact hb'

/-- a block that is known no more. -/
theorem Rel.del {ρ : Ren} {st : St} {w : World} (h : Rel ρ st w) (b : Nat) : Rel ρ ⟨st.heap.del b, st.next⟩ w ∧ Ext ρ st w ρ ⟨st.heap.del b, st.next⟩ w := by
  have key : ∀ b' k', (st.heap.del b).get b' = some k' → st.heap.get b' = some k' := by
    intro b' k' hb'
    rw [T.get_del] at hb'
    by_cases e : b' = b
    · rw [if_pos e] at hb'; cases hb'
    · rw [if_neg e] at hb'; exact hb'
  refine ⟨⟨fun b' k' hb' => h.blk b' k' (key _ _ hb'), h.fresh, fun b1 b2 k1 k2 p1 p2 h1 h2 => h.inj b1 b2 k1 k2 p1 p2 (key _ _ h1) (key _ _ h2)⟩,
    Ren.le_refl _, rfl, rfl, rfl, Nat.le_refl _, (fun i _ hn => ⟨rfl, fun ⟨b', k', p', hb, hrw, hr, hp⟩ => hn ⟨b', k', p', key _ _ hb, hrw, hr, hp⟩⟩), fun b' n c x => key _ _ x⟩

def Ren.set (ρ : Ren) (b : Nat) (p : Pl) : Ren := fun x => if x = b then some p else ρ x
theorem Ren.set_self (ρ : Ren) (b : Nat) (p : Pl) : ρ.set b p b = some p := by simp [Ren.set]
theorem Rel.le_set {ρ : Ren} {st : St} {w : World} (h : Rel ρ st w) (p : Pl) : ρ.le (ρ.set st.next p) := by
  intro b q hb
  have := h.fresh b q hb
  simp only [Ren.set]
  rw [if_neg (by omega)]
  exact hb
theorem Rel.next_none {ρ : Ren} {st : St} {w : World} (h : Rel ρ st w) : st.heap.get st.next = none := by
  cases hk : st.heap.get st.next with
  | none => rfl
  | some k =>
    obtain ⟨p, _, hp, _⟩ := h.blk _ k hk
    have := h.fresh _ _ hp
    omega

/-- a new block for an object that lies in the world and that no other block has: either it is new there, or it could be written. -/
theorem Rel.add {ρ : Ren} {st : St} {w : World} (h : Rel ρ st w) {k : Blk} {p : Pl} {o : Obj} (ho : w.heap[p.blk]? = some o)
    (hk : RelBlk (ρ.set st.next p) k p o) (hfree : ∀ b k' p', st.heap.get b = some k' → ρ b = some p' → p'.blk ≠ p.blk) :
    Rel (ρ.set st.next p) ⟨st.heap.put st.next k, st.next + 1⟩ w := by
  have hle := h.le_set p
  have hnone := h.next_none
  refine ⟨?_, ?_, ?_⟩
  · intro b k' hb
    rw [T.get_put] at hb
    by_cases e : b = st.next
    · rw [if_pos e] at hb; cases hb
      exact ⟨p, o, e ▸ Ren.set_self _ _ _, ho, hk⟩
    · rw [if_neg e] at hb
      obtain ⟨p', o', hp', ho', hr'⟩ := h.blk b k' hb
      exact ⟨p', o', hle _ _ hp', ho', hr'.mono hle⟩
  · intro b q hb
    simp only [Ren.set] at hb
    show b < st.next + 1
    by_cases e : b = st.next
    · omega
    · rw [if_neg e] at hb
      have := h.fresh b q hb
      omega
  · intro b1 b2 k1 k2 p1 p2 h1 h2 hp1 hp2 hh
    rw [T.get_put] at h1 h2
    simp only [Ren.set] at hp1 hp2
    by_cases e1 : b1 = st.next <;> by_cases e2 : b2 = st.next
    · rw [e1, e2]
    · rw [if_pos e1] at hp1; rw [if_neg e2] at hp2 h2; cases hp1
      exact absurd hh.symm (hfree b2 k2 p2 h2 hp2)
    · rw [if_pos e2] at hp2; rw [if_neg e1] at hp1 h1; cases hp2
      exact absurd hh (hfree b1 k1 p1 h1 hp1)
    · rw [if_neg e1] at hp1 h1; rw [if_neg e2] at hp2 h2
      exact h.inj _ _ _ _ _ _ h1 h2 hp1 hp2 hh

theorem Own.of_add {ρ : Ren} {st : St} {k : Blk} {p : Pl} {i : Nat} (ho : Own (ρ.set st.next p) ⟨st.heap.put st.next k, st.next + 1⟩ i) :
    Own ρ st i ∨ i = p.blk := by
  obtain ⟨b', k', p', hb, hrw, hr, hp⟩ := ho
  simp only [Ren.set] at hr
  rw [T.get_put] at hb
  by_cases e : b' = st.next
  · rw [if_pos e] at hr; cases hr; exact .inr hp.symm
  · rw [if_neg e] at hr hb; exact .inl ⟨b', k', p', hb, hrw, hr, hp⟩

/-- a new object. -/
theorem Rel.new {ρ : Ren} {st : St} {w : World} (h : Rel ρ st w) {k : Blk} {o : Obj} (lim : Nat)
    (hk : RelBlk (ρ.set st.next ⟨w.heap.size, 0, lim⟩) k ⟨w.heap.size, 0, lim⟩ o) (hrw : k.rw := by first | exact trivial | exact rfl) :
    Rel (ρ.set st.next ⟨w.heap.size, 0, lim⟩) ⟨st.heap.put st.next k, st.next + 1⟩ { w with heap := w.heap.push o } ∧
    Ext ρ st w (ρ.set st.next ⟨w.heap.size, 0, lim⟩) ⟨st.heap.put st.next k, st.next + 1⟩ { w with heap := w.heap.push o } := by
  have lt : ∀ b k' p', st.heap.get b = some k' → ρ b = some p' → p'.blk < w.heap.size := by
    intro b k' p' hb hp
    obtain ⟨p1, o1, hp1, ho1, _⟩ := h.blk b k' hb
    rw [hp] at hp1; cases hp1
    rcases Nat.lt_or_ge p'.blk w.heap.size with h | h
    · exact h
    · simp [Array.getElem?_eq_none h] at ho1
  have h' : Rel ρ st { w with heap := w.heap.push o } := by
    refine ⟨fun b k' hb => ?_, h.fresh, h.inj⟩
    obtain ⟨p1, o1, hp1, ho1, hr⟩ := h.blk b k' hb
    have := lt b k' p1 hb hp1
    refine ⟨p1, o1, hp1, ?_, hr⟩
    rw [Array.getElem?_push]
    rw [if_neg (by omega)]
    exact ho1
  refine ⟨h'.add (p := ⟨w.heap.size, 0, lim⟩) (o := o) (by simp) hk ?_, h.le_set _, rfl, rfl, rfl, by simp, ?_, ?_⟩
  · intro b k' p' hb hp hh
    have h1 := lt b k' p' hb hp
    have h2 : p'.blk = w.heap.size := hh
    omega
  · intro i hi hn
    refine ⟨?_, fun ho => ?_⟩
    · simp only []
      rw [Array.getElem?_push, if_neg (by omega)]
    · rcases Own.of_add ho with h1 | h1
      · exact hn h1
      · simp at h1; omega
  · intro b' n c hb'
    have hb2 : (st.heap.put st.next k).get b' = some (.cells n c true) := hb'
    rw [T.get_put] at hb2
    by_cases e : b' = st.next
    · rw [if_pos e] at hb2; cases hb2; exact absurd hrw (by simp [Blk.rw])
    · rw [if_neg e] at hb2; exact hb2

/-! Worlds that differ in what the relation does not look at. -/
theorem Rel.drew {ρ : Ren} {st : St} {w : World} (h : Rel ρ st w) (n : Nat) : Rel ρ st { w with drawn := n } := ⟨h.blk, h.fresh, h.inj⟩
theorem Ext.drew (ρ : Ren) (st : St) (w : World) (n : Nat) : Ext ρ st w ρ st { w with drawn := n } := ⟨Ren.le_refl _, rfl, rfl, rfl, Nat.le_refl _, fun _ _ h => ⟨rfl, h⟩, fun _ _ _ h => h⟩

/-! Reading. -/
theorem atCells_eq {β : Type} {st : St} {b : Nat} {f : CellsK β} {y : β} (h : atCells st b f = some y) : ∃ n c ro, st.heap.get b = some (.cells n c ro) ∧ f n c ro = some y := by
  obtain ⟨k, hk, h⟩ := ob_eq h
  cases k with
  | cells n c ro => exact ⟨n, c, ro, hk, h⟩
  | _ => cases h

theorem Rel.cells {ρ : Ren} {st : St} {w : World} (h : Rel ρ st w) {b n : Nat} {c : T V} {ro : Bool} {p : Pl} (hb : st.heap.get b = some (.cells n c ro)) (hp : ρ b = some p) :
    ∃ arr e lo hi, w.heap[p.blk]? = some (.cells arr e (lo, hi)) ∧ n ≤ p.lim ∧ p.base + p.lim ≤ arr.size ∧ (ro = false → lo = hi ∨ arr.size ≤ lo) ∧
      (∀ i v, i < n → c.get i = some v → v.scalar = true ∧ ∃ v', arr[p.base + i]? = some v' ∧ RelV ρ v v') := by
  obtain ⟨p1, o1, hp1, ho1, hr⟩ := h.blk b _ hb
  rw [hp] at hp1; cases hp1
  cases hr with
  | cells _ _ _ _ arr e lo hi hn hl hf hc => exact ⟨arr, e, lo, hi, ho1, hn, hl, hf, hc⟩

theorem cell_of {w : World} {g i : Nat} {arr : Array Value} {e : TypeId} {fr : Nat × Nat} (h : w.heap[g]? = some (.cells arr e fr)) : w.cell? ⟨g, i, none⟩ = arr[i]? := by
  simp [World.cell?, h]

theorem read_sound {ρ : Ren} {st : St} {w : World} (h : Rel ρ st w) {b off : Nat} {v : V} {p : Pl} (hr : readC st b off = some v) (hp : ρ b = some p) :
    v.scalar = true ∧ ∃ v', w.cell? ⟨p.blk, p.base + off, none⟩ = some v' ∧ RelV ρ v v' := by
  obtain ⟨n, c, ro, hb, hx⟩ := atCells_eq hr
  obtain ⟨h1, h2⟩ := gd_eq hx
  obtain ⟨arr, e, lo, hi, ho, hn, hl, hf, hc⟩ := h.cells hb hp
  obtain ⟨hs, v', ha, hv⟩ := hc off v (by simpa [Nat.blt_eq] using h1) h2
  exact ⟨hs, v', by rw [cell_of ho]; exact ha, hv⟩

theorem readN_eq {c : T V} {n : Nat} : ∀ (k off : Nat) (l : List V), readN c n k off = some l → l.length = k ∧ ∀ j v, l[j]? = some v → off + j < n ∧ c.get (off + j) = some v := by
  intro k
  induction k with
  | zero => intro off l h; cases h; exact ⟨rfl, by simp⟩
  | succ k ih =>
    intro off l h
    obtain ⟨h1, h⟩ := gd_eq (b := Nat.blt off n) h
    obtain ⟨v, hv, h⟩ := ob_eq h
    obtain ⟨r, hr, h⟩ := ob_eq h
    cases h
    obtain ⟨g1, g2⟩ := ih (off + 1) r hr
    refine ⟨by simp [g1], ?_⟩
    intro j u hj
    cases j with
    | zero => simp at hj; subst hj; exact ⟨by simpa [Nat.blt_eq] using h1, hv⟩
    | succ j =>
      simp at hj
      obtain ⟨q1, q2⟩ := g2 j u hj
      exact ⟨by omega, by rw [show off + (j + 1) = off + 1 + j by omega]; exact q2⟩

/-- the values of cells that are read, and how they are read. -/
theorem cells_sound {ρ : Ren} {st : St} {w : World} (h : Rel ρ st w) {b off k : Nat} {l : List V} {p : Pl} (hr : readCs st b off k = some l) (hp : ρ b = some p) :
    l.length = k ∧ (∀ v ∈ l, v.scalar = true) ∧ ∃ l', RelL ρ l l' ∧ (loadCells ⟨p.blk, p.base + off, none⟩ k).run P w = .ok l'.toArray w := by
  obtain ⟨n, c, ro, hb, hx⟩ := atCells_eq hr
  obtain ⟨h1, h2⟩ := readN_eq k off l hx
  obtain ⟨arr, e, lo, hi, ho, hn, hl, hf, hc⟩ := h.cells hb hp
  have key : ∀ j v, l[j]? = some v → v.scalar = true ∧ ∃ v', arr[p.base + (off + j)]? = some v' ∧ RelV ρ v v' := by
    intro j v hj
    obtain ⟨q1, q2⟩ := h2 j v hj
    exact hc _ v q1 q2
  refine ⟨h1, ?_, (List.range k).map (fun j => arr.getD (p.base + (off + j)) undef), ?_, ?_⟩
  · intro v hv
    obtain ⟨j, hj⟩ := List.getElem?_of_mem hv
    exact (key j v hj).1
  · refine RelL.mk (by simp [h1]) ?_
    intro j v v' hj hj'
    obtain ⟨_, u, hu, hv⟩ := key j v hj
    simp only [List.getElem?_map] at hj'
    have hjk : j < k := by rw [← h1]; exact (List.getElem?_eq_some_iff.1 hj).1
    simp only [List.getElem?_range hjk, Option.map_some, Option.some.injEq] at hj'
    rw [← hj', Array.getD_eq_getD_getElem?, hu]
    exact hv
  · have hk : k = ((List.range k).map (fun j => arr.getD (p.base + (off + j)) undef)).length := by simp
    conv => lhs; rw [hk]
    apply run_loadCells_list
    intro j v hj
    rw [addr_add, cell_of ho]
    simp only [List.getElem?_map] at hj
    have hjk : j < k := by
      rcases Nat.lt_or_ge j k with h | h
      · exact h
      · rw [List.getElem?_eq_none (by simpa using h)] at hj; cases hj
    simp only [List.getElem?_range hjk, Option.map_some, Option.some.injEq] at hj
    obtain ⟨_, u, hu, hv⟩ := key j (l[j]'(by omega)) (by simp)
    rw [Array.getD_eq_getD_getElem?, hu] at hj
    simp at hj
    rw [show p.base + off + j = p.base + (off + j) by omega, hu, hj]

end Go.Ab

namespace Go.Ab
open Go
variable {P : Program}

/-! Writing. -/
theorem setCell_eq {w : World} {g i : Nat} {arr : Array Value} {e : TypeId} {fr : Nat × Nat} (h : w.heap[g]? = some (.cells arr e fr)) (v : Value) :
    w.setCell ⟨g, i, none⟩ v = World.putObj w g (.cells (arr.setIfInBounds i v) e fr) := by
  unfold World.setCell World.putObj
  congr 1
  apply Array.ext_getElem?
  intro j
  by_cases hj : g = j
  · subst hj
    have hlt : g < w.heap.size := by
      rcases Nat.lt_or_ge g w.heap.size with h' | h'
      · exact h'
      · simp [Array.getElem?_eq_none h'] at h
    rw [Array.getElem?_setIfInBounds_self_of_lt hlt, Array.getElem?_modify, if_pos rfl, h]
    simp
  · rw [Array.getElem?_modify, Array.getElem?_setIfInBounds_ne hj, if_neg hj]

theorem putObj_same {w : World} {g : Nat} {o : Obj} (h : w.heap[g]? = some o) : World.putObj w g o = w := by
  have : w.heap.setIfInBounds g o = w.heap := by
    apply Array.ext_getElem?
    intro j
    by_cases hj : g = j
    · subst hj
      have hlt : g < w.heap.size := by
        rcases Nat.lt_or_ge g w.heap.size with h' | h'
        · exact h'
        · simp [Array.getElem?_eq_none h'] at h
      rw [Array.getElem?_setIfInBounds_self_of_lt hlt, h]
    · rw [Array.getElem?_setIfInBounds_ne hj]
  unfold World.putObj
  rw [this]

theorem putObj_put {w : World} {g : Nat} {o o' : Obj} : World.putObj (World.putObj w g o) g o' = World.putObj w g o' := by
  unfold World.putObj
  simp

theorem putObj_get {w : World} {g : Nat} {o o' : Obj} (h : w.heap[g]? = some o') : (World.putObj w g o).heap[g]? = some o := by
  have hlt : g < w.heap.size := by
    rcases Nat.lt_or_ge g w.heap.size with h' | h'
    · exact h'
    · simp [Array.getElem?_eq_none h'] at h
  simp [World.putObj, hlt]

theorem run_store1 {w : World} {g i : Nat} {arr : Array Value} {e : TypeId} {lo hi : Nat} (h : w.heap[g]? = some (.cells arr e (lo, hi))) (hi' : i < arr.size)
    (hf : lo = hi ∨ arr.size ≤ lo) {v : Value} (hv : v.oneCell' = true) :
    (store ⟨g, i, none⟩ v).run P w = .ok () (World.putObj w g (.cells (arr.setIfInBounds i v) e (lo, hi))) := by
  rw [run_store P w _ v .plain hv, cell_of h]
  have hfz : w.frozen? ⟨g, i, none⟩ = false := by
    simp only [World.frozen?, h, Bool.and_eq_false_iff, decide_eq_false_iff_not]
    by_cases hlo : lo ≤ i
    · right; intro hlt; rcases hf with h | h <;> omega
    · left; exact hlo
  have hget : arr[i]? = some arr[i] := by simp [hi']
  rw [hget]
  simp only [hfz, Bool.false_eq_true, if_false]
  rw [setCell_eq h]

def wr (arr : Array Value) (o : Nat) : List Value → Array Value
  | [] => arr
  | v :: l => wr (arr.setIfInBounds o v) (o + 1) l

theorem wr_size (l : List Value) : ∀ (arr : Array Value) (o : Nat), (wr arr o l).size = arr.size := by
  induction l with
  | nil => intro arr o; rfl
  | cons v l ih => intro arr o; simp only [wr]; rw [ih]; simp

theorem wr_get (l : List Value) : ∀ (arr : Array Value) (o j : Nat), o + l.length ≤ arr.size → (wr arr o l)[j]? = if o ≤ j ∧ j < o + l.length then l[j - o]? else arr[j]? := by
  induction l with
  | nil => intro arr o j _; simp only [wr, List.length_nil]; rw [if_neg (by omega)]
  | cons v l ih =>
    intro arr o j hs
    simp only [List.length_cons] at hs
    simp only [wr]
    rw [ih _ _ _ (by simp; omega)]
    by_cases h1 : o + 1 ≤ j ∧ j < o + 1 + l.length
    · rw [if_pos h1, if_pos (by simp; omega), show j - o = (j - (o + 1)) + 1 by omega]
      simp
    · rw [if_neg h1]
      by_cases h2 : j = o
      · subst h2
        rw [if_pos (by simp), Array.getElem?_setIfInBounds_self_of_lt (by omega)]
        simp
      · rw [if_neg (by simp; omega), Array.getElem?_setIfInBounds_ne (by omega)]

theorem run_storeN {g o : Nat} {e : TypeId} {lo hi : Nat} : ∀ (l : List Value) (i : Nat) (arr : Array Value) (w : World), w.heap[g]? = some (.cells arr e (lo, hi)) →
    o + i + l.length ≤ arr.size → (lo = hi ∨ arr.size ≤ lo) → (∀ v ∈ l, v.oneCell' = true) →
    (storeCells ⟨g, o, none⟩ l i).run P w = .ok () (World.putObj w g (.cells (wr arr (o + i) l) e (lo, hi))) := by
  intro l
  induction l with
  | nil => intro i arr w h _ _ _; simp only [storeCells, Sem.run_pure, wr]; rw [putObj_same h]
  | cons v l ih =>
    intro i arr w h hs hf hv
    simp only [List.length_cons] at hs
    simp only [storeCells, Sem.run_bind]
    rw [addr_add, run_store1 h (by omega) hf (hv v (by simp))]
    simp only [Result.andThen_ok]
    rw [ih (i + 1) (arr.setIfInBounds (o + i) v) _ (putObj_get h) (by simp; omega) (by simpa using hf) (fun u hu => hv u (by simp [hu]))]
    rw [putObj_put]
    rfl

theorem writeN_eq {n : Nat} : ∀ (l : List V) (c c' : T V) (off : Nat), writeN n l c off = some c' → (l ≠ [] → off + l.length ≤ n) ∧
    ∀ i, c'.get i = if off ≤ i ∧ i < off + l.length then l[i - off]? else c.get i := by
  intro l
  induction l with
  | nil => intro c c' off h; cases h; exact ⟨fun h => absurd rfl h, fun i => by rw [if_neg (by simp)]⟩
  | cons v l ih =>
    intro c c' off h
    obtain ⟨h1, h⟩ := gd_eq (b := Nat.blt off n) h
    rw [T.force_eq] at h
    obtain ⟨g1, g2⟩ := ih _ _ _ h
    have h1' : off < n := by simpa [Nat.blt_eq] using h1
    refine ⟨fun _ => ?_, fun i => ?_⟩
    · by_cases hl : l = []
      · subst hl; simp; omega
      · have := g1 hl; simp only [List.length_cons]; omega
    · rw [g2, T.get_put]
      simp only [List.length_cons]
      by_cases e : i = off
      · subst e
        rw [if_neg (by omega), if_pos rfl, if_pos (by omega)]
        simp
      · rw [if_neg e]
        by_cases h2 : off + 1 ≤ i ∧ i < off + 1 + l.length
        · rw [if_pos h2, if_pos (by omega), show i - off = (i - (off + 1)) + 1 by omega]
          simp
        · rw [if_neg h2, if_neg (by omega)]

theorem RelV.one {ρ : Ren} {v : V} {v' : Value} (h : RelV ρ v v') (hs : v.scalar = true) : v'.oneCell' = true := by
  cases h <;> first | rfl | (simp [V.scalar] at hs)
theorem RelL.ones {ρ : Ren} {l : List V} {l' : List Value} (h : RelL ρ l l') (hs : ∀ v ∈ l, v.scalar = true) : ∀ v ∈ l', v.oneCell' = true := by
  intro v' hv'
  obtain ⟨i, hi⟩ := List.getElem?_of_mem hv'
  have hlen := h.length
  have hi2 : i < l'.length := (List.getElem?_eq_some_iff.1 hi).1
  have : l[i]? = some (l[i]'(by omega)) := by simp
  obtain ⟨u, hu, hr⟩ := h.get this
  rw [hi] at hu; cases hu
  exact hr.one (hs _ (List.getElem_mem _))

/-- the block that a write makes. -/
theorem Rel.write {ρ : Ren} {st : St} {w : World} (h : Rel ρ st w) {b n off : Nat} {c c' : T V} {p : Pl} {l : List V} {l' : List Value}
    (hb : st.heap.get b = some (.cells n c false)) (hp : ρ b = some p) (hw : writeN n l c off = some c') (hl : RelL ρ l l') (hs : ∀ v ∈ l, v.scalar = true) :
    ∃ w', (storeCells ⟨p.blk, p.base + off, none⟩ l' 0).run P w = .ok () w' ∧ Rel ρ ⟨st.heap.put b (.cells n c' false), st.next⟩ w' ∧
      Ext ρ st w ρ ⟨st.heap.put b (.cells n c' false), st.next⟩ w' := by
  obtain ⟨arr, e, lo, hi, ho, hn, hlim, hf0, hc⟩ := h.cells hb hp
  have hf := hf0 rfl
  obtain ⟨g1, g2⟩ := writeN_eq l c c' off hw
  have hlen := hl.length
  by_cases hnil : l = []
  · subst hnil
    cases hl
    refine ⟨w, rfl, ?_⟩
    have hk : RelBlk ρ (.cells n c' false) p (.cells arr e (lo, hi)) := .cells _ _ _ _ _ _ _ _ hn hlim (fun _ => hf) fun i v hi' hv => by
      rw [g2, if_neg (by simp)] at hv
      exact hc i v hi' hv
    have := h.put hb hp hk rfl
    rwa [putObj_same ho] at this
  · have hfit := g1 hnil
    have hrun := run_storeN (P := P) (g := p.blk) (o := p.base + off) l' 0 arr w ho (by omega) hf (hl.ones hs)
    refine ⟨_, hrun, ?_⟩
    refine h.put hb hp ?_ rfl
    refine .cells _ _ _ _ _ _ _ _ hn (by rw [wr_size]; exact hlim) (fun _ => by simpa [wr_size] using hf) ?_
    intro i v hi' hv
    rw [g2] at hv
    rw [wr_get _ _ _ _ (by omega)]
    by_cases hin : off ≤ i ∧ i < off + l.length
    · rw [if_pos hin] at hv
      rw [if_pos (by omega)]
      obtain ⟨v', hv', hr⟩ := hl.get hv
      refine ⟨hs v (List.mem_of_getElem? hv), v', ?_, hr⟩
      rw [← hv']
      congr 1
      omega
    · rw [if_neg hin] at hv
      rw [if_neg (by omega)]
      exact hc i v hi' hv

theorem writeCs_eq {st st' : St} {b off : Nat} {l : List V} (h : writeCs st b off l = some st') : (l = [] ∧ st' = st) ∨
    ∃ n c c', st.heap.get b = some (.cells n c false) ∧ writeN n l c off = some c' ∧ st' = ⟨st.heap.put b (.cells n c' false), st.next⟩ := by
  cases l with
  | nil => cases h; exact .inl ⟨rfl, rfl⟩
  | cons v l =>
    obtain ⟨n, c, ro, hb, h⟩ := atCells_eq (b := b) h
    cases ro with
    | true => cases h
    | false =>
      obtain ⟨c', hc, h⟩ := ob_eq (o := writeN n (v :: l) c off) h
      simp only [putBlk, setBlk, T.force_eq, Option.some.injEq] at h
      exact .inr ⟨n, c, c', hb, hc, h.symm⟩

theorem writeCs_sound {ρ : Ren} {st st' : St} {w : World} (h : Rel ρ st w) {b off : Nat} {p : Pl} {l : List V} {l' : List Value} (hw : writeCs st b off l = some st')
    (hp : ρ b = some p) (hl : RelL ρ l l') (hs : ∀ v ∈ l, v.scalar = true) :
    ∃ w', (storeCells ⟨p.blk, p.base + off, none⟩ l' 0).run P w = .ok () w' ∧ Rel ρ st' w' ∧ Ext ρ st w ρ st' w' := by
  rcases writeCs_eq hw with ⟨rfl, rfl⟩ | ⟨n, c, c', hb, hc, rfl⟩
  · cases hl; exact ⟨w, rfl, h, Ext.refl _ _ _⟩
  · exact h.write hb hp hc hl hs

/-! New blocks. -/
theorem putAll_get : ∀ (l : List V) (i : Nat) (c : T V) (j : Nat), (putAll l i c).get j = if i ≤ j ∧ j < i + l.length then l[j - i]? else c.get j := by
  intro l
  induction l with
  | nil => intro i c j; rw [if_neg (by simp)]; rfl
  | cons v l ih =>
    intro i c j
    show ((c.put i v).force fun c => putAll l (i + 1) c).get j = _
    rw [T.force_eq, ih, T.get_put]
    simp only [List.length_cons]
    by_cases e : j = i
    · subst e
      rw [if_neg (by omega), if_pos rfl, if_pos (by omega)]
      simp
    · rw [if_neg e]
      by_cases h2 : i + 1 ≤ j ∧ j < i + 1 + l.length
      · rw [if_pos h2, if_pos (by omega), show j - i = (j - (i + 1)) + 1 by omega]
        simp
      · rw [if_neg h2, if_neg (by omega)]

theorem newBlk_eq {st st' : St} {k : Blk} {b : Nat} (h : newBlk st k = some (b, st')) : b = st.next ∧ st' = ⟨st.heap.put st.next k, st.next + 1⟩ := by
  simp only [newBlk, T.force_eq, Option.some.injEq, Prod.mk.injEq] at h
  exact ⟨h.1.symm, h.2.symm⟩

/-- a row of cells, new in the world, of which the first are known. -/
theorem newRow_sound {ρ : Ren} {st st' : St} {w : World} (h : Rel ρ st w) {b : Nat} {l : List V} {arr : Array Value} (e : TypeId) (hn : newCells st l = some (b, st'))
    (hlen : l.length ≤ arr.size) (hl : RelL ρ l (arr.toList.take l.length)) (hs : ∀ v ∈ l, v.scalar = true) :
    let ρ' := ρ.set st.next ⟨w.heap.size, 0, arr.size⟩
    let w' := { w with heap := w.heap.push (.cells arr e (0, 0)) }
    ρ' b = some ⟨w.heap.size, 0, arr.size⟩ ∧ Rel ρ' st' w' ∧ Ext ρ st w ρ' st' w' := by
  obtain ⟨rfl, rfl⟩ := newBlk_eq hn
  intro ρ' w'
  have hle := h.le_set ⟨w.heap.size, 0, arr.size⟩
  refine ⟨Ren.set_self _ _ _, h.new arr.size ?_⟩
  refine .cells _ _ _ _ arr e 0 0 (by rw [llen_eq]; simp; omega) (by simp) (by omega) ?_
  intro i v hi hv
  rw [llen_eq] at hi
  rw [putAll_get, if_pos (by omega)] at hv
  simp only [Nat.sub_zero] at hv
  obtain ⟨v', hv', hr⟩ := hl.get hv
  refine ⟨hs v (List.mem_of_getElem? hv), v', ?_, hr.mono hle⟩
  rw [List.getElem?_take] at hv'
  split at hv'
  · simpa using hv'
  · cases hv'

end Go.Ab
