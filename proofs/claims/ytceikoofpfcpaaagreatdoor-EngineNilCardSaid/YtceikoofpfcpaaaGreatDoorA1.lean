/-
  A PART OF THE PROOF OF EngineNil's TIED CARD: an evaluator of the model's programs over abstract values and an abstract heap, written to run in the kernel (definitions and their plain laws). No condition beyond those that the theorems below bear.
-/
import GoSem.Step
namespace Go.Ab
open Go

/-! Tries keyed by numbers. -/
inductive T (α : Type) where
  | nil
  | node (l : T α) (x : Option α) (r : T α)

noncomputable def T.get {α : Type} (t : T α) : Nat → Option α :=
  T.rec (motive := fun _ => Nat → Option α) (fun _ => none)
    (fun _ x _ gl gr n => Nat.rec (motive := fun _ => Option α) x (fun k _ => (Nat.rec (motive := fun _ => Nat → Option α) gl (fun _ _ => gr) (Nat.mod k 2)) (Nat.div k 2)) n) t

/-- put into an empty trie; the first argument: greater than n. -/
noncomputable def T.sing {α : Type} (x : Option α) (f : Nat) : Nat → T α :=
  Nat.rec (motive := fun _ => Nat → T α) (fun _ => .nil)
    (fun _ ih n => Nat.rec (motive := fun _ => T α) (.node .nil x .nil)
      (fun k _ => Nat.rec (motive := fun _ => T α) (.node (ih (Nat.div k 2)) none .nil) (fun _ _ => .node .nil none (ih (Nat.div k 2))) (Nat.mod k 2)) n) f

/-- put at n. -/
noncomputable def T.putO {α : Type} (x : Option α) (t : T α) : Nat → T α :=
  T.rec (motive := fun _ => Nat → T α) (fun n => T.sing x (Nat.succ n) n)
    (fun l y r pl pr n => Nat.rec (motive := fun _ => T α) (.node l x r)
      (fun k _ => Nat.rec (motive := fun _ => T α) (.node (pl (Nat.div k 2)) y r) (fun _ _ => .node l y (pr (Nat.div k 2))) (Nat.mod k 2)) n) t

noncomputable def T.put {α : Type} (t : T α) (n : Nat) (x : α) : T α := T.putO (some x) t n
noncomputable def T.del {α : Type} (t : T α) (n : Nat) : T α := T.putO none t n
/-- the same, but reckoned. -/
noncomputable def T.force {α β : Type} (t : T α) (f : T α → β) : β := T.rec (motive := fun _ => β) (f .nil) (fun a b c _ _ => f (.node a b c)) t
noncomputable def ob {α β : Type} (o : Option α) (f : α → Option β) : Option β := Option.rec (motive := fun _ => Option β) none f o


def lrecI {α β : Type} (z : β) (c : α → List α → β → β) : List α → β
  | [] => z
  | x :: l => c x l (lrecI z c l)
noncomputable def lrec {α β : Type} (z : β) (c : α → List α → β → β) (l : List α) : β := List.rec (motive := fun _ => β) z c l
def nrecI {β : Type} (z : β) (c : Nat → β → β) : Nat → β
  | 0 => z
  | k + 1 => c k (nrecI z c k)
noncomputable def nrec {β : Type} (z : β) (c : Nat → β → β) (n : Nat) : β := Nat.rec (motive := fun _ => β) z c n

noncomputable def ncase {β : Type} (n : Nat) (z : β) (s : Nat → β) : β := Nat.rec (motive := fun _ => β) z (fun k _ => s k) n
noncomputable def lcase {α β : Type} (l : List α) (z : β) (c : α → List α → β) : β := List.rec (motive := fun _ => β) z (fun x l _ => c x l) l
noncomputable def bcase {β : Type} (b : Bool) (t e : β) : β := Bool.rec (motive := fun _ => β) e t b
noncomputable def ocase {α β : Type} (o : Option α) (z : β) (s : α → β) : β := Option.rec (motive := fun _ => β) z s o
noncomputable def pcase {α β γ : Type} (p : α × β) (f : α → β → γ) : γ := Prod.rec (motive := fun _ => γ) f p
noncomputable def app {α : Type} (a b : List α) : List α := lrec b (fun x _ ih => x :: ih) a
/-- a guard. -/
noncomputable def gd {α : Type} (b : Bool) (x : Option α) : Option α := bcase b x none
/-- bind, of a pair. -/
noncomputable def ob2 {α β γ : Type} (o : Option (α × β)) (f : α → β → Option γ) : Option γ := ob o fun p => pcase p f

noncomputable def T.ofL {α : Type} (l : List (Option α)) : Nat → T α → T α :=
  lrec (fun _ t => t) (fun x _ ih i t => (T.putO x t i).force (ih (Nat.succ i))) l

noncomputable def llen {α : Type} (l : List α) : Nat → Nat := lrec (fun n => n) (fun _ _ ih n => ih (Nat.succ n)) l

inductive V where
  | bool (b : Bool)
  | int (k : IntKind) (n : Int)
  | str (s : List UInt8)
  | ptr (b off : Nat)
  | nilptr
  | sl (b off len cap : Nat) (exact : Bool) (sz : Nat)
  | slE
  | nilsl
  | map (b : Nat)
  | nilmap
  | func (fn : Fn) (first captured : List V)
  | nilFunc
  | iface (t : TypeId) (v : V)
  | nilIface
  | agg (c : List V)
  | tuple (c : List V)
  deriving Inhabited

abbrev Ent := V × V × Nat

inductive Blk where
  | cells (n : Nat) (c : T V) (ro : Bool)
  | map (clock : Nat) (es : List Ent)
  | umap (es : List Ent)
  | iter (m : Option Nat) (since : Nat) (seen : List Nat) (last : Nat)
  | striter (s : List UInt8) (pos : Nat)
  | loop (fn : FuncId) (tmps : T V) (params : List Tmp) (assign body : Code) (pend : Option Code)

structure St where
  heap : T Blk
  next : Nat

structure Row where
  desc : TypeDesc
  agg : Bool
  size : Nat
  bytes : Nat
  zero : List V

structure Tab where
  rows : T Row
  funcs : T Func

/-! Constants. -/
noncomputable def ofVal1 : Value → Option V
  | .bool b => some (.bool b)
  | .int k n => some (.int k n)
  | .string s => some (.str s.data.toList)
  | .pointer none => some .nilptr
  | .slice none 0 0 => some .nilsl
  | .map none => some .nilmap
  | .nilFunc => some .nilFunc
  | .nilIface => some .nilIface
  | _ => none

noncomputable def mapO {α β : Type} (f : α → Option β) (l : List α) : Option (List β) :=
  lrec (some []) (fun x _ ih => ob (f x) fun y => ob ih fun ys => some (y :: ys)) l

noncomputable def ofAgg (l : List Value) : Option V := ob (mapO ofVal1 l) fun l => some (.agg l)
noncomputable def ofVal (v : Value) : Option V :=
  match v with
  | .agg cs => ofAgg cs.toList
  | v => ofVal1 v

noncomputable def bnot (b : Bool) : Bool := bcase b false true
noncomputable def beqb (a b : Bool) : Bool := bcase a b (bnot b)
noncomputable def aggDesc : TypeDesc → Bool
  | .struct _ => true
  | .array _ _ => true
  | _ => false

def isAggV (z : Value) : Bool :=
  match z with
  | .agg _ => true
  | _ => false
noncomputable def mkRow (P : Program) (t : TypeId) : Option Row :=
  ob (P.info? t) fun i => ob (P.underlying t) fun d => ob i.zero fun z => ob (mapO ofVal1 z.cells.toList) fun l =>
    gd (Nat.beq (llen l 0) i.size) (gd (beqb (aggDesc d) (isAggV z)) (some ⟨d, aggDesc d, i.size, i.bytes, l⟩))
/-! Numbers. -/
noncomputable def wrapI64 (n : Int) : Int := Int.casesOn (motive := fun _ => Int) n
  (fun a => bcase (Nat.ble a 9223372036854775807) (.ofNat a) (IntKind.i64.wrap (.ofNat a)))
  (fun a => bcase (Nat.ble a 9223372036854775807) (.negSucc a) (IntKind.i64.wrap (.negSucc a)))
noncomputable def wrapU (m : Nat) (k : IntKind) (n : Int) : Int := Int.casesOn (motive := fun _ => Int) n (fun a => .ofNat (Nat.mod a m)) (fun a => k.wrap (.negSucc a))
noncomputable def wrap (k : IntKind) (n : Int) : Int :=
  match k with
  | .i64 => wrapI64 n
  | .u64 => wrapU 18446744073709551616 .u64 n
  | .u32 => wrapU 4294967296 .u32 n
  | .u8 => wrapU 256 .u8 n
  | .i8 => IntKind.i8.wrap n
  | .i16 => IntKind.i16.wrap n
  | .i32 => IntKind.i32.wrap n
  | .u16 => IntKind.u16.wrap n

noncomputable def kbits : IntKind → Nat
  | .i8 => 8
  | .u8 => 8
  | .i16 => 16
  | .u16 => 16
  | .i32 => 32
  | .u32 => 32
  | .i64 => 64
  | .u64 => 64
noncomputable def kno : IntKind → Nat
  | .i8 => 0
  | .i16 => 1
  | .i32 => 2
  | .i64 => 3
  | .u8 => 4
  | .u16 => 5
  | .u32 => 6
  | .u64 => 7
noncomputable def keq (a b : IntKind) : Bool := Nat.beq (kno a) (kno b)

noncomputable def icase {β : Type} (n : Int) (f g : Nat → β) : β := Int.rec (motive := fun _ => β) f g n
noncomputable def ieq (x y : Int) : Bool := icase x (fun a => icase y (fun b => Nat.beq a b) fun _ => false) fun a => icase y (fun _ => false) fun b => Nat.beq a b
noncomputable def ile (x y : Int) : Bool := icase x (fun a => icase y (fun b => Nat.ble a b) fun _ => false) fun a => icase y (fun _ => true) fun b => Nat.ble b a
noncomputable def ilt (a b : Int) : Bool := bnot (ile b a)

noncomputable def leqB (x : List UInt8) : List UInt8 → Bool :=
  lrec (fun y => lcase y true fun _ _ => false) (fun a _ ih y => lcase y false fun b y => bcase (Nat.beq a.toNat b.toNat) (ih y) false) x
noncomputable def lltB (x : List UInt8) : List UInt8 → Bool :=
  lrec (fun y => lcase y false fun _ _ => true) (fun a _ ih y => lcase y false fun b y => bcase (Nat.beq a.toNat b.toNat) (ih y) (Nat.blt a.toNat b.toNat)) x

noncomputable def nn (x y : Int) (f : Nat → Nat → Option V) : Option V := icase x (fun a => icase y (fun b => f a b) fun _ => none) fun _ => none
noncomputable def divI (k : IntKind) (a b : Int) : Option V := bcase (ieq b 0) none (some (.int k (wrap k (a.tdiv b))))
noncomputable def remI (k : IntKind) (a b : Int) : Option V := bcase (ieq b 0) none (some (.int k (a.tmod b)))
noncomputable def binInt (op : BinOp) (k : IntKind) (a b : Int) : Option V :=
  match op with
  | .add => some (.int k (wrap k (a + b)))
  | .sub => some (.int k (wrap k (a - b)))
  | .mul => some (.int k (wrap k (a * b)))
  | .quo => divI k a b
  | .rem => remI k a b
  | .and => nn a b fun a b => some (.int k (wrap k (.ofNat (Nat.land a b))))
  | .or => nn a b fun a b => some (.int k (wrap k (.ofNat (Nat.lor a b))))
  | .xor => nn a b fun a b => some (.int k (wrap k (.ofNat (Nat.xor a b))))
  | .andNot => none
  | .shl => none
  | .shr => none
  | .eql => some (.bool (ieq a b))
  | .neq => some (.bool (bnot (ieq a b)))
  | .lss => some (.bool (ilt a b))
  | .leq => some (.bool (ile a b))
  | .gtr => some (.bool (ilt b a))
  | .geq => some (.bool (ile b a))

noncomputable def nmin (a b : Nat) : Nat := bcase (Nat.ble a b) a b

noncomputable def shlI (k : IntKind) (a b : Int) : Option V := nn a b fun a b => some (.int k (wrap k (.ofNat (Nat.mul a (Nat.pow 2 (nmin b (kbits k)))))))
noncomputable def shrI (k : IntKind) (a b : Int) : Option V := nn a b fun a b => some (.int k (.ofNat (Nat.div a (Nat.pow 2 (nmin b (kbits k))))))

/-- are two values of a type alike? One of them is nil, or they are bools. -/
noncomputable def eqPtr (a b : V) : Option Bool :=
  match a with
  | .nilptr => match b with
    | .nilptr => some true
    | .ptr _ _ => some false
    | _ => none
  | .ptr _ _ => match b with
    | .nilptr => some false
    | _ => none
  | _ => none
noncomputable def eqSl (a b : V) : Option Bool :=
  match a with
  | .nilsl => match b with
    | .nilsl => some true
    | .sl .. => some false
    | .slE => some false
    | _ => none
  | .sl .. => match b with
    | .nilsl => some false
    | _ => none
  | .slE => match b with
    | .nilsl => some false
    | _ => none
  | _ => none
noncomputable def eqMp (a b : V) : Option Bool :=
  match a with
  | .nilmap => match b with
    | .nilmap => some true
    | .map _ => some false
    | _ => none
  | .map _ => match b with
    | .nilmap => some false
    | _ => none
  | _ => none
noncomputable def eqFn (a b : V) : Option Bool :=
  match a with
  | .nilFunc => match b with
    | .nilFunc => some true
    | .func .. => some false
    | _ => none
  | .func .. => match b with
    | .nilFunc => some false
    | _ => none
  | _ => none
noncomputable def eqIf (a b : V) : Option Bool :=
  match a with
  | .nilIface => match b with
    | .iface .. => some false
    | _ => none
  | .iface .. => match b with
    | .nilIface => some false
    | _ => none
  | _ => none
noncomputable def eqBo (a b : V) : Option Bool :=
  match a with
  | .bool x => match b with
    | .bool y => some (beqb x y)
    | _ => none
  | _ => none
noncomputable def eqV (d : TypeDesc) (a b : V) : Option Bool :=
  match d with
  | .bool => eqBo a b
  | .pointer _ => eqPtr a b
  | .slice _ => eqSl a b
  | .map _ _ => eqMp a b
  | .func _ _ _ => eqFn a b
  | .interface _ => eqIf a b
  | _ => none
noncomputable def bin2 (d : TypeDesc) (op : BinOp) (a b : V) : Option V :=
  match op with
  | .eql => ob (eqV d a b) fun x => some (.bool x)
  | .neq => ob (eqV d a b) fun x => some (.bool (bnot x))
  | _ => none
noncomputable def binS (op : BinOp) (a b : List UInt8) : Option V :=
  match op with
  | .add => gd (Nat.ble (Nat.add (llen a 0) (llen b 0)) 4611686018427387904) (some (.str (app a b)))
  | .eql => some (.bool (leqB a b))
  | .neq => some (.bool (bnot (leqB a b)))
  | .lss => some (.bool (lltB a b))
  | .leq => some (.bool (bnot (lltB b a)))
  | .gtr => some (.bool (lltB b a))
  | .geq => some (.bool (bnot (lltB a b)))
  | _ => none
noncomputable def binI (op : BinOp) (k : IntKind) (a : Int) (j : IntKind) (b : Int) : Option V :=
  match op with
  | .shl => shlI k a b
  | .shr => shrI k a b
  | op => gd (keq k j) (binInt op k a b)
noncomputable def binOpA (d : Option TypeDesc) (op : BinOp) (a b : V) : Option V :=
  match a with
  | .int k x => match b with
    | .int j y => binI op k x j y
    | _ => none
  | .str x => match b with
    | .str y => binS op x y
    | _ => none
  | a => ob d fun d => bin2 d op a b
noncomputable def notI (m : Nat) (k : IntKind) (n : Int) : Option V := icase n (fun a => some (.int k (.ofNat (Nat.xor m (Nat.mod a (Nat.succ m)))))) fun _ => none
noncomputable def unI (op : UnOp) (k : IntKind) (n : Int) : Option V :=
  match op with
  | .neg => some (.int k (wrap k (0 - n)))
  | .xor => match k with
    | .u32 => notI 4294967295 .u32 n
    | .u64 => notI 18446744073709551615 .u64 n
    | .u8 => notI 255 .u8 n
    | _ => none
  | _ => none
noncomputable def unOpA (op : UnOp) (a : V) : Option V :=
  match a with
  | .bool b => match op with
    | .not => some (.bool (bnot b))
    | _ => none
  | .int k n => unI op k n
  | _ => none

/-! Memory. -/
abbrev CellsK (β : Type) := Nat → T V → Bool → Option β
/-- a block of cells. -/
noncomputable def blkCells {β : Type} (k : Blk) (f : CellsK β) : Option β :=
  match k with
  | .cells n c ro => f n c ro
  | _ => none
noncomputable def atCells {β : Type} (st : St) (b : Nat) (f : CellsK β) : Option β := ob (st.heap.get b) fun k => blkCells k f
noncomputable def readC (st : St) (b off : Nat) : Option V := atCells st b fun n c _ => gd (Nat.blt off n) (c.get off)

noncomputable def readN (c : T V) (n : Nat) (k : Nat) : Nat → Option (List V) :=
  nrec (fun _ => some []) (fun _ ih off => gd (Nat.blt off n) (ob (c.get off) fun v => ob (ih (Nat.succ off)) fun l => some (v :: l))) k
noncomputable def readCs (st : St) (b off k : Nat) : Option (List V) := atCells st b fun n c _ => readN c n k off

noncomputable def writeN (n : Nat) (l : List V) : T V → Nat → Option (T V) :=
  lrec (fun c _ => some c) (fun v _ ih c off => gd (Nat.blt off n) ((c.put off v).force fun c => ih c (Nat.succ off))) l

noncomputable def setBlk (h : T Blk) (b : Nat) (k : Blk) (next : Nat) : Option St := (h.put b k).force fun h => some ⟨h, next⟩
noncomputable def putBlk (st : St) (b : Nat) (k : Blk) : Option St := setBlk st.heap b k st.next

/-- cells written at a place that is known. -/
noncomputable def writeCs1 (st : St) (b off : Nat) (l : List V) : Option St :=
  atCells st b fun n c ro => bcase ro none (ob (writeN n l c off) fun c => putBlk st b (.cells n c false))
noncomputable def writeCs (st : St) (b off : Nat) (l : List V) : Option St := lcase l (some st) fun v l => writeCs1 st b off (v :: l)

noncomputable def putAll (l : List V) : Nat → T V → T V := lrec (fun _ c => c) (fun v _ ih i c => (c.put i v).force fun c => ih (Nat.succ i) c) l

noncomputable def newBlk (st : St) (k : Blk) : Option (Nat × St) := (st.heap.put st.next k).force fun h => some (st.next, ⟨h, Nat.succ st.next⟩)
noncomputable def newCells (st : St) (l : List V) : Option (Nat × St) := newBlk st (.cells (llen l 0) (putAll l 0 .nil) false)

noncomputable def cellsO (v : V) : Option (List V) :=
  match v with
  | .agg c => some c
  | .tuple _ => none
  | v => some [v]
noncomputable def loadP (r : Row) (st : St) (b off : Nat) : Option V :=
  bcase r.agg (ob (readCs st b off r.size) fun l => some (.agg l)) (readC st b off)
noncomputable def ptrK {β : Type} (v : V) (f : Nat → Nat → Option β) : Option β :=
  match v with
  | .ptr b off => f b off
  | _ => none
noncomputable def loadA (r : Row) (st : St) (a : V) : Option V := ptrK a (loadP r st)
noncomputable def storeA (r : Row) (st : St) (a v : V) : Option St := ptrK a fun b off => ob (cellsO v) fun l => gd (Nat.beq (llen l 0) r.size) (writeCs st b off l)

noncomputable def lget {α : Type} (l : List α) : Nat → Option α :=
  lrec (fun _ => none) (fun x _ ih n => ncase n (some x) ih) l
noncomputable def ltake {α : Type} (k : Nat) : List α → Option (List α) :=
  nrec (fun _ => some []) (fun _ ih l => lcase l none fun x l => ob (ih l) fun r => some (x :: r)) k
noncomputable def ldrop {α : Type} (k : Nat) : List α → List α :=
  nrec (fun l => l) (fun _ ih l => lcase l [] fun _ l => ih l) k

noncomputable def partA (r : Row) (cs : List V) (off : Nat) : Option V :=
  bcase r.agg (ob (ltake r.size (ldrop off cs)) fun l => some (.agg l)) (lget cs off)

/-- a list with others in the places from one on. -/
noncomputable def lset {α : Type} (l : List α) : Nat → List α → Option (List α) :=
  lrec (fun _ ys => lcase ys (some []) fun _ _ => none)
    (fun x l ih k ys => lcase ys (some (x :: l)) fun y ys => ncase k (ob (ih 0 ys) fun r => some (y :: r)) fun k => ob (ih k (y :: ys)) fun r => some (x :: r)) l

noncomputable def fillA (place : Nat → Option (Nat × Nat)) (ps : List (Nat × V)) : List V → Option (List V) :=
  lrec (fun cs => some cs) (fun p _ ih cs => ob2 (place p.1) fun off size => ncase size none fun _ => ob (cellsO p.2) fun l => gd (Nat.beq (llen l 0) size) (ob (lset cs off l) ih)) ps

noncomputable def row (tb : Tab) (t : TypeId) : Option Row := tb.rows.get t

noncomputable def intK {β : Type} (v : V) (f : Int → Option β) : Option β :=
  match v with
  | .int _ n => f n
  | _ => none
noncomputable def natOf (v : V) : Option Nat := intK v fun n => icase n some fun _ => none
noncomputable def boundA (x : Option V) (d : Nat) : Option Nat := ocase x (some d) natOf

noncomputable def elemSl (d : TypeDesc) : Option TypeId :=
  match d with
  | .slice e => some e
  | _ => none
noncomputable def elemArr (d : TypeDesc) : Option (Nat × TypeId) :=
  match d with
  | .array n e => some (n, e)
  | _ => none
noncomputable def elemPtr (d : TypeDesc) : Option TypeId :=
  match d with
  | .pointer e => some e
  | _ => none
noncomputable def elemMap (d : TypeDesc) : Option (TypeId × TypeId) :=
  match d with
  | .map k e => some (k, e)
  | _ => none
noncomputable def fieldsOf (d : TypeDesc) : Option (List Field) :=
  match d with
  | .struct fs => some fs.toList
  | _ => none

def isStrD (d : TypeDesc) : Bool :=
  match d with
  | .string => true
  | _ => false
def isIntD (d : TypeDesc) : Bool :=
  match d with
  | .int _ => true
  | _ => false
def isKeyD (d : TypeDesc) : Bool :=
  match d with
  | .string => true
  | .int _ => true
  | _ => false
def isIfaceD (d : TypeDesc) : Bool :=
  match d with
  | .interface _ => true
  | _ => false
noncomputable def isByte (d : TypeDesc) : Bool :=
  match d with
  | .int k => keq k .u8
  | _ => false
/-- the row of a slice type's elements. -/
noncomputable def slElem (tb : Tab) (t : TypeId) : Option Row := ob (row tb t) fun r => ob (elemSl r.desc) (row tb)
noncomputable def arrElem (tb : Tab) (t : TypeId) : Option (Nat × Row) := ob (row tb t) fun r => ob2 (elemArr r.desc) fun n e => ob (row tb e) fun r => some (n, r)
/-- of an array's type, or of a type of pointers to arrays. -/
noncomputable def arrElem' (tb : Tab) (t : TypeId) : Option (Nat × Row) := ob (row tb t) fun r => ocase (elemPtr r.desc) (arrElem tb t) (arrElem tb)

noncomputable def moved (m l off sz : Nat) : Nat := bcase (Nat.beq m l) off (Nat.add off (Nat.mul l sz))

noncomputable def sliceStr (s : List UInt8) (lo hi mx : Option V) : Option V :=
  ob (boundA lo 0) fun l => ob (boundA hi (llen s 0)) fun h => ocase mx (gd (Nat.ble l h) (gd (Nat.ble h (llen s 0)) (ob (ltake (Nat.sub h l) (ldrop l s)) fun r => some (.str r)))) fun _ => none
noncomputable def sliceNone (v : V) (lo hi mx : Option V) : Option V :=
  ob (boundA lo 0) fun l => ob (boundA hi 0) fun h => ob (boundA mx 0) fun m => gd (Nat.beq (Nat.add l (Nat.add h m)) 0) (some v)
noncomputable def sliceSl (b off len cap : Nat) (exact : Bool) (sz : Nat) (lo hi mx : Option V) : Option V :=
  ob (boundA lo 0) fun l => ob (boundA hi len) fun h => gd (Nat.ble l h)
    (ocase mx
      (gd (Nat.ble h cap) (bcase exact (some (.sl b (moved cap l off sz) (Nat.sub h l) (Nat.sub cap l) true sz))
        (bcase (Nat.blt l cap) (some (.sl b (Nat.add off (Nat.mul l sz)) (Nat.sub h l) (Nat.sub cap l) false sz))
          (ncase l (some (.sl b off (Nat.sub h l) (Nat.sub cap l) false sz)) fun _ => some .slE))))
      fun v => ob (natOf v) fun m => gd (Nat.ble h m) (gd (Nat.ble m cap) (some (.sl b (moved m l off sz) (Nat.sub h l) (Nat.sub m l) true sz))))
noncomputable def sliceArr (b off n : Nat) (r : Row) (lo hi mx : Option V) : Option V :=
  ob (boundA lo 0) fun l => ob (boundA hi n) fun h => ob (boundA mx n) fun m =>
    gd (Nat.ble l h) (gd (Nat.ble h m) (gd (Nat.ble m n) (some (.sl b (moved m l off r.size) (Nat.sub h l) (Nat.sub m l) true r.size))))
noncomputable def sliceA (tb : Tab) (st : St) (t : TypeId) (x : V) (lo hi mx : Option V) : Option V :=
  match x with
  | .str s => ob (row tb t) fun r => gd (isStrD r.desc) (sliceStr s lo hi mx)
  | .nilsl => ob (slElem tb t) fun _ => sliceNone .nilsl lo hi mx
  | .slE => ob (slElem tb t) fun _ => ocase mx (sliceNone .slE lo hi none) fun _ => none
  | .sl b off len cap exact sz => ob (slElem tb t) fun re => gd (Nat.beq re.size sz) (sliceSl b off len cap exact sz lo hi mx)
  | .ptr b off => ob2 (arrElem' tb t) fun n r => atCells st b fun k _ _ => gd (Nat.ble (Nat.add off (Nat.mul n r.size)) k) (sliceArr b off n r lo hi mx)
  | _ => none
noncomputable def bytesV (l : List UInt8) : List V := lrec [] (fun b _ ih => .int .u8 (.ofNat b.toNat) :: ih) l
noncomputable def byteOfV (v : V) : Option UInt8 :=
  match v with
  | .int k n => match k with
    | .u8 => icase n (fun a => some (UInt8.ofNat a)) fun _ => none
    | _ => none
  | _ => none
noncomputable def toBytes (l : List V) : Option (List UInt8) := mapO byteOfV l

/-- the cells of what is appended or copied: the first n elements. -/
noncomputable def firstA (st : St) (sz n : Nat) (x : V) : Option (List V) :=
  match x with
  | .nilsl => ncase n (some []) fun _ => none
  | .slE => ncase n (some []) fun _ => none
  | .sl b off len _ _ _ => gd (Nat.ble n len) (readCs st b off (Nat.mul n sz))
  | .str s => gd (Nat.beq sz 1) (ob (ltake n s) fun l => some (bytesV l))
  | _ => none

noncomputable def lenV (x : V) : Option Nat :=
  match x with
  | .nilsl => some 0
  | .slE => some 0
  | .sl _ _ len _ _ _ => some len
  | .str s => some (llen s 0)
  | _ => none

/-- a new block behind a slice that grows; what capacity it has is open. -/
noncomputable def grown (sz n : Nat) (st : St) (l : List V) : Option (V × St) :=
  ob2 (newCells st l) fun b st => some (.sl b 0 n n false sz, st)
/-- behind a block's known cells; the elder block goes. -/
noncomputable def grownOn (sz n : Nat) (st : St) (b k : Nat) (new : List V) : Option (V × St) :=
  atCells st b fun m c ro => bcase ro none (gd (Nat.ble k m) (ob2 (newBlk ⟨st.heap.del b, st.next⟩ (.cells (llen new k) (putAll new k c) false)) fun b st => some (.sl b 0 n n false sz, st)))
/-- the same, of a slice that doesn't begin at the block's begin. -/
noncomputable def grownOff (sz n : Nat) (st : St) (b off k : Nat) (new : List V) : Option (V × St) :=
  atCells st b fun m c ro => bcase ro none (ob (readN c m k off) fun old => grown sz n ⟨st.heap.del b, st.next⟩ (app old new))
noncomputable def roomy (r : Row) (n : Nat) : Bool := bcase (Nat.ble n 4611686018427387904) (Nat.ble (Nat.mul (Nat.add (Nat.mul 2 n) 1000) r.bytes) 281474976710656) false

noncomputable def appendSl (r : Row) (st : St) (b off len cap : Nat) (exact : Bool) (sz : Nat) (n : Nat) (new : List V) : Option (V × St) :=
  gd (Nat.beq r.size sz)
    (bcase (Nat.ble (Nat.add len n) cap)
      (ob (writeCs st b (Nat.add off (Nat.mul len sz)) new) fun st => some (.sl b off (Nat.add len n) cap exact sz, st))
      (gd (roomy r (Nat.add len n))
        (bcase exact
          (ob (readCs st b off (Nat.mul len sz)) fun old => grown sz (Nat.add len n) st (app old new))
          (ncase off (grownOn sz (Nat.add len n) st b (Nat.mul len sz) new) fun _ => grownOff sz (Nat.add len n) st b off (Nat.mul len sz) new))))

noncomputable def appendN (r : Row) (st : St) (s : V) (n : Nat) (new : List V) : Option (V × St) :=
  match s with
  | .nilsl => gd (roomy r n) (ncase n (some (.nilsl, st)) fun _ => grown r.size n st new)
  | .slE => gd (roomy r n) (ncase n (some (.slE, st)) fun _ => none)
  | .sl b off len cap exact sz => gd (roomy r n) (appendSl r st b off len cap exact sz n new)
  | _ => none
noncomputable def appendA (r : Row) (st : St) (s x : V) : Option (V × St) :=
  ob (lenV x) fun n => ob (firstA st r.size n x) fun new => appendN r st s n new

noncomputable def copyTo (st : St) (d : V) (k : Nat) (l : List V) : Option (V × St) :=
  match d with
  | .sl b off _ _ _ _ => ob (writeCs st b off l) fun st => some (.int .i64 (.ofNat k), st)
  | .nilsl => some (.int .i64 (.ofNat k), st)
  | .slE => some (.int .i64 (.ofNat k), st)
  | _ => none
noncomputable def copyA (sz : Nat) (st : St) (d x : V) : Option (V × St) :=
  ob (lenV d) fun m => ob (lenV x) fun n => ob (firstA st sz (nmin n m) x) fun l => copyTo st d (nmin n m) l

noncomputable def lrep (k : Nat) (z : List V) : List V := nrec [] (fun _ ih => app z ih) k

noncomputable def keyEqI (k : IntKind) (a : Int) (v : V) : Option Bool :=
  match v with
  | .int j b => gd (keq k j) (some (ieq a b))
  | _ => none
noncomputable def keyEqS (a : List UInt8) (v : V) : Option Bool :=
  match v with
  | .str b => some (leqB a b)
  | _ => none
noncomputable def keyEq (u v : V) : Option Bool :=
  match u with
  | .int k a => keyEqI k a v
  | .str a => keyEqS a v
  | _ => none

noncomputable def mfind (k : V) (l : List Ent) : Option (Option (V × Nat)) :=
  lrec (some none) (fun e _ ih => ob (keyEq k e.1) fun q => bcase q (some (some e.2)) ih) l
/-- the key's entry written anew; if there is none: one more, behind, of that stamp. -/
noncomputable def mset (k x : V) (clock : Nat) (l : List Ent) : Option (Nat × List Ent) :=
  lrec (some (Nat.succ clock, [(k, x, clock)])) (fun e l ih => ob (keyEq k e.1) fun q => bcase q (some (clock, (k, x, e.2.2) :: l)) (ob2 ih fun c l => some (c, e :: l))) l
noncomputable def mdel (k : V) (l : List Ent) : Option (List Ent) :=
  lrec (some []) (fun e l ih => ob (keyEq k e.1) fun q => bcase q (some l) (ob ih fun l => some (e :: l))) l
/-- the entry of a stamp has another value. -/
noncomputable def mstamp (n : Nat) (x : V) (l : List Ent) : Option (List Ent) :=
  lrec none (fun e l ih => bcase (Nat.beq n e.2.2) (some ((e.1, x, e.2.2) :: l)) (ob ih fun l => some (e :: l))) l

noncomputable def blkMap {β : Type} (k : Blk) (f : Nat → List Ent → Option β) : Option β :=
  match k with
  | .map c es => f c es
  | _ => none
noncomputable def atMap {β : Type} (st : St) (b : Nat) (f : Nat → List Ent → Option β) : Option β := ob (st.heap.get b) fun k => blkMap k f
/-- are all keys apart? -/
noncomputable def apart1 (k : V) (l : List Ent) : Bool := lrec true (fun e _ ih => ocase (keyEq k e.1) false fun q => bcase q false ih) l
noncomputable def apartK (l : List Ent) : Bool := lrec true (fun e l ih => bcase (apart1 e.1 l) ih false) l
/-- a map's entries; where their order is open, their keys must be apart. -/
noncomputable def blkMapU {β : Type} (k : Blk) (f : Nat → List Ent → Option β) : Option β :=
  match k with
  | .map c es => f c es
  | .umap es => gd (apartK es) (f 0 es)
  | _ => none
noncomputable def getMap {β : Type} (st : St) (x : V) (f : Nat → List Ent → Option β) : Option β :=
  match x with
  | .nilmap => f 0 []
  | .map b => ob (st.heap.get b) fun k => blkMapU k f
  | _ => none
noncomputable def upBlk (k : Blk) (kv xv : V) : Option Blk :=
  match k with
  | .map c es => ob2 (mset kv xv c es) fun c es => some (.map c es)
  | .umap es => gd (apartK es) (ob2 (mset kv xv 0 es) fun _ es => some (.umap es))
  | _ => none
noncomputable def delBlk (k : Blk) (kv : V) : Option Blk :=
  match k with
  | .map c es => ob (mdel kv es) fun es => some (.map c es)
  | .umap es => gd (apartK es) (ob (mdel kv es) fun es => some (.umap es))
  | _ => none

noncomputable def memN (n : Nat) (l : List Nat) : Bool := lrec false (fun a _ ih => bcase (Nat.beq a n) true ih) l
/-- those that weren't met. -/
noncomputable def unseen (seen : List Nat) (l : List Ent) : List Ent := lrec [] (fun e _ ih => bcase (memN e.2.2 seen) ih (e :: ih)) l
noncomputable def anyBelow (n : Nat) (l : List Ent) : Bool := lrec false (fun e _ ih => bcase (Nat.blt e.2.2 n) true ih) l
noncomputable def anyNil (seen : List Nat) (es : List Ent) : Bool := lcase seen true fun _ _ => lcase es true fun _ _ => false
noncomputable def falseT : V := .tuple [.bool false]

/-- a step of a range over a map that has no choice: no entry is left, or one, that was there ahead. -/
noncomputable def nextMap (st : St) (b m since : Nat) (seen : List Nat) (last : Nat) : Option (V × St) :=
  atMap st m fun clock es => gd (bcase (anyNil seen es) true (anyBelow last es))
    (lcase (unseen seen es) (some (falseT, st)) fun e l => lcase l
      (gd (Nat.blt e.2.2 since) (ob (putBlk st b (.iter (some m) since (seen ++ [e.2.2]) clock)) fun st => some (.tuple [.bool true, e.1, e.2.1], st)))
      fun _ _ => none)
noncomputable def nextStr (st : St) (b : Nat) (s : List UInt8) (pos : Nat) : Option (V × St) :=
  lcase s (some (falseT, st)) fun c s => gd (Nat.blt c.toNat 128) (ob (putBlk st b (.striter s (Nat.succ pos))) fun st =>
    some (.tuple [.bool true, .int .i64 (.ofNat pos), .int .i32 (.ofNat c.toNat)], st))
noncomputable def nextB (isS : Bool) (st : St) (b : Nat) (k : Blk) : Option (V × St) :=
  match k with
  | .iter m since seen last => bcase isS none (ocase m (some (falseT, st)) fun m => nextMap st b m since seen last)
  | .striter s pos => gd isS (nextStr st b s pos)
  | _ => none

noncomputable def llast (l : List Nat) : Option Nat := lrec none (fun a _ ih => ocase ih (some a) some) l
noncomputable def mborn (n : Nat) (l : List Ent) : Option (V × V) := lrec none (fun e _ ih => bcase (Nat.beq e.2.2 n) (some (e.1, e.2.1)) ih) l
noncomputable def entryB (st : St) (k : Blk) : Option (V × St) :=
  match k with
  | .iter m _ seen last => ob m fun m => ob (llast seen) fun n => atMap st m fun clock es => gd (Nat.beq clock last) (ob2 (mborn n es) fun k v => some (.tuple [k, v], st))
  | _ => none

noncomputable def valOf (z : List V) (r : Row) : V := bcase r.agg (.agg z) (lcase z (.agg z) fun v _ => v)
noncomputable def zeroV (r : Row) : V := valOf r.zero r

noncomputable def max2A (v w : V) : Option V :=
  match v with
  | .int k a => intK w fun b => some (.int k (bcase (ilt a b) b a))
  | _ => none
noncomputable def min2A (v w : V) : Option V :=
  match v with
  | .int k a => intK w fun b => some (.int k (bcase (ilt b a) b a))
  | _ => none
noncomputable def foldA (f : V → V → Option V) (l : List V) : V → Option V := lrec (fun v => some v) (fun w _ ih v => ob (f v w) ih) l
noncomputable def fold1A (f : V → V → Option V) (l : List V) : Option V := lcase l none fun v l => foldA f l v

/-! Operations. -/
noncomputable def opd (fr : T V) (o : Operand) : Option V :=
  match o with
  | .tmp t => fr.get t
  | .const v => ofVal v
  | .global g => gd (Nat.blt g 256) (some (.ptr g 0))
  | .func f => some (.func (.func f) [] [])
noncomputable def opds (fr : T V) (l : List Operand) : Option (List V) := mapO (opd fr) l
noncomputable def opdO (fr : T V) (o : Option Operand) : Option (Option V) := ocase o (some none) fun o => ob (opd fr o) fun v => some (some v)
noncomputable def partsA (fr : T V) (l : List (Nat × Operand)) : Option (List (Nat × V)) := mapO (fun p => ob (opd fr p.2) fun v => some (p.1, v)) l

inductive Ex where
  | normal
  | exit (id : Nat)
  | goto (l : Nat)
  | ret

abbrev CallF := Fn → List V → St → Option (V × St)
abbrev Res := Option (V × St)

noncomputable def ret (st : St) (v : V) : Res := some (v, st)
noncomputable def unitV : V := .tuple []
noncomputable def done (st : St) : Res := some (.tuple [], st)

def isSlV (x : V) : Bool :=
  match x with
  | .sl .. => true
  | .slE => true
  | .nilsl => true
  | _ => false
def strK (x : V) : Option (List UInt8) :=
  match x with
  | .str s => some s
  | _ => none
noncomputable def lenA (tb : Tab) (t : TypeId) (d : TypeDesc) (st : St) (x : V) : Res :=
  match d with
  | .map _ _ => getMap st x fun _ es => some (.int .i64 (.ofNat (llen es 0)), st)
  | .slice _ => gd (isSlV x) (ob (lenV x) fun n => some (.int .i64 (.ofNat n), st))
  | .string => ob (strK x) fun s => some (.int .i64 (.ofNat (llen s 0)), st)
  | _ => ob2 (arrElem' tb t) fun n _ => some (.int .i64 (.ofNat n), st)
noncomputable def capA (st : St) (x : V) : Res :=
  match x with
  | .sl _ _ _ c exact _ => gd exact (some (.int .i64 (.ofNat c), st))
  | .nilsl => some (.int .i64 0, st)
  | _ => none
noncomputable def appendZ (re : Row) (st : St) (s : V) (n : Nat) : Res := gd (roomy re n) (appendN re st s n (lrep n re.zero))
noncomputable def nat64 (v : V) : Option Nat :=
  match v with
  | .int k n => match k with
    | .i64 => icase n some fun _ => none
    | _ => none
  | _ => none
noncomputable def appendB (tb : Tab) (ts : List TypeId) (re : Row) (st : St) (s x : V) : Res :=
  ob (lget ts 1) fun t => ob (row tb t) fun r => bcase (isIntD r.desc) (ob (nat64 x) (appendZ re st s)) (appendA re st s x)
noncomputable def clearA (re : Row) (st : St) (x : V) : Res :=
  match x with
  | .nilsl => done st
  | .slE => done st
  | .sl b off len _ _ _ => ob (writeCs st b off (lrep len re.zero)) done
  | _ => none
noncomputable def deleteA (st : St) (m k : V) : Res :=
  match m with
  | .nilmap => done st
  | .map b => ob (st.heap.get b) fun bk => ob (delBlk bk k) fun bk => ob (putBlk st b bk) done
  | _ => none
/-- of a map whose keys are numbers or texts: what its keys are, and the row of its elements. -/
noncomputable def mapElem (tb : Tab) (t : TypeId) : Option (TypeDesc × Row) :=
  ob (row tb t) fun r => ob2 (elemMap r.desc) fun k e => ob (row tb k) fun rk => ob (row tb e) fun re => some (rk.desc, re)
/-- is a key of that kind? -/
noncomputable def keyOK (d : TypeDesc) (k : V) : Bool :=
  match d with
  | .int _ => match k with
    | .int _ _ => true
    | _ => false
  | .string => match k with
    | .str _ => true
    | _ => false
  | _ => false
noncomputable def arg1 {β : Type} (l : List V) (f : V → Option β) : Option β := lcase l none fun x l => lcase l (f x) fun _ _ => none
noncomputable def arg2 {β : Type} (l : List V) (f : V → V → Option β) : Option β := lcase l none fun x l => lcase l none fun y l => lcase l (f x y) fun _ _ => none
noncomputable def t1 {β : Type} (tb : Tab) (ts : List TypeId) (f : Row → Option β) : Option β := lcase ts none fun t _ => ob (slElem tb t) f

noncomputable def builtinA (tb : Tab) (b : Builtin) (ts : List TypeId) (args : List V) (st : St) : Res :=
  match b with
  | .len => arg1 args fun x => ob (lget ts 0) fun t => ob (row tb t) fun r => lenA tb t r.desc st x
  | .cap => arg1 args fun x => ob (lget ts 0) fun t => ob (row tb t) fun r => ob (elemSl r.desc) fun _ => capA st x
  | .append => arg2 args fun s x => t1 tb ts fun re => appendB tb ts re st s x
  | .copy => arg2 args fun d x => t1 tb ts fun re => copyA re.size st d x
  | .delete => arg2 args fun m k => ob (lget ts 0) fun t => ob2 (mapElem tb t) fun d _ => gd (keyOK d k) (deleteA st m k)
  | .max => ob (fold1A max2A args) (ret st)
  | .min => ob (fold1A min2A args) (ret st)
  | .clear => arg1 args fun x => t1 tb ts fun re => clearA re st x
  | _ => none

section
variable (tb : Tab) (fr : T V) (st : St)

noncomputable def oPick (c a b : Operand) : Res := ob (opd fr c) fun v => match v with
  | .bool x => bcase x (ob (opd fr a) (ret st)) (ob (opd fr b) (ret st))
  | _ => none
noncomputable def oAlloc (e : TypeId) : Res := ob (row tb e) fun r => ob2 (newCells st r.zero) fun b st => some (.ptr b 0, st)
noncomputable def oBox (x : Operand) : Res := ob (opd fr x) fun v => ob (cellsO v) fun l => ob2 (newCells st l) fun b st => some (.ptr b 0, st)
noncomputable def placesF (fs : List Field) : Option (List (Nat × Nat)) := mapO (fun f : Field => ob (row tb f.type) fun rf => some (f.offset, rf.size)) fs
noncomputable def buildA (r : Row) (ps : List (Nat × V)) : Option (List V) :=
  match r.desc with
  | .struct fs => ob (placesF tb fs.toList) fun pl => fillA (lget pl) ps r.zero
  | .array _ e => ob (row tb e) fun re => fillA (fun i => some (Nat.mul i re.size, re.size)) ps r.zero
  | _ => none
noncomputable def oBuild (t : TypeId) (parts : List (Nat × Operand)) : Res :=
  ob (row tb t) fun r => ob (partsA fr parts) fun ps => ob (buildA tb r ps) fun l => some (.agg l, st)
noncomputable def oBuildSlice (t : TypeId) (len : Nat) (parts : List (Nat × Operand)) : Res :=
  ob (slElem tb t) fun re => gd (Nat.ble (Nat.mul len re.size) 16777216) (ob (partsA fr parts) fun ps => ob (fillA (fun i => some (Nat.mul i re.size, re.size)) ps (lrep len re.zero)) fun l =>
    ob2 (newCells st l) fun b st => some (.sl b 0 len len true re.size, st))
noncomputable def oLoad (t : TypeId) (a : Operand) : Res := ob (row tb t) fun r => ob (opd fr a) fun v => ob (loadA r st v) (ret st)
noncomputable def oStore (t : TypeId) (a x : Operand) : Res := ob (row tb t) fun r => ob (opd fr a) fun v => ob (opd fr x) fun u => ob (storeA r st v u) done
noncomputable def nilChk (st : St) (v : V) : Res :=
  match v with
  | .ptr b off => some (.ptr b off, st)
  | .func fn a c => match fn with
    | .method _ => none
    | fn => some (.func fn a c, st)
  | _ => none
noncomputable def oBin (t : TypeId) (op : BinOp) (x y : Operand) : Res :=
  ob (opd fr x) fun a => ob (opd fr y) fun b => ob (binOpA (ob (row tb t) fun r => some r.desc) op a b) (ret st)
noncomputable def oUn (op : UnOp) (x : Operand) : Res := ob (opd fr x) fun a => ob (unOpA op a) (ret st)
noncomputable def convSlice (s d e : TypeId) (v : V) : Res :=
  ob (row tb e) fun re => gd (isByte re.desc) (match v with
  | .str l => ob2 (newCells st (bytesV l)) fun b st => some (.sl b 0 (llen l 0) (llen l 0) false 1, st)
  | .sl b off len cap ex sz => gd (Nat.beq s d) (atCells st b fun _ _ ro => bcase ro none (some (.sl b off len cap ex sz, st)))
  | _ => none)
noncomputable def convBytes (v : V) : Res :=
  match v with
  | .nilsl => some (.str [], st)
  | .slE => some (.str [], st)
  | .sl b off len _ _ _ => ob (readCs st b off len) fun l => ob (toBytes l) fun s => some (.str s, st)
  | _ => none
noncomputable def convString (ds : TypeDesc) (v : V) : Res :=
  match v with
  | .str l => some (.str l, st)
  | v => ob (elemSl ds) fun e => ob (row tb e) fun re => gd (isByte re.desc) (convBytes st v)
noncomputable def convA (s d : TypeId) (ds dd : TypeDesc) (v : V) : Res :=
  match dd with
  | .int k => intK v fun n => some (.int k (wrap k n), st)
  | .slice e => convSlice tb st s d e v
  | .string => convString tb st ds v
  | _ => none
noncomputable def oConv (s d : TypeId) (x : Operand) : Res := ob (row tb s) fun rs => ob (row tb d) fun rd => ob (opd fr x) fun v => convA tb st s d rs.desc rd.desc v
noncomputable def oIface (t : TypeId) (x : Operand) : Res := ob (row tb t) fun r => bcase (isIfaceD r.desc) none (ob (opd fr x) fun v => some (.iface t v, st))
noncomputable def noYield (fn : Fn) : Bool :=
  match fn with
  | .yield _ => false
  | _ => true
noncomputable def oFunc (fn : Fn) (first cap : List Operand) : Res := gd (noYield fn) (ob (opds fr first) fun a => ob (opds fr cap) fun b => some (.func fn a b, st))
noncomputable def oMakeMap (t : TypeId) (r : Option Operand) : Res := ob (ocase r (some ()) fun x => ob (row tb t) fun rm => ob (elemMap rm.desc) fun _ => ob (opd fr x) fun v => ob (natOf v) fun _ => some ()) fun _ => ob2 (newBlk st (.map 0 [])) fun b st => some (.map b, st)
noncomputable def oMakeSlice (t : TypeId) (l c : Operand) : Res :=
  ob (slElem tb t) fun re => ob (opd fr l) fun lv => ob (opd fr c) fun cv => ob (natOf lv) fun n => ob (natOf cv) fun m => gd (Nat.ble n m) (gd (Nat.ble (Nat.mul m re.bytes) 281474976710656) (gd (Nat.ble m 4611686018427387904)
    (ob2 (newCells st (lrep m re.zero)) fun b st => some (.sl b 0 n m true re.size, st))))
noncomputable def mxOK (hi mx : Option Operand) : Bool := ocase mx true fun _ => ocase hi false fun _ => true
noncomputable def oSlice (t : TypeId) (x : Operand) (lo hi mx : Option Operand) : Res :=
  gd (mxOK hi mx) (ob (opd fr x) fun v => ob (opdO fr lo) fun a => ob (opdO fr hi) fun b => ob (opdO fr mx) fun c => ob (sliceA tb st t v a b c) (ret st))
noncomputable def fieldRow (t : TypeId) (f : Nat) : Option (Field × Row) :=
  ob (row tb t) fun r => ob (fieldsOf r.desc) fun fs => ob (lget fs f) fun fd => ob (row tb fd.type) fun rf => some (fd, rf)
noncomputable def oFieldAddr (t : TypeId) (x : Operand) (f : Nat) : Res :=
  ob2 (fieldRow tb t f) fun fd rf => ncase rf.size none fun _ => ob (opd fr x) fun v => ptrK v fun b off => some (.ptr b (Nat.add off fd.offset), st)
noncomputable def aggK {β : Type} (v : V) (f : List V → Option β) : Option β :=
  match v with
  | .agg c => f c
  | _ => none
noncomputable def oField (t : TypeId) (x : Operand) (f : Nat) : Res :=
  ob2 (fieldRow tb t f) fun fd rf => ob (opd fr x) fun v => aggK v fun cs => ob (partA rf cs fd.offset) (ret st)
noncomputable def indexAddrA (t : TypeId) (i : Nat) (v : V) : Res :=
  match v with
  | .sl b off len _ _ _ => ob (slElem tb t) fun re => gd (Nat.blt i len) (some (.ptr b (Nat.add off (Nat.mul i re.size)), st))
  | .ptr b off => ob2 (arrElem tb t) fun n re => gd (Nat.blt i n) (some (.ptr b (Nat.add off (Nat.mul i re.size)), st))
  | _ => none
noncomputable def oIndexAddr (t : TypeId) (x ix : Operand) : Res := ob (opd fr x) fun v => ob (opd fr ix) fun iv => ob (natOf iv) fun i => indexAddrA tb st t i v
noncomputable def indexA (t : TypeId) (i : Nat) (v : V) : Res :=
  match v with
  | .str s => ob (row tb t) fun r => gd (isStrD r.desc) (ob (lget s i) fun b => some (.int .u8 (.ofNat b.toNat), st))
  | .agg cs => ob2 (arrElem tb t) fun n re => gd (Nat.blt i n) (ob (partA re cs (Nat.mul i re.size)) (ret st))
  | _ => none
noncomputable def oIndex (t : TypeId) (x ix : Operand) : Res := ob (opd fr x) fun v => ob (opd fr ix) fun iv => ob (natOf iv) fun i => indexA tb st t i v
noncomputable def withOk (ok : Bool) (v : V) (b : Bool) : V := bcase ok (.tuple [v, .bool b]) v
noncomputable def oLookup (t : TypeId) (x ix : Operand) (ok : Bool) : Res :=
  ob2 (mapElem tb t) fun d re => ob (opd fr x) fun m => ob (opd fr ix) fun k => gd (keyOK d k) <|
    getMap st m fun _ es => ob (mfind k es) fun f => ocase f (some (withOk ok (zeroV re) false, st)) fun p => some (withOk ok p.1 true, st)
noncomputable def mapK {β : Type} (v : V) (f : Nat → Option β) : Option β :=
  match v with
  | .map b => f b
  | _ => none
noncomputable def oMapUpdate (t : TypeId) (m k x : Operand) : Res :=
  ob2 (mapElem tb t) fun d _ => ob (opd fr m) fun mv => ob (opd fr k) fun kv => gd (keyOK d kv) <| ob (opd fr x) fun xv => mapK mv fun b => ob (st.heap.get b) fun bk =>
    ob (upBlk bk kv xv) fun bk => ob (putBlk st b bk) done
noncomputable def oMapEntry (t : TypeId) (m k : Operand) : Res :=
  ob2 (mapElem tb t) fun d re => ob (opd fr m) fun mv => ob (opd fr k) fun kv => gd (keyOK d kv) <| mapK mv fun b => atMap st b fun c es =>
    ob (mfind kv es) fun f => ocase f
      (ob2 (mset kv (zeroV re) c es) fun c' es => ob (putBlk st b (.map c' es)) fun st => some (.tuple [zeroV re, .int .i64 (.ofNat c)], st))
      fun p => some (.tuple [p.1, .int .i64 (.ofNat p.2)], st)
noncomputable def oEntryStore (m s x : Operand) : Res :=
  ob (opd fr m) fun mv => ob (opd fr s) fun sv => ob (opd fr x) fun xv => ob (natOf sv) fun n => mapK mv fun b => atMap st b fun c es =>
    ob (mstamp n xv es) fun es => ob (putBlk st b (.map c es)) done
noncomputable def rangeV (d : TypeDesc) (v : V) : Res :=
  match d with
  | .string => ob (strK v) fun s => ob2 (newBlk st (.striter s 0)) fun b st => some (.ptr b 0, st)
  | .map _ _ => match v with
    | .nilmap => ob2 (newBlk st (.iter none 0 [] 0)) fun b st => some (.ptr b 0, st)
    | .map m => atMap st m fun c _ => ob2 (newBlk st (.iter (some m) c [] c)) fun b st => some (.ptr b 0, st)
    | _ => none
  | _ => none
noncomputable def oNext (it : Operand) (isS : Bool) : Res := ob (opd fr it) fun v => ptrK v fun b off => ncase off (ob (st.heap.get b) (nextB isS st b)) fun _ => none
noncomputable def oEntry (it : Operand) : Res := ob (opd fr it) fun v => ptrK v fun b off => ncase off (ob (st.heap.get b) (entryB st)) fun _ => none
noncomputable def oExtract (t : Operand) (i : Nat) : Res := ob (opd fr t) fun v => match v with
  | .tuple l => ob (lget l i) (ret st)
  | _ => none
noncomputable def callV (call : CallF) (args : List V) (v : V) : Res :=
  match v with
  | .func fn first cap => match fn with
    | .func f => call (.func f) (app first (app args cap)) st
    | .yield l => lcase cap (call (.yield l) (app first args) st) fun _ _ => none
    | _ => none
  | _ => none
noncomputable def oCall (call : CallF) (c : Call) : Res :=
  ob (opds fr c.args.toList) fun args => match c.callee with
    | .builtin b => builtinA tb b c.argTypes.toList args st
    | .value f => ob (opd fr f) (callV st call args)
    | .invoke _ _ => none
end

noncomputable def opA (tb : Tab) (call : CallF) (o : Op) (fr : T V) (st : St) : Res :=
  match o with
  | .move x => ob (opd fr x) (ret st)
  | .assign x => ob (opd fr x) (ret st)
  | .pick c a b => oPick fr st c a b
  | .alloc e => oAlloc tb st e
  | .box _ x => oBox fr st x
  | .build t parts => oBuild tb fr st t parts.toList
  | .buildSlice t len parts => oBuildSlice tb fr st t len parts.toList
  | .load t a => oLoad tb fr st t a
  | .store t a x => oStore tb fr st t a x
  | .nilCheck x => ob (opd fr x) (nilChk st)
  | .binOp op t x y _ => oBin tb fr st t op x y
  | .unOp op _ x => oUn fr st op x
  | .convert s d x => oConv tb fr st s d x
  | .makeInterface t x => oIface tb fr st t x
  | .makeFunc fn first cap => oFunc fr st fn first.toList cap.toList
  | .makeMap t r => oMakeMap tb fr st t r
  | .makeSlice t l c => oMakeSlice tb fr st t l c
  | .slice t x lo hi mx => oSlice tb fr st t x lo hi mx
  | .fieldAddr t x f => oFieldAddr tb fr st t x f
  | .field t x f => oField tb fr st t x f
  | .indexAddr t x ix => oIndexAddr tb fr st t x ix
  | .index t x ix => oIndex tb fr st t x ix
  | .lookup t x ix ok => oLookup tb fr st t x ix ok
  | .mapUpdate t m k x => oMapUpdate tb fr st t m k x
  | .insert t m k x => oMapUpdate tb fr st t m k x
  | .mapEntry t m k => oMapEntry tb fr st t m k
  | .entryStore _ m s x => oEntryStore fr st m s x
  | .range t x => ob (row tb t) fun r => ob (opd fr x) (rangeV st r.desc)
  | .next it isS => oNext fr st it isS
  | .entry it => oEntry fr st it
  | .extract t i => oExtract fr st t i
  | .call c => oCall tb fr st call c
  | _ => none

/-- what an operation of the region gave: was it the bool? -/
noncomputable def yieldB (v : V) (want : Bool) : Bool :=
  match v with
  | .bool b => beqb b want
  | _ => false
noncomputable def wantedA (ops : List Oper) (o : Oper) (fr : T V) : Option Bool :=
  ocase o.guard (some true) fun g => ob (lget ops g.1) fun q => ob q.dst fun d => ob (fr.get d) fun v => some (yieldB v g.2)

noncomputable def putT (fr : T V) (d : Option Tmp) (v : V) : T V := ocase d fr fun t => fr.put t v

noncomputable def stepA (tb : Tab) (call : CallF) (all : List Oper) (o : Oper) (fr : T V) (st : St) : Res :=
  ob (wantedA all o fr) fun w => bcase w (opA tb call o.op fr st) (some (unitV, st))

noncomputable def opsA (tb : Tab) (call : CallF) (all l : List Oper) : T V → St → Option (T V × St) :=
  lrec (fun fr st => some (fr, st)) (fun o _ ih fr st => ob2 (stepA tb call all o fr st) fun v st => (putT fr o.dst v).force fun fr => ih fr st) l

/-! Regions whose order is open. -/
noncomputable def vlist (f : V → V → Bool) (a : List V) : List V → Bool :=
  lrec (fun b => lcase b true fun _ _ => false) (fun x _ ih b => lcase b false fun y b => bcase (f x y) (ih b) false) a
noncomputable def oeq (a b : Option Nat) : Bool := ocase a (ocase b true fun _ => false) fun x => ocase b false fun y => Nat.beq x y
/-- are two values surely the same? (of one cell) -/
noncomputable def veq1 (a b : V) : Bool :=
  match a with
  | .bool x => match b with
    | .bool y => beqb x y
    | _ => false
  | .int k x => match b with
    | .int j y => bcase (keq k j) (ieq x y) false
    | _ => false
  | .str x => match b with
    | .str y => leqB x y
    | _ => false
  | .ptr x o => match b with
    | .ptr y p => bcase (Nat.beq x y) (Nat.beq o p) false
    | _ => false
  | .nilptr => match b with
    | .nilptr => true
    | _ => false
  | .sl x o l c e z => match b with
    | .sl y p m d f w => bcase (Nat.beq x y) (bcase (Nat.beq o p) (bcase (Nat.beq l m) (bcase (Nat.beq c d) (bcase (beqb e f) (Nat.beq z w) false) false) false) false) false
    | _ => false
  | .slE => match b with
    | .slE => true
    | _ => false
  | .nilsl => match b with
    | .nilsl => true
    | _ => false
  | .map x => match b with
    | .map y => Nat.beq x y
    | _ => false
  | .nilmap => match b with
    | .nilmap => true
    | _ => false
  | .nilFunc => match b with
    | .nilFunc => true
    | _ => false
  | .nilIface => match b with
    | .nilIface => true
    | _ => false
  | _ => false
noncomputable def veq (a b : V) : Bool :=
  match a with
  | .agg x => match b with
    | .agg y => vlist veq1 x y
    | _ => false
  | .tuple x => match b with
    | .tuple y => vlist veq1 x y
    | _ => false
  | a => veq1 a b

/-- does an operation leave memory alone, and give the same wherever it stands, if it doesn't read it? 0: it acts; 1: it reads; 2: neither. -/
noncomputable def sortOf (tb : Tab) (o : Op) : Nat :=
  match o with
  | .move _ => 2
  | .assign _ => 2
  | .pick .. => 2
  | .build .. => 2
  | .nilCheck _ => 2
  | .binOp .. => 2
  | .unOp .. => 2
  | .makeInterface .. => 2
  | .makeFunc .. => 2
  | .slice .. => 1
  | .fieldAddr .. => 2
  | .field .. => 2
  | .indexAddr .. => 2
  | .index .. => 2
  | .extract .. => 2
  | .load .. => 1
  | .lookup .. => 1
  | .convert _ d _ => ocase (row tb d) 0 fun r => ocase (elemSl r.desc) 1 fun _ => 0
  | .call c => match c.callee with
    | .builtin b => match b with
      | .len => 1
      | .cap => 1
      | .max => 1
      | .min => 1
      | _ => 0
    | _ => 0
  | _ => 0

noncomputable def tmpOf (o : Operand) : Option Nat :=
  match o with
  | .tmp t => some t
  | _ => none
noncomputable def omap {α β : Type} (f : α → Option β) (l : List α) : List β := lrec [] (fun x _ ih => ocase (f x) ih fun y => y :: ih) l
noncomputable def guardT (all : List Oper) (o : Oper) : Option Nat := ob o.guard fun g => ob (lget all g.1) fun q => q.dst
noncomputable def looks (all : List Oper) (o : Oper) : List Nat := ocase (guardT all o) (omap tmpOf o.op.operands.toList) fun t => t :: omap tmpOf o.op.operands.toList
def anyEdge (g : Ground) : Bool :=
  match g with
  | .textOnly _ => false
  | .gcOnly _ => false
  | _ => true
noncomputable def bit (m j : Nat) : Bool := Nat.beq (Nat.mod (Nat.shiftRight m j) 2) 1
noncomputable def addEdge (ms : T Nat) (e : Edge) (m : Nat) : Nat := bcase (anyEdge e.ground) (Nat.lor (Nat.lor m (Nat.shiftLeft 1 e.on)) (ocase (ms.get e.on) 0 fun x => x)) m
noncomputable def edges (ms : T Nat) (l : List Edge) : Nat := lrec 0 (fun e _ ih => addEdge ms e ih) l
/-- of each operation those that are sure to come ahead of it. -/
noncomputable def masks (l : List Oper) : Nat → T Nat → T Nat := lrec (fun _ t => t) (fun o _ ih i t => ih (Nat.succ i) (t.put i (edges t o.after.toList))) l

/-- of an operation and one that stands ahead of it in the text: do they agree on the temporaries? -/
noncomputable def agreeT (all : List Oper) (o q : Oper) : Bool :=
  bcase (ocase q.dst true fun t => bnot (bcase (memN t (looks all o)) true (ocase o.dst false fun u => Nat.beq u t)))
    (ocase o.dst true fun t => bnot (memN t (looks all q))) false
/-- each of those ahead is sure to come ahead, or agrees. -/
noncomputable def agreeAll (all : List Oper) (o : Oper) (m : Nat) (l : List Oper) : Nat → Bool :=
  lrec (fun _ => true) (fun q _ ih j => bcase (bcase (bit m j) true (agreeT all o q)) (ih (Nat.succ j)) false) l
/-- those that act, one behind the other. -/
noncomputable def chainE (ms : T Nat) (es : List Nat) : Bool :=
  lrec true (fun a l ih => lcase l true fun b _ => bcase (bit (ocase (ms.get b) 0 fun x => x) a) ih false) es
noncomputable def countB (m : Nat) (es : List Nat) : Nat := lrec 0 (fun e _ ih => bcase (bit m e) (Nat.succ ih) ih) es
/-- how many of those that act may stand ahead of one. -/
noncomputable def countH (ms : T Nat) (i : Nat) (es : List Nat) : Nat := lrec 0 (fun e _ ih => bcase (bit (ocase (ms.get e) 0 fun x => x) i) ih (Nat.succ ih)) es

structure PIt where
  o : Oper
  act : Bool
  reads : Bool
  lo : Nat
  hi : Nat

noncomputable def actors (tb : Tab) (l : List Oper) : Nat → List Nat :=
  lrec (fun _ => []) (fun o _ ih i => bcase (Nat.beq (sortOf tb o.op) 0) (i :: ih (Nat.succ i)) (ih (Nat.succ i))) l
noncomputable def planItem (tb : Tab) (ms : T Nat) (es : List Nat) (o : Oper) (i : Nat) : PIt :=
  ⟨o, Nat.beq (sortOf tb o.op) 0, Nat.beq (sortOf tb o.op) 1, countB (ocase (ms.get i) 0 fun x => x) es, countH ms i es⟩
noncomputable def plan (tb : Tab) (ms : T Nat) (es : List Nat) (l : List Oper) : Nat → List PIt :=
  lrec (fun _ => []) (fun o _ ih i => planItem tb ms es o i :: ih (Nat.succ i)) l
noncomputable def allAgree (all : List Oper) (ms : T Nat) (l : List Oper) : Nat → Bool :=
  lrec (fun _ => true) (fun o _ ih i => bcase (agreeAll all o (ocase (ms.get i) 0 fun x => x) (ocase (ltake i all) [] fun x => x) 0) (ih (Nat.succ i)) false) l
/-- do all edges lead back? -/
noncomputable def backE (i : Nat) (l : List Edge) : Bool := lrec true (fun e _ ih => bcase (bcase (anyEdge e.ground) (Nat.blt e.on i) true) ih false) l
noncomputable def backs (l : List Oper) : Nat → Bool := lrec (fun _ => true) (fun o _ ih i => bcase (backE i o.after.toList) (ih (Nat.succ i)) false) l
noncomputable def planOf (tb : Tab) (all : List Oper) : Option (List PIt) :=
  gd (backs all 0) <| gd (chainE (masks all 0 .nil) (actors tb all 0)) (gd (allAgree all (masks all 0 .nil) all 0) (some (plan tb (masks all 0 .nil) (actors tb all 0) all 0)))

/-! Regions in which what is made anew stands beside what acts. -/
noncomputable def freshOp : Op → Bool
  | .alloc _ => true
  | .makeSlice .. => true
  | .buildSlice .. => true
  | _ => false
noncomputable def isFresh (o : Oper) : Bool := ocase o.guard (ocase o.dst false fun _ => freshOp o.op) fun _ => false
noncomputable def freshAt (all : List Oper) (e : Nat) : Bool := ocase (lget all e) false isFresh
noncomputable def dstOf (all : List Oper) (e : Nat) : Option Tmp := ob (lget all e) fun o => o.dst
noncomputable def looksAt (all : List Oper) (o : Oper) (e : Nat) : Bool := ocase (dstOf all e) false fun t => memN t (looks all o)
noncomputable def allBits (m : Nat) (es : List Nat) : Bool := lrec true (fun e _ ih => bcase (bit m e) ih false) es
/-- what acts has all that stands ahead of it sure ahead. -/
noncomputable def chainB (all : List Oper) (ms : T Nat) (es : List Nat) : List Nat → Bool :=
  lrec (fun _ => true) (fun b _ ih pre => bcase (bcase (freshAt all b) true (allBits (ocase (ms.get b) 0 fun x => x) pre)) (ih (b :: pre)) false) es
/-- who looks at what is made anew has all sure ahead that stands ahead of that; nobody else writes there. -/
noncomputable def userB (all : List Oper) (m : Nat) (o : Oper) (i : Nat) (es : List Nat) : List Nat → Bool :=
  lrec (fun _ => true) (fun e _ ih pre => bcase (bcase (freshAt all e) (bcase (bcase (looksAt all o e) (bcase (Nat.blt e i) (allBits m pre) false) true) (bcase (Nat.beq e i) true (bnot (ocase (dstOf all e) false fun t => ocase o.dst false fun u => Nat.beq u t))) false) true) (ih (e :: pre)) false) es
noncomputable def usersB (all : List Oper) (ms : T Nat) (es : List Nat) (l : List Oper) : Nat → Bool :=
  lrec (fun _ => true) (fun o _ ih i => bcase (userB all (ocase (ms.get i) 0 fun x => x) o i es []) (ih (Nat.succ i)) false) l
noncomputable def loB (all : List Oper) (m : Nat) (o : Oper) (es : List Nat) : Nat → Nat → Nat :=
  lrec (fun _ acc => acc) (fun e _ ih p acc => ih (Nat.succ p) (bcase (bcase (freshAt all e) (looksAt all o e) (bit m e)) (Nat.succ p) acc)) es
noncomputable def hiB (all : List Oper) (ms : T Nat) (i : Nat) (es : List Nat) : Nat → Nat :=
  lrec (fun p => p) (fun e _ ih p => bcase (bcase (freshAt all e) false (bit (ocase (ms.get e) 0 fun x => x) i)) p (ih (Nat.succ p))) es
noncomputable def planItemB (tb : Tab) (all : List Oper) (ms : T Nat) (es : List Nat) (o : Oper) (i : Nat) : PIt :=
  ⟨o, Nat.beq (sortOf tb o.op) 0, Nat.beq (sortOf tb o.op) 1, loB all (ocase (ms.get i) 0 fun x => x) o es 0 0, hiB all ms i es 0⟩
noncomputable def planLB (tb : Tab) (all : List Oper) (ms : T Nat) (es : List Nat) (l : List Oper) : Nat → List PIt :=
  lrec (fun _ => []) (fun o _ ih i => planItemB tb all ms es o i :: ih (Nat.succ i)) l
noncomputable def planB (tb : Tab) (all : List Oper) : Option (List PIt) :=
  gd (backs all 0) <| gd (allAgree all (masks all 0 .nil) all 0) <| gd (chainB all (masks all 0 .nil) (actors tb all 0) []) <| gd (usersB all (masks all 0 .nil) (actors tb all 0) all 0)
    (some (planLB tb all (masks all 0 .nil) (actors tb all 0) all 0))

/-! Regions that hold a map's literal, whose entries come in an order that is open. -/
def isMM (o : Op) : Bool :=
  match o with
  | .makeMap _ none => true
  | _ => false
/-- an entry of the literal at a temporary: its map's type, its key, its value. -/
noncomputable def insAt (t : Tmp) (o : Op) : Option (TypeId × Operand × Operand) :=
  match o with
  | .insert ty (.tmp m) k x => bcase (Nat.beq m t) (some (ty, k, x)) none
  | _ => none
noncomputable def mmAt (o : Oper) : Option Tmp := ocase o.guard (bcase (isMM o.op) o.dst none) fun _ => none
noncomputable def findMM (l : List Oper) : Nat → Option (Nat × Tmp) := lrec (fun _ => none) (fun o _ ih i => ocase (mmAt o) (ih (Nat.succ i)) fun t => some (i, t)) l
noncomputable def isIns (t : Tmp) (o : Oper) : Bool := ocase (insAt t o.op) false fun _ => true
/-- how far the literal reaches. -/
noncomputable def lastG (t : Tmp) (l : List Oper) : Nat → Nat → Nat := lrec (fun _ acc => acc) (fun o _ ih i acc => ih (Nat.succ i) (bcase (isIns t o) (Nat.succ i) acc)) l
noncomputable def inG (m : Nat) (t : Tmp) (i : Nat) (o : Oper) : Bool := bcase (Nat.beq i m) true (isIns t o)
def dumb (o : Oper) : Oper := { o with dst := none, op := .move (.const (.bool true)), guard := none }
noncomputable def dumbed (m : Nat) (t : Tmp) (l : List Oper) : Nat → List Oper := lrec (fun _ => []) (fun o _ ih i => bcase (inG m t i o) (dumb o) o :: ih (Nat.succ i)) l
noncomputable def gOf (all : List Oper) (m : Nat) (t : Tmp) (i : Nat) : Bool := ocase (lget all i) false fun o => inG m t i o
/-- what is asked of the operations up to the literal's end. -/
noncomputable def okG (hd : List Oper) (ms : T Nat) (m : Nat) (t : Tmp) (i : Nat) (o : Oper) : Bool :=
  bcase (Nat.beq i m) true
    (bcase (isIns t o)
      (bcase (ocase o.guard true fun _ => false) (bcase (ocase o.dst true fun _ => false) (bit (ocase (ms.get i) 0 fun x => x) m) false) false)
      (bcase (oeq o.dst (some t)) false (ocase o.guard true fun g => bnot (gOf hd m t g.1))))
noncomputable def okGs (all : List Oper) (ms : T Nat) (m : Nat) (t : Tmp) (l : List Oper) : Nat → Bool := lrec (fun _ => true) (fun o _ ih i => bcase (okG all ms m t i o) (ih (Nat.succ i)) false) l
/-- no later operation writes what an entry looks at. -/
noncomputable def writesNo (ts : List Nat) (l : List Oper) : Bool := lrec true (fun o _ ih => bcase (ocase o.dst false fun u => memN u ts) false ih) l
noncomputable def stays (all : List Oper) (t : Tmp) (l : List Oper) : Bool := lrec true (fun o l ih => bcase (bcase (isIns t o) (writesNo (looks all o) l) true) ih false) l
noncomputable def lowBits (m : Nat) (n : Nat) : Bool := nrec true (fun k ih => bcase (bit m k) ih false) n
/-- each of the rest has all ahead of it. -/
noncomputable def tailOK (ms : T Nat) (l : List Oper) : Nat → Bool := lrec (fun _ => true) (fun _ _ ih i => bcase (lowBits (ocase (ms.get i) 0 fun x => x) i) (ih (Nat.succ i)) false) l
noncomputable def entOf (tb : Tab) (t : Tmp) (fr : T V) (o : Oper) : Option (Option Ent) :=
  ocase (insAt t o.op) (some none) fun q => pcase q fun ty q => pcase q fun k x => ob2 (mapElem tb ty) fun d _ => ob (opd fr k) fun kv => gd (keyOK d kv) <| ob (opd fr x) fun xv => some (some (kv, xv, 0))
noncomputable def entsOf (tb : Tab) (t : Tmp) (fr : T V) (l : List Oper) : Option (List Ent) :=
  lrec (some []) (fun o _ ih => ob (entOf tb t fr o) fun e => ob ih fun es => some (ocase e es fun e => e :: es)) l

structure Seen where
  o : Oper
  fr : T V
  v : V
  lo : Nat
  hi : Nat

section
variable (tb : Tab) (call : CallF) (all : List Oper)
/-- in the order of the text; the states behind each that acts, and what was read. -/
noncomputable def runD (l : List PIt) : T V → St → List St → List Seen → Option (T V × St × List St × List Seen) :=
  lrec (fun fr st ss rs => some (fr, st, ss, rs)) (fun p _ ih fr st ss rs => ob2 (stepA tb call all p.o fr st) fun v st' =>
    bcase p.act (ih (putT fr p.o.dst v) st' (app ss [st']) rs)
      (bcase (bcase p.reads (Nat.blt p.lo p.hi) false) (ih (putT fr p.o.dst v) st ss (⟨p.o, fr, v, p.lo, p.hi⟩ :: rs)) (ih (putT fr p.o.dst v) st ss rs))) l
noncomputable def againAt (r : Seen) (st : St) : Bool := ocase (stepA tb call all r.o r.fr st) false fun p => veq p.1 r.v
noncomputable def againIn (r : Seen) (ss : List St) (n : Nat) : Nat → Bool :=
  nrec (fun _ => true) (fun _ ih k => ocase (lget ss k) false fun st => bcase (againAt tb call all r st) (ih (Nat.succ k)) false) n
noncomputable def againAll (ss : List St) (rs : List Seen) : Bool := lrec true (fun r _ ih => bcase (againIn tb call all r ss (Nat.succ (Nat.sub r.hi r.lo)) r.lo) ih false) rs
noncomputable def runP (ps : List PIt) (fr : T V) (st : St) : Option (T V × St) :=
  ob2 (runD tb call all ps fr st [st] []) fun fr q => pcase q fun st q => pcase q fun ss rs => gd (againAll tb call all ss rs) (some (fr, st))
noncomputable def drawC2 (m : Nat) (t : Tmp) (n : Nat) (hd tl : List Oper) (fr : T V) (st : St) : Option (T V × St) :=
  gd (Nat.blt m n) <| gd (backs all 0) <| gd (okGs hd (masks (dumbed m t hd 0) 0 .nil) m t hd 0) <| gd (allAgree hd (masks (dumbed m t hd 0) 0 .nil) hd 0) <| gd (stays hd t hd) <| gd (tailOK (masks all 0 .nil) tl n) <|
  ob (planOf tb (dumbed m t hd 0)) fun ps => ob2 (runP tb call (dumbed m t hd 0) ps (fr.del t) st) fun fr1 st1 =>
    ob (entsOf tb t fr1 hd) fun es => gd (apartK es) <| ob2 (newBlk st1 (.umap es)) fun b st2 => opsA tb call all tl (fr1.put t (.map b)) st2
noncomputable def drawC (fr : T V) (st : St) : Option (T V × St) :=
  ob2 (findMM all 0) fun m t => ob (ltake (lastG t all 0 (Nat.succ m)) all) fun hd => drawC2 tb call all m t (lastG t all 0 (Nat.succ m)) hd (ldrop (lastG t all 0 (Nat.succ m)) all) fr st
noncomputable def drawA (fr : T V) (st : St) : Option (T V × St) :=
  ocase (ocase (planOf tb all) (planB tb all) some) (drawC tb call all fr st) fun ps => runP tb call all ps fr st
end

abbrev CRes := Option (Ex × T V × St)
noncomputable def ob3 {β : Type} (o : CRes) (f : Ex → T V → St → Option β) : Option β := ob o fun p => pcase p fun e q => pcase q fun fr st => f e fr st
noncomputable def cret (e : Ex) (fr : T V) (st : St) : CRes := some (e, fr, st)

noncomputable def onNormal (k : T V → St → CRes) (e : Ex) (fr : T V) (st : St) : CRes :=
  match e with
  | .normal => k fr st
  | e => some (e, fr, st)
noncomputable def onExit (id : Nat) (e : Ex) (fr : T V) (st : St) : CRes :=
  match e with
  | .exit i => bcase (Nat.beq i id) (cret .normal fr st) (cret (.exit i) fr st)
  | e => some (e, fr, st)

abbrev CodeF := Code → T V → St → CRes
section
variable (tb : Tab) (call : CallF) (fn : Option FuncId) (ih : CodeF) (fr : T V) (st : St)
noncomputable def cRegion (ops : List Oper) (draw : Bool) : CRes := ob2 (bcase draw (drawA tb call ops fr st) (opsA tb call ops ops fr st)) (cret .normal)
noncomputable def cSeq (a b : Code) : CRes := ob3 (ih a fr st) (onNormal (ih b))
noncomputable def cCond (x : Operand) (a b : Code) : CRes := ob (opd fr x) fun v => match v with
  | .bool t => bcase t (ih a fr st) (ih b fr st)
  | _ => none
noncomputable def cBlock (id : Nat) (b : Code) : CRes := ob3 (ih b fr st) (onExit id)
noncomputable def cLoop (b : Code) : CRes := ob3 (ih b fr st) (onNormal (ih (.loop b)))
noncomputable def blkPend (k : Blk) : Option (Option Code) :=
  match k with
  | .loop _ _ _ _ _ p => some p
  | _ => none
noncomputable def cRange2 (l : Nat) (st : St) : CRes :=
  ob (st.heap.get l) fun k => ob (blkPend k) fun p => (st.heap.del l).force fun h => ocase p (cret .normal fr ⟨h, st.next⟩) fun c => ih c fr ⟨h, st.next⟩
noncomputable def cRangeFn (ps : List Tmp) (asg body : Code) (v : V) : CRes :=
  match v with
  | .func gf first cap => match gf with
    | .func f => ob (tb.funcs.get f) fun fd => ob fd.body fun _ => ob fn fun fn => ob2 (newBlk st (.loop fn fr ps asg body none)) fun l st =>
        ob2 (call (.func f) (app first (V.func (.yield l) [] [] :: cap)) st) fun _ st => cRange2 ih fr l st
    | _ => none
  | _ => none
end
noncomputable def codeStep (tb : Tab) (call : CallF) (fn : Option FuncId) (ih : CodeF) (c : Code) (fr : T V) (st : St) : CRes :=
  match c with
  | .skip => cret .normal fr st
  | .label _ => cret .normal fr st
  | .ret => cret .ret fr st
  | .exit id => cret (.exit id) fr st
  | .region _ ops draw => cRegion tb call fr st ops.toList draw
  | .seq a b => cSeq ih fr st a b
  | .cond x a b => cCond ih fr st x a b
  | .block id b => cBlock ih fr st id b
  | .loop b => cLoop ih fr st b
  | .rangeFunc g ps asg body => ob (opd fr g) (cRangeFn tb call fn ih fr st ps.toList asg body)
  | _ => none
noncomputable def codeA (tb : Tab) (call : CallF) (fn : Option FuncId) (f : Nat) : CodeF :=
  nrec (fun _ _ _ => none) (fun _ ih c fr st => codeStep tb call fn ih c fr st) f

noncomputable def putArgs (l : List V) : Nat → T V → T V := lrec (fun _ t => t) (fun v _ ih i t => (t.put i v).force fun t => ih (Nat.succ i) t) l

noncomputable def resV (tb : Tab) (fr : T V) (st : St) (r : ResultVar) : Option V :=
  match r with
  | .tmp t => fr.get t
  | .cell a t => ob (row tb t) fun r => ob (fr.get a) fun v => loadA r st v
noncomputable def one (st : St) (l : List V) : Res := lcase l (some (.tuple l, st)) fun v r => lcase r (some (v, st)) fun _ _ => some (.tuple l, st)
noncomputable def fin (tb : Tab) (fd : Func) (fr : T V) (st : St) : Res := ob (mapO (resV tb fr st) fd.results.toList) (one st)
noncomputable def onRet (tb : Tab) (fd : Func) (e : Ex) (fr : T V) (st : St) : Res :=
  match e with
  | .normal => fin tb fd fr st
  | .ret => fin tb fd fr st
  | _ => none

noncomputable def endPend (e : Ex) : Option (Option Code) :=
  match e with
  | .normal => some none
  | .exit i => some (some (.exit i))
  | .ret => some (some .ret)
  | .goto _ => none

noncomputable def putParams (ps : List Tmp) : List V → T V → Option (T V) :=
  lrec (fun vs t => lcase vs (some t) fun _ _ => none) (fun p _ ih vs t => lcase vs none fun v vs => (t.put p v).force fun t => ih vs t) ps

abbrev PrimF := CallF → FuncId → List V → St → Option Res
section
variable (tb : Tab) (prim : PrimF) (call : CallF) (args : List V) (st : St)
noncomputable def enterA (f : FuncId) : Res :=
  ob (tb.funcs.get f) fun fd => ob fd.body fun body => ob3 (codeA tb call (some f) 1000000 body (putArgs args 0 .nil) st) (onRet tb fd)
noncomputable def callFuncA (f : FuncId) : Res := ocase (prim call f args st) (enterA tb call args st f) fun r => r
noncomputable def yieldEnd (l : Nat) (f : FuncId) (tmps : T V) (ps : List Tmp) (asg body : Code) (e : Ex) (st : St) : Res :=
  ob (endPend e) fun pend => ob (putBlk st l (.loop f tmps ps asg body pend)) fun st => some (.bool (ocase pend true fun _ => false), st)
noncomputable def roundBody (body : Code) (e : Ex) (fr : T V) (st : St) (k : Ex → St → Res) : Res :=
  match e with
  | .normal => ob3 (codeA tb call none 1000000 body fr st) fun e _ st => k e st
  | _ => none
noncomputable def yieldA (l : Nat) (k : Blk) : Res :=
  match k with
  | .loop f tmps ps asg body pend => ocase pend (ob (putParams ps args tmps) fun fr => (st.heap.del l).force fun h =>
      ob3 (codeA tb call none 1000000 asg fr ⟨h, st.next⟩) fun e fr st => roundBody tb call body e fr st fun e st => yieldEnd l f tmps ps asg body e st) fun _ => none
  | _ => none
noncomputable def callStep (fn : Fn) : Res :=
  match fn with
  | .func f => callFuncA tb prim call args st f
  | .yield l => ob (st.heap.get l) (yieldA tb call args st l)
  | _ => none
end
noncomputable def callA (tb : Tab) (prim : PrimF) (d : Nat) : CallF :=
  nrec (fun _ _ _ => none) (fun _ ih fn args st => callStep tb prim ih args st fn) d

end Go.Ab
