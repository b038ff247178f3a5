import Derived.Orders
import Derived.Tactics
import Derived.Laws.Append
import Derived.Laws.AppendOwn
import Derived.Laws.StructEq
import Derived.WalkKit

section
/-
  A deterministic abstract machine over the model's own code: values without addresses, memory of numbered blocks, an append that grows a block in place.
  Definitions only; what they are worth is proved in the texts that import this one.
-/
namespace Go.V

/-! ### A map from numbers, as a binary tree -/
inductive T (α : Type) where
  | nil
  | node (l : T α) (v : Option α) (r : T α)

def T.get {α : Type} : T α → Nat → Option α
  | .nil, _ => none
  | .node l v r, n => bif Nat.beq n 0 then v else bif Nat.beq (n % 2) 1 then l.get (n / 2) else r.get (n / 2 - 1)

def T.set {α : Type} : Nat → T α → Nat → α → T α
  | 0, t, _, _ => t
  | f + 1, .nil, n, x => bif Nat.beq n 0 then .node .nil (some x) .nil else bif Nat.beq (n % 2) 1 then .node (T.set f .nil (n / 2) x) none .nil else .node .nil none (T.set f .nil (n / 2 - 1) x)
  | f + 1, .node l v r, n, x => bif Nat.beq n 0 then .node l (some x) r else bif Nat.beq (n % 2) 1 then .node (T.set f l (n / 2) x) v r else .node l v (T.set f r (n / 2 - 1) x)

def T.put {α : Type} (t : T α) (n : Nat) (x : α) : T α := T.set 40 t n x

/-! ### A map from few numbers: a full tree of a fixed height, four ways a level, the low digit first -/
structure Q4 (α : Type) where
  a : α
  b : α
  c : α
  d : α

def Lv (α : Type) : Nat → Type
  | 0 => α
  | k + 1 => Q4 (Lv α k)

def Q4.pick {α : Type} (x : Q4 α) : Nat → α
  | 0 => x.a
  | 1 => x.b
  | 2 => x.c
  | _ => x.d

def Q4.upd {α : Type} (x : Q4 α) (f : α → α) : Nat → Q4 α
  | 0 => ⟨f x.a, x.b, x.c, x.d⟩
  | 1 => ⟨x.a, f x.b, x.c, x.d⟩
  | 2 => ⟨x.a, x.b, f x.c, x.d⟩
  | _ => ⟨x.a, x.b, x.c, f x.d⟩

def Lv.rep {α : Type} (x : α) : (k : Nat) → Lv α k
  | 0 => x
  | k + 1 => ⟨Lv.rep x k, Lv.rep x k, Lv.rep x k, Lv.rep x k⟩

def Lv.at {α : Type} : (k : Nat) → Lv α k → Nat → α
  | 0, x, _ => x
  | k + 1, x, n => Lv.at k (Q4.pick x (n % 4)) (n / 4)

/-- What stands at a place is turned. -/
def Lv.mod {α : Type} (f : α → α) : (k : Nat) → Lv α k → Nat → Lv α k
  | 0, x, _ => f x
  | k + 1, x, n => Q4.upd x (fun y => Lv.mod f k y (n / 4)) (n % 4)

def Lv.set {α : Type} (v : α) : (k : Nat) → Lv α k → Nat → Lv α k
  | 0, _, _ => v
  | k + 1, x, n => Q4.upd x (fun y => Lv.set v k y (n / 4)) (n % 4)

/-! ### Values -/
inductive AVal where
  | any
  | bool (b : Bool)
  | int (k : IntKind) (n : Int)
  | str (s : ByteArray)
  | nilp
  | ptr (b ext off : Nat)
  | iptr (cells : List AVal)
  | nil (sure : Bool)
  | ref (b ext off n lo : Nat) (exact : Bool) (sz : Nat)
  | imm (cells : List AVal) (n : Nat)
  | nilf
  | fn (f : FuncId) (first captured : List AVal)
  | agg (cells : List AVal)
  | tup (vs : List AVal)
  | opq (k : Nat)
  | one
  | chan (b : Nat)
  deriving Inhabited

structure Block where
  ty : TypeId
  cells : List AVal
  fz : Nat
  deriving Inhabited

/-- A function's slots: 256 at most. -/
abbrev Slots := Lv AVal 4
def Slots.nil : Slots := Lv.rep .any 4
def Slots.get (s : Slots) (n : Nat) : Option AVal := bif Nat.blt n 256 then some (Lv.at 4 s n) else none
def Slots.put (s : Slots) (n : Nat) (x : AVal) : Slots := Lv.set x 4 s n

/-- Memory's blocks: 1048576 at most. -/
inductive Cel where
  | blk (B : Block)
  | chan (cap : Nat) (q : List AVal)

abbrev Hp4 := Lv (Option Cel) 4
abbrev Hp := Lv Hp4 6
def Hp.nil : Hp := Lv.rep (Lv.rep none 4) 6
def Hp.get (s : Hp) (n : Nat) : Option Cel := bif Nat.blt n 1048576 then Lv.at 4 (Lv.at 6 s (n / 256)) (n % 256) else none
def Hp.put (s : Hp) (n : Nat) (x : Cel) : Hp := Lv.mod (fun l : Hp4 => Lv.set (some x) 4 l (n % 256)) 6 s (n / 256)

structure Mem where
  blocks : Hp
  next : Nat

def Mem.nil : Mem := ⟨Hp.nil, 0⟩

structure St where
  fn : FuncId
  nt : Nat
  slots : Slots
  mem : Mem

/-! ### Types -/
inductive VD where
  | bool | int (k : IntKind) | str
  | pointer (e : TypeId) | slice (e : TypeId) | array (n : Nat) (e : TypeId)
  | struct (fs : List (TypeId × Nat))
  | func
  | other

/-- What a cell holds, where values may be compared cell by cell. -/
inductive FK where
  | b | i | s
  deriving DecidableEq

structure VT where
  d : VD
  size : Nat
  bytes : Nat
  zero : List AVal
  eq : Option (List FK)

def VD.isAgg : VD → Bool
  | .array .. | .struct _ => true
  | _ => false

inductive RStep where
  | run (j : Nat)
  | chk (j : Nat)

structure Env where
  P : Program
  ty : T VT
  fns : T Func
  plans : T (List RStep)
  orc : FuncId → List AVal → Option AVal

def planKey (f id : Nat) : Nat := f * 4096 + id

/-! ### Small helpers -/
def ofConst1 : Value → AVal
  | .bool b => .bool b
  | .int k n => .int k n
  | .string s => .str s
  | .pointer none => .nilp
  | .slice none 0 0 => .nil true
  | .nilFunc => .nilf
  | _ => .any

def ofConst : Value → AVal
  | .agg cs => bif cs.toList.all (·.oneCell') then .agg (cs.toList.map ofConst1) else .any
  | v => ofConst1 v

def AVal.cells? : AVal → Option (List AVal)
  | .agg cs => some cs
  | .any | .tup _ => none
  | v => some [v]

def mkVal (vt : VT) (cells : List AVal) : Option AVal :=
  bif vt.d.isAgg then some (.agg cells) else match cells with
    | [c] => some c
    | _ => none

/-- The cells from 'off' on are replaced by 'vs'. -/
def lput {α : Type} : List α → Nat → List α → List α
  | cs, _, [] => cs
  | [], _, _ :: _ => []
  | _ :: cs, 0, v :: vs => v :: lput cs 0 vs
  | c :: cs, n + 1, vs => c :: lput cs n vs

/-- Just the 'n' cells from 'off' on, if there are so many. -/
def lget (cs : List AVal) (off n : Nat) : Option (List AVal) :=
  let r := (cs.drop off).take n
  bif Nat.beq r.length n then some r else none

def Mem.get (m : Mem) (b : Nat) : Option Block := match Hp.get m.blocks b with
  | some (.blk B) => some B
  | _ => none
def Mem.upd (m : Mem) (b : Nat) (blk : Block) : Mem := { m with blocks := Hp.put m.blocks b (.blk blk) }
def Mem.add (m : Mem) (blk : Block) : Mem := ⟨Hp.put m.blocks m.next (.blk blk), m.next + 1⟩
/-- A channel: its capacity, and what it holds. -/
def Mem.getC (m : Mem) (b : Nat) : Option (Nat × List AVal) := match Hp.get m.blocks b with
  | some (.chan c q) => some (c, q)
  | _ => none
def Mem.updC (m : Mem) (b c : Nat) (q : List AVal) : Mem := { m with blocks := Hp.put m.blocks b (.chan c q) }
def Mem.addC (m : Mem) (c : Nat) : Mem := ⟨Hp.put m.blocks m.next (.chan c []), m.next + 1⟩

/-- The cells that a pointer's variable of so many cells has. -/
def readCells (m : Mem) (a : AVal) (n : Nat) : Option (List AVal) :=
  match a with
  | .ptr b ext off => match m.get b with
    | some blk => bif Nat.beq blk.cells.length ext then lget blk.cells off n else none
    | none => none
  | .iptr cells => lget cells 0 n
  | _ => none

/-- The cells of a slice's first n elements. -/
def sliceCells (m : Mem) (a : AVal) (n size : Nat) : Option (List AVal) :=
  match a with
  | .nil _ => bif Nat.beq n 0 then some [] else none
  | .ref b ext off k _ _ _ => bif Nat.ble n k then (match m.get b with
      | some blk => bif Nat.beq blk.cells.length ext then lget blk.cells off (n * size) else none
      | none => none) else none
  | .imm cells k => bif Nat.ble n k then lget cells 0 (n * size) else none
  | _ => none

def sliceLen : AVal → Option Nat
  | .nil _ => some 0
  | .ref _ _ _ n _ _ _ => some n
  | .imm _ n => some n
  | _ => none

def bytesOf : List AVal → ByteArray → Option ByteArray
  | [], acc => some acc
  | .int .u8 n :: cs, acc => bytesOf cs (acc.push (UInt8.ofNat n.toNat))
  | _ :: _, _ => none

def natOf : AVal → Option Nat
  | .int _ n => match n with
    | .ofNat k => some k
    | .negSucc _ => none
  | _ => none

mutual
def AVal.same : AVal → AVal → Bool
  | .bool a, .bool b => a == b
  | .int k a, .int l b => decide (k = l) && decide (a = b)
  | .str a, .str b => decide (a.data.toList = b.data.toList)
  | .nilp, .nilp => true
  | .ptr a b c, .ptr x y z => Nat.beq a x && Nat.beq b y && Nat.beq c z
  | .iptr xs, .iptr ys => AVal.sames xs ys
  | .nil a, .nil b => a == b
  | .ref a b c d e f g, .ref a' b' c' d' e' f' g' => Nat.beq a a' && Nat.beq b b' && Nat.beq c c' && Nat.beq d d' && Nat.beq e e' && (f == f') && Nat.beq g g'
  | .imm xs n, .imm ys m => Nat.beq n m && AVal.sames xs ys
  | .nilf, .nilf => true
  | .fn f xs ys, .fn g us vs => Nat.beq f g && AVal.sames xs us && AVal.sames ys vs
  | .agg xs, .agg ys => AVal.sames xs ys
  | .tup xs, .tup ys => AVal.sames xs ys
  | _, _ => false
def AVal.sames : List AVal → List AVal → Bool
  | [], [] => true
  | x :: xs, y :: ys => AVal.same x y && AVal.sames xs ys
  | _, _ => false
end

/-! ### One operation that calls nothing and writes nothing that was there -/
inductive NewV where
  | ptr (ext : Nat)
  | ref (ext n lo sz : Nat)

def NewV.at (id : Nat) : NewV → AVal
  | .ptr ext => .ptr id ext 0
  | .ref ext n lo sz => .ref id ext 0 n lo true sz

inductive Light where
  | val (v : AVal)
  | new (blk : Block) (mk : NewV)

def cmpInt (op : BinOp) (x y : Int) : Option Bool :=
  match op with
  | .eql => some (decide (x = y))
  | .neq => some (!decide (x = y))
  | .lss => some (decide (x < y))
  | .leq => some (decide (x ≤ y))
  | .gtr => some (decide (y < x))
  | .geq => some (decide (y ≤ x))
  | _ => none

def arith (op : BinOp) (k : IntKind) (x y : Int) : Option AVal :=
  match op with
  | .add => some (.int k (k.wrap (x + y)))
  | .sub => some (.int k (k.wrap (x - y)))
  | .mul => some (.int k (k.wrap (x * y)))
  | .quo => if y = 0 then none else some (.int k (k.wrap (x.tdiv y)))
  | .rem => if y = 0 then none else some (.int k (x.tmod y))
  | .and => some (.int k (k.wrap (BitVec.ofInt k.bits x &&& BitVec.ofInt k.bits y).toNat))
  | .or => some (.int k (k.wrap (BitVec.ofInt k.bits x ||| BitVec.ofInt k.bits y).toNat))
  | .xor => some (.int k (k.wrap (BitVec.ofInt k.bits x ^^^ BitVec.ofInt k.bits y).toNat))
  | .andNot => some (.int k (k.wrap (BitVec.ofInt k.bits x &&& ~~~ BitVec.ofInt k.bits y).toNat))
  | _ => (cmpInt op x y).map .bool

def strOp (op : BinOp) (x y : ByteArray) : Option AVal :=
  match op with
  | .eql => some (.bool (x.toList == y.toList))
  | .neq => some (.bool !(x.toList == y.toList))
  | .lss => some (.bool (Op.bytesLess x.toList y.toList))
  | .leq => some (.bool (Op.bytesLess x.toList y.toList || x.toList == y.toList))
  | .gtr => some (.bool !(Op.bytesLess x.toList y.toList || x.toList == y.toList))
  | .geq => some (.bool !(Op.bytesLess x.toList y.toList))
  | _ => none

def eq1 : FK → AVal → AVal → Option Bool
  | .i, .int k a, .int l b => bif decide (k = l) then some (decide (a = b)) else none
  | .b, .bool a, .bool b => some (a == b)
  | .s, .str a, .str b => some (a.toList == b.toList)
  | _, _, _ => none

/-- Are two lists of numbers, texts and bools alike? none: they hold something else. -/
def eqCells : List FK → List AVal → List AVal → Option Bool
  | [], [], [] => some true
  | k :: ks, x :: xs, y :: ys => match eq1 k x y, eqCells ks xs ys with
    | some a, some b => some (a && b)
    | _, _ => none
  | _, _, _ => none

def eqVals (E : Env) (t : TypeId) (a b : AVal) : Option Bool :=
  match E.ty.get t with
  | none => none
  | some vt => match a, b with
    | .bool x, .bool y => (match vt.d with | .bool => some (x == y) | _ => none)
    | .nilp, .nilp => (match vt.d with | .pointer _ => some true | _ => none)
    | .nilp, .ptr .. | .nilp, .iptr _ | .ptr .., .nilp | .iptr _, .nilp => (match vt.d with | .pointer _ => some false | _ => none)
    | .nil true, .nil true => (match vt.d with | .slice _ => some true | _ => none)
    | .nil true, .ref .. | .ref .., .nil true => (match vt.d with | .slice _ => some false | _ => none)
    | .nil true, .imm (_ :: _) _ | .imm (_ :: _) _, .nil true => (match vt.d with | .slice _ => some false | _ => none)
    | .nilf, .nilf => (match vt.d with | .func => some true | _ => none)
    | .nilf, .fn .. | .fn .., .nilf => (match vt.d with | .func => some false | _ => none)
    | .agg xs, .agg ys => bif vt.d.isAgg then vt.eq.bind fun ks => eqCells ks xs ys else none
    | _, _ => none

def bin (E : Env) (op : BinOp) (xT : TypeId) (a b : AVal) : Option AVal :=
  match a, b with
  | .int k x, .int l y => match op with
    | .shl => if y < 0 then none else some (.int k (k.wrap (x * 2 ^ (min y.toNat k.bits))))
    | .shr => if y < 0 then none else some (.int k (x.fdiv (2 ^ (min y.toNat k.bits))))
    | _ => if k = l then arith op k x y else none
  | .str x, .str y => strOp op x y
  | _, _ => match op with
    | .eql => (eqVals E xT a b).map .bool
    | .neq => (eqVals E xT a b).map (fun r => .bool !r)
    | _ => none

def un (op : UnOp) (a : AVal) : Option AVal :=
  match op, a with
  | .not, .bool b => some (.bool !b)
  | .neg, .int k n => some (.int k (k.wrap (0 - n)))
  | .xor, .int k n => arith .xor k (if k.signed then -1 else k.max) n
  | _, _ => none

def shift (a : AVal) (n : Nat) : Option AVal :=
  match a with
  | .ptr b ext off => some (.ptr b ext (off + n))
  | .iptr cells => some (.iptr (cells.drop n))
  | _ => none

def fieldOf (E : Env) (s : TypeId) (f : Nat) : Option (VT × Nat) :=
  match E.ty.get s with
  | some { d := .struct fs, .. } => match fs[f]? with
    | some (ft, off) => (E.ty.get ft).map (·, off)
    | none => none
  | _ => none

/-- How many cells ahead of the i-th element, and its type: of a slice, or of an array behind a pointer. -/
def elemAddr (E : Env) (t : TypeId) (x : AVal) (i : Nat) : Option AVal :=
  match E.ty.get t with
  | some { d := .slice e, .. } => match E.ty.get e with
    | some ve => match x with
      | .ref b ext off n _ _ _ => bif Nat.blt i n then some (.ptr b ext (off + i * ve.size)) else none
      | .imm cells n => bif Nat.blt i n && Nat.ble ((i + 1) * ve.size) cells.length && Nat.blt 0 ve.size then some (.iptr (cells.drop (i * ve.size))) else none
      | _ => none
    | none => none
  | some { d := .array n e, .. } => match E.ty.get e with
    | some ve => bif Nat.blt i n then shift x (i * ve.size) else none
    | none => none
  | _ => none

def elemAt (E : Env) (t : TypeId) (x : AVal) (i : Nat) : Option AVal :=
  match x with
  | .str s => match E.ty.get t with
    | some { d := .str, .. } => match s.data.toList[i]? with
      | some b => some (.int .u8 b.toNat)
      | none => none
    | _ => none
  | .agg cs => match E.ty.get t with
    | some { d := .array n e, .. } => match E.ty.get e with
      | some ve => bif Nat.blt i n && Nat.blt 0 ve.size then (lget cs (i * ve.size) ve.size).bind (mkVal ve) else none
      | none => none
    | _ => none
  | _ => none

def optNat (ρ : Operand → AVal) : Option Operand → Option (Option Nat)
  | none => some none
  | some x => (natOf (ρ x)).map some

/-- A slice expression over a slice: low, high, max as numbers. -/
def cut (x : AVal) (l : Nat) (hi mx : Option Nat) : Option AVal :=
  bif mx.isSome && hi.isNone then none else
  match x with
  | .nil s => bif Nat.beq l 0 && Nat.beq (hi.getD 0) 0 && Nat.beq (mx.getD 0) 0 then some (.nil s) else none
  | .ref b ext off n lo exact sz =>
    let h := hi.getD n
    let m := mx.getD lo
    bif Nat.ble l h && Nat.ble h m && Nat.ble m lo then
      bif Nat.beq (m - l) 0 then (bif mx.isSome || exact then some (.nil false) else some (.imm [] 0))
      else some (.ref b ext (off + l * sz) (h - l) (m - l) (mx.isSome || exact) sz)
    else none
  | _ => none

def cutImm (sz : Nat) (x : AVal) (l : Nat) (hi mx : Option Nat) : Option AVal :=
  bif mx.isSome && hi.isNone then none else
  match x with
  | .imm cells n =>
    let h := hi.getD n
    let m := mx.getD n
    bif Nat.ble l h && Nat.ble h m && Nat.ble m n && Nat.beq cells.length (n * sz) then
      bif Nat.beq (h - l) 0 then (bif mx.isSome && Nat.beq (m - l) 0 then some (.nil false) else some (.imm [] 0))
      else some (.imm ((cells.drop (l * sz)).take ((h - l) * sz)) (h - l))
    else none
  | _ => none

def sliceOp (E : Env) (t : TypeId) (x : AVal) (lo hi mx : Option Nat) : Option AVal :=
  let l := lo.getD 0
  match E.ty.get t with
  | some { d := .str, .. } => match x, mx with
    | .str s, none =>
      let h := hi.getD s.size
      bif Nat.ble l h && Nat.ble h s.size then some (.str (s.extract l h)) else none
    | _, _ => none
  | some { d := .slice e, .. } => match E.ty.get e with
    | some ve => match x with
      | .imm .. => cutImm ve.size x l hi mx
      | .ref _ _ _ _ _ _ sz => bif Nat.beq sz ve.size then cut x l hi mx else none
      | _ => cut x l hi mx
    | none => none
  | _ => none

def lenOf (E : Env) (t : TypeId) (x : AVal) : Option Nat :=
  match E.ty.get t with
  | some { d := .str, .. } => (match x with | .str s => some s.size | _ => none)
  | some { d := .slice _, .. } => sliceLen x
  | some { d := .array n _, .. } => some n
  | some { d := .pointer a, .. } => (match E.ty.get a with | some { d := .array n _, .. } => some n | _ => none)
  | _ => none

def capOf (E : Env) (t : TypeId) (x : AVal) : Option Nat :=
  match E.ty.get t with
  | some { d := .slice _, .. } => (match x with
    | .nil _ => some 0
    | .ref _ _ _ _ lo true _ => some lo
    | _ => none)
  | _ => none

def foldInt (f : Int → Int → Int) : List AVal → Option AVal
  | .int k x :: rest => go k x rest
  | _ => none
where
  go (k : IntKind) (x : Int) : List AVal → Option AVal
    | [] => some (.int k x)
    | .int _ y :: rest => go k (f x y) rest
    | _ :: _ => none

/-- The parts of a composite laid into cells; 'place' i: where part i lies, and of how many cells it is. -/
def fillA (place : Nat → Option (Nat × Nat)) (cells : List AVal) : List (Nat × AVal) → Option (List AVal)
  | [] => some cells
  | (i, v) :: rest =>
    match place i, v.cells? with
    | some (off, size), some cs => bif Nat.beq cs.length size && Nat.ble (off + size) cells.length then fillA place (lput cells off cs) rest else none
    | _, _ => none

def structPlace (E : Env) (fs : List (TypeId × Nat)) (i : Nat) : Option (Nat × Nat) :=
  match fs[i]? with
  | some (ft, off) => (E.ty.get ft).map (fun vt => (off, vt.size))
  | none => none

def buildVal (E : Env) (t : TypeId) (parts : List (Nat × AVal)) : Option AVal :=
  match E.ty.get t with
  | some vt => match vt.d with
    | .struct fs => (fillA (structPlace E fs) vt.zero parts).map .agg
    | .array _ e => match E.ty.get e with
      | some ve => (fillA (fun i => some (i * ve.size, ve.size)) vt.zero parts).map .agg
      | none => none
    | _ => none
  | none => none

def zeros (z : List AVal) : Nat → List AVal
  | 0 => []
  | n + 1 => z ++ zeros z n

def light (E : Env) (m : Mem) (ρ : Operand → AVal) : Op → Option Light
  | .move x | .assign x => some (.val (ρ x))
  | .pick c a b => match ρ c with
    | .bool t => some (.val (bif t then ρ a else ρ b))
    | _ => none
  | .nilCheck x => match ρ x with
    | .ptr b ext off => some (.val (.ptr b ext off))
    | .iptr cs => some (.val (.iptr cs))
    | .fn f xs ys => some (.val (.fn f xs ys))
    | _ => none
  | .binOp op xT x y _ => (bin E op xT (ρ x) (ρ y)).map .val
  | .unOp op _ x => (un op (ρ x)).map .val
  | .convert src dst x => match E.ty.get src, E.ty.get dst with
    | some vs, some vd => match vd.d, ρ x with
      | .int k, .int _ n => some (.val (.int k (k.wrap n)))
      | .str, .str s => some (.val (.str s))
      | .str, x => (match vs.d with
        | .slice e => (match E.ty.get e with
          | some { d := .int .u8, size := 1, .. } => (sliceLen x).bind fun n => (sliceCells m x n 1).bind fun cs => (bytesOf cs ByteArray.empty).map fun s => .val (.str s)
          | _ => none)
        | _ => none)
      | _, _ => none
    | _, _ => none
  | .makeFunc (.func f) first captured => some (.val (.fn f (first.toList.map ρ) (captured.toList.map ρ)))
  | .field t x f => match ρ x, fieldOf E t f with
    | .agg cs, some (vt, off) => bif Nat.blt 0 vt.size then ((lget cs off vt.size).bind (mkVal vt)).map .val else none
    | _, _ => none
  | .fieldAddr t x f => match fieldOf E t f with
    | some (vt, off) => bif Nat.blt 0 vt.size then (shift (ρ x) off).map .val else none
    | none => none
  | .indexAddr t x ix => (natOf (ρ ix)).bind fun i => (elemAddr E t (ρ x) i).map .val
  | .index t x ix => (natOf (ρ ix)).bind fun i => (elemAt E t (ρ x) i).map .val
  | .slice t x lo hi mx => (optNat ρ lo).bind fun l => (optNat ρ hi).bind fun h => (optNat ρ mx).bind fun k => (sliceOp E t (ρ x) l h k).map .val
  | .extract x i => match ρ x with
    | .tup vs => (vs[i]?).map .val
    | _ => none
  | .build t parts => (buildVal E t (parts.toList.map fun (i, x) => (i, ρ x))).map .val
  | .load t x => match E.ty.get t with
    | some vt => ((readCells m (ρ x) vt.size).bind (mkVal vt)).map .val
    | none => none
  | .alloc t => match E.ty.get t with
    | some vt => some (.new ⟨t, vt.zero, 0⟩ (.ptr vt.zero.length))
    | none => none
  | .box t x => match (ρ x).cells? with
    | some cs => some (.new ⟨t, cs, 0⟩ (.ptr cs.length))
    | none => none
  | .buildSlice t len parts => match E.ty.get t with
    | some { d := .slice e, .. } => match E.ty.get e with
      | some ve => bif Nat.ble (len * ve.size) 10000 && Nat.blt 0 ve.size && Nat.beq ve.zero.length ve.size then
          (fillA (fun i => some (i * ve.size, ve.size)) (zeros ve.zero len) (parts.toList.map fun (i, x) => (i, ρ x))).map fun cs => .new ⟨e, cs, 0⟩ (.ref (len * ve.size) len len ve.size)
        else none
      | none => none
    | _ => none
  | .makeSlice t l c => match E.ty.get t with
    | some { d := .slice e, .. } => match E.ty.get e with
      | some ve => (natOf (ρ l)).bind fun l => (natOf (ρ c)).bind fun c =>
          bif Nat.ble l c && Nat.ble c 1048576 && Nat.ble ve.bytes 65536 && Nat.blt 0 ve.size && Nat.beq ve.zero.length ve.size then some (.new ⟨e, zeros ve.zero c, 0⟩ (.ref (c * ve.size) l c ve.size)) else none
      | none => none
    | _ => none
  | .call { callee := .builtin .len, args, argTypes } => match args.toList, argTypes.toList with
    | [x], [t] => (lenOf E t (ρ x)).map fun (n : Nat) => .val (.int .i64 (n : Int))
    | _, _ => none
  | .call { callee := .builtin .cap, args, argTypes } => match args.toList, argTypes.toList with
    | [x], [t] => (capOf E t (ρ x)).map fun (n : Nat) => .val (.int .i64 (n : Int))
    | _, _ => none
  | .call { callee := .builtin .max, args, .. } => (foldInt (fun x y => if y > x then y else x) (args.toList.map ρ)).map .val
  | .call { callee := .builtin .min, args, .. } => (foldInt (fun x y => if y < x then y else x) (args.toList.map ρ)).map .val
  | _ => none

/-! ### One operation that writes, or calls -/
def isHeavy : Op → Bool
  | .store .. => true
  | .makeChan .. => true
  | .call { callee := .builtin .append, .. } | .call { callee := .builtin .copy, .. } | .call { callee := .builtin .clear, .. } => true
  | .call { callee := .builtin _, .. } => false
  | .call _ => true
  | _ => false

/-- Cells are stored where a pointer points. -/
def writeCells (m : Mem) (b ext off : Nat) (cs : List AVal) : Option Mem :=
  match m.get b with
  | some blk => bif Nat.beq blk.cells.length ext && Nat.ble blk.fz off && Nat.ble (off + cs.length) ext then some (m.upd b { blk with cells := lput blk.cells off cs }) else none
  | none => none

/-- An append of so many elements' cells to a slice of elements of type e. -/
def appendTo (m : Mem) (e : TypeId) (ve : VT) (s : AVal) (k : Nat) (cs : List AVal) : Option (AVal × Mem) :=
  match s with
  | .nil sure => bif Nat.beq k 0 then some (.nil sure, m)
    else bif Nat.ble k 1048576 && Nat.blt m.next 1048576 then some (.ref m.next (k * ve.size) 0 k k false ve.size, m.add ⟨e, cs, 0⟩) else none
  | .ref b ext off n lo exact sz =>
    bif Nat.beq k 0 then some (.ref b ext off n lo exact sz, m)
    else bif !Nat.beq sz ve.size || !Nat.ble (n + k) 1048576 then none
    else bif Nat.ble (n + k) lo then (writeCells m b ext (off + n * sz) cs).map fun m' => (.ref b ext off (n + k) lo exact sz, m')
    else match m.get b with
      | some blk => bif !Nat.beq blk.cells.length ext then none
        else bif exact then
          bif !Nat.blt m.next 1048576 then none else (lget blk.cells off (n * sz)).map fun old => (.ref m.next ((n + k) * sz) 0 (n + k) (n + k) false sz, m.add ⟨e, old ++ cs, 0⟩)
        else bif Nat.beq off 0 && Nat.beq (n * sz) ext && Nat.beq blk.ty e && Nat.ble blk.fz ext then
          some (.ref b ((n + k) * sz) 0 (n + k) (n + k) false sz, m.upd b { blk with cells := blk.cells ++ cs })
        else none
      | none => none
  | _ => none

/-- What is appended: how many elements, and their cells. -/
def appended (E : Env) (m : Mem) (ve : VT) (t2 : Option TypeId) (x : AVal) : Option (Nat × List AVal) :=
  match t2 with
  | none => none
  | some t2 => match E.ty.get t2 with
    | some { d := .int _, .. } => (natOf x).bind fun k => bif Nat.ble k 1048576 then some (k, zeros ve.zero k) else none
    | some { d := .slice _, .. } => (sliceLen x).bind fun k => (sliceCells m x k ve.size).map fun cs => (k, cs)
    | some { d := .str, .. } => (match x with
      | .str s => bif Nat.beq ve.size 1 then some (s.size, s.data.toList.map fun b => .int .u8 b.toNat) else none
      | _ => none)
    | _ => none

/-- A channel's type, of elements that are not too wide. -/
def chanOkB (P : Program) (t : TypeId) : Bool :=
  match P.underlying t with
  | some (.chan _ e) => match P.info? e with
    | some i => Nat.ble i.bytes 65536
    | none => false
  | _ => false

def heavy (E : Env) (call : FuncId → List AVal → Mem → Option (AVal × Mem)) (m : Mem) (ρ : Operand → AVal) : Op → Option (AVal × Mem)
  | .store t a v => match E.ty.get t, ρ a, (ρ v).cells? with
    | some vt, .ptr b ext off, some cs => bif Nat.beq cs.length vt.size then (writeCells m b ext off cs).map fun m' => (.tup [], m') else none
    | _, _, _ => none
  | .makeChan t x => match natOf (ρ x) with
    | some n => bif Nat.ble n 1048576 && chanOkB E.P t && Nat.blt m.next 1048576 then some (.chan m.next, m.addC n) else none
    | none => none
  | .call { callee := .builtin .append, args, argTypes } => match args.toList, argTypes.toList with
    | [s, x], t :: ts => match E.ty.get t with
      | some { d := .slice e, .. } => match E.ty.get e with
        | some ve => bif Nat.blt 0 ve.size && Nat.blt 0 ve.bytes && Nat.ble ve.bytes 65536 && Nat.beq ve.zero.length ve.size then
            (appended E m ve ts.head? (ρ x)).bind fun (k, cs) => appendTo m e ve (ρ s) k cs
          else none
        | none => none
      | _ => none
    | _, _ => none
  | .call { callee := .builtin .copy, args, argTypes } => match args.toList, argTypes.toList with
    | [d, s], t :: _ => match E.ty.get t with
      | some { d := .slice e, .. } => match E.ty.get e with
        | some ve => (sliceLen (ρ d)).bind fun dn => (sliceLen (ρ s)).bind fun sn =>
            let n := Nat.min sn dn
            (sliceCells m (ρ s) n ve.size).bind fun cs => match ρ d with
              | .ref b ext off _ _ _ _ => (writeCells m b ext off cs).map fun m' => (.int .i64 n, m')
              | .nil _ => bif Nat.beq n 0 then some (.int .i64 0, m) else none
              | _ => none
        | none => none
      | _ => none
    | _, _ => none
  | .call { callee := .builtin .clear, args, argTypes } => match args.toList, argTypes.toList with
    | [x], t :: _ => match E.ty.get t with
      | some { d := .slice e, .. } => match E.ty.get e with
        | some ve => match ρ x with
          | .ref b ext off n _ _ _ => bif Nat.beq n 0 then some (.tup [], m) else bif Nat.beq ve.zero.length ve.size then (writeCells m b ext off (zeros ve.zero n)).map fun m' => (.tup [], m') else none
          | .nil _ => some (.tup [], m)
          | .imm _ 0 => some (.tup [], m)
          | _ => none
        | none => none
      | _ => none
    | _, _ => none
  | .call { callee := .value f, args, .. } => match ρ f with
    | .fn g first captured => call g (first ++ args.toList.map ρ ++ captured) m
    | _ => none
  | _ => none

/-! ### Code -/
def St.slot (st : St) (d : Nat) : AVal := (Slots.get st.slots d).getD .any

def St.ev (st : St) : Operand → AVal
  | .tmp t => st.slot t
  | .const v => ofConst v
  | .global _ => .any
  | .func f => .fn f [] []

def St.put (st : St) (dst : Option Nat) (v : AVal) : Option St :=
  match dst with
  | none => some st
  | some d => bif Nat.blt d st.nt then some { st with slots := Slots.put st.slots d v } else none

/-- Is the operation to be carried out? none: it can't be told. -/
def wanted (ops : List Oper) (st : St) (o : Oper) : Option Bool :=
  match o.guard with
  | none => some true
  | some (j, want) => match ops[j]? with
    | some { dst := some d, .. } => (match st.slot d with
      | .bool b => some (b == want)
      | .tup _ => some false
      | _ => none)
    | _ => none

abbrev CallFn := FuncId → List AVal → Mem → Option (AVal × Mem)

def runOp (E : Env) (call : CallFn) (ops : List Oper) (st : St) (o : Oper) : Option St :=
  match wanted ops st o with
  | none => none
  | some false => st.put o.dst (.tup [])
  | some true =>
    bif isHeavy o.op then match heavy E call st.mem st.ev o.op with
      | some (v, m) => St.put { st with mem := m } o.dst v
      | none => none
    else match light E st.mem st.ev o.op with
      | some (.val v) => st.put o.dst v
      | some (.new blk mk) => bif Nat.blt st.mem.next 1048576 then St.put { st with mem := st.mem.add blk } o.dst (mk.at st.mem.next) else none
      | none => none

def isComm : Op → Bool
  | .send .. | .select .. => true
  | _ => false

/-- An operation on a channel: a send into a buffer with room; a select of one case with a default. -/
def commOp (E : Env) (m : Mem) (ρ : Operand → AVal) : Op → Option (AVal × Mem)
  | .send c x => match ρ c with
    | .chan b => match m.getC b with
      | some (cap, q) => bif Nat.blt q.length cap then some (.any, m.updC b cap (q ++ [ρ x])) else none
      | none => none
    | _ => none
  | .select cases false => match cases.toList with
    | [⟨c, some x, e⟩] => match ρ c, E.ty.get e with
      | .chan b, some _ => match m.getC b with
        | some (cap, q) => bif Nat.blt q.length cap then some (.tup [.int .i64 0, .bool false], m.updC b cap (q ++ [ρ x])) else some (.tup [.int .i64 (-1), .bool false], m)
        | none => none
      | _, _ => none
    | [⟨c, none, e⟩] => match ρ c, E.ty.get e with
      | .chan b, some _ => match m.getC b with
        | some (_, []) => some (.tup [.int .i64 (-1), .bool false, .any], m)
        | some (cap, v :: q) => some (.tup [.int .i64 0, .bool true, v], m.updC b cap q)
        | none => none
      | _, _ => none
    | _ => none
  | _ => none

def chanTyB (P : Program) (t : TypeId) : Bool :=
  match P.underlying t with
  | some (.chan _ _) => true
  | _ => false

/-- How much a channel holds. -/
def lenChan (E : Env) (st : St) (o : Oper) : Option St :=
  match o.guard with
  | some _ => none
  | none => match o.op with
    | .call { callee := .builtin .len, args, argTypes } => match args.toList, argTypes.toList with
      | [x], [t] => match st.ev x with
        | .chan b => match st.mem.getC b with
          | some (_, q) => bif chanTyB E.P t then st.put o.dst (.int .i64 (q.length : Nat)) else none
          | none => none
        | _ => none
      | _, _ => none
    | _ => none

def runOne (E : Env) (call : CallFn) (ops : List Oper) (st : St) (o : Oper) : Option St :=
  bif isComm o.op then (match o.guard with
    | none => (match commOp E st.mem st.ev o.op with
      | some (v, m) => St.put { st with mem := m } o.dst v
      | none => none)
    | some _ => none)
  else match runOp E call ops st o with
    | some s => some s
    | none => lenChan E st o

def runSeq (E : Env) (call : CallFn) (ops : List Oper) : List Oper → St → Option St
  | [], st => some st
  | o :: rest, st => match runOne E call ops st o with
    | some st' => runSeq E call ops rest st'
    | none => none

def runPlan (E : Env) (call : CallFn) (ops : List Oper) : List RStep → St → Option St
  | [], st => some st
  | .run j :: rest, st => match ops[j]? with
    | some o => (match runOp E call ops st o with
      | some st' => runPlan E call ops rest st'
      | none => none)
    | none => none
  | .chk j :: rest, st => match ops[j]? with
    | some o => (match wanted ops st o with
      | some true => (match light E st.mem st.ev o.op, o.dst with
        | some (.val v), some d => bif AVal.same v (st.slot d) then runPlan E call ops rest st else none
        | _, _ => none)
      | some false => runPlan E call ops rest st
      | none => none)
    | none => none

/-- Does an operation on a channel end the region. -/
def lastComm (ops : List Oper) : Bool :=
  match ops.getLast? with
  | some o => isComm o.op
  | none => false

/-- A region that draws its order: by its plan, and an operation on a channel behind all others. -/
def runDrawn (E : Env) (call : CallFn) (ops : List Oper) (plan : List RStep) (st : St) : Option St :=
  bif lastComm ops then (match ops.getLast? with
    | some o => (match runPlan E call ops.dropLast plan st with
      | some st' => runOne E call ops st' o
      | none => none)
    | none => none)
  else runPlan E call ops plan st

inductive Ex where
  | normal
  | exit (id : Nat)
  | ret

def execF (E : Env) (call : CallFn) (ih : Code → St → Option (Ex × St)) (c : Code) (st : St) : Option (Ex × St) :=
  match c with
  | .skip => some (.normal, st)
  | .ret => some (.ret, st)
  | .exit id => some (.exit id, st)
  | .seq a b => match ih a st with
    | some (.normal, st') => ih b st'
    | r => r
  | .cond x a b => match st.ev x with
    | .bool t => ih (bif t then a else b) st
    | _ => none
  | .block id body => match ih body st with
    | some (.exit id', st') => some (bif Nat.beq id' id then .normal else .exit id', st')
    | r => r
  | .loop body => match ih body st with
    | some (.normal, st') => ih (.loop body) st'
    | r => r
  | .region _ ops false => (runSeq E call ops.toList ops.toList st).map fun st' => (.normal, st')
  | .region id ops true => match E.plans.get (planKey st.fn id) with
    | some plan => (runDrawn E call ops.toList plan st).map fun st' => (.normal, st')
    | none => none
  | _ => none

def argSlots : Nat → List AVal → Slots → Slots
  | _, [], t => t
  | i, v :: vs, t => argSlots (i + 1) vs (Slots.put t i v)

def resultVals (E : Env) (st : St) : List ResultVar → Option (List AVal)
  | [] => some []
  | .tmp t :: rest => (resultVals E st rest).map (st.slot t :: ·)
  | .cell a t :: rest => match E.ty.get t with
    | some vt => ((readCells st.mem (st.slot a) vt.size).bind (mkVal vt)).bind fun v => (resultVals E st rest).map (v :: ·)
    | none => none

def oneOr : List AVal → AVal
  | [v] => v
  | vs => .tup vs

def callF (E : Env) (ih : Code → St → Option (Ex × St)) (f : FuncId) (args : List AVal) (m : Mem) : Option (AVal × Mem) :=
  match E.orc f args with
  | some v => some (v, m)
  | none => match E.fns.get f with
  | none => none
  | some fn => match fn.body with
    | none => none
    | some c =>
      bif Nat.ble args.length fn.ntmps && Nat.ble fn.ntmps 256 then
        match ih c ⟨f, fn.ntmps, argSlots 0 args Slots.nil, m⟩ with
        | some (.normal, st) | some (.ret, st) => (resultVals E st fn.results.toList).map fun vs => (oneOr vs, st.mem)
        | _ => none
      else none

/-- The machine: fuel counts how deep it goes. -/
def exec (E : Env) (n : Nat) : Code → St → Option (Ex × St) :=
  Nat.rec (motive := fun _ => Code → St → Option (Ex × St)) (fun _ _ => none) (fun _ ih => execF E (callF E ih) ih) n

def call (E : Env) (n : Nat) : CallFn := callF E (exec E n)

end Go.V
end

section
/-
  What a table of types says is asked of the program itself, by a Bool.
-/
namespace Go.V

/-- A type's row, out of the program. -/
def vdOf (d : TypeDesc) : VD :=
  match d with
  | .bool => .bool
  | .int k => .int k
  | .string => .str
  | .pointer e => .pointer e
  | .slice e => .slice e
  | .array n e => .array n e
  | .struct fs => .struct (fs.toList.map fun f => (f.type, f.offset))
  | .func .. => .func
  | _ => .other

/-- The kinds of the cells of a struct's fields, one behind the other. -/
def fieldsKinds (P : Program) (g : TypeId → Option (List FK)) : Nat → List Field → Option (List FK)
  | _, [] => some []
  | off, f :: fs => bif f.name != "_" && Nat.beq f.offset off then (g f.type).bind fun ks => bif Nat.beq (P.cellsOf f.type) ks.length && Nat.blt 0 ks.length then (fieldsKinds P g (off + ks.length) fs).map (ks ++ ·) else none else none

def repl (ks : List FK) : Nat → List FK
  | 0 => []
  | n + 1 => ks ++ repl ks n

/-- Values of the type may be compared cell by cell (numbers, texts, bools, and structs and arrays of such): its cells' kinds. -/
def kindsOf (P : Program) : Nat → TypeId → Option (List FK)
  | 0, _ => none
  | n + 1, t => match P.underlying t with
    | some .bool => some [.b]
    | some (.int _) => some [.i]
    | some .string => some [.s]
    | some (.struct fs) => bif P.stoodInHeld t then none else fieldsKinds P (kindsOf P n) 0 fs.toList
    | some (.array m e) => (kindsOf P n e).bind fun ks => bif Nat.beq (P.cellsOf e) ks.length && Nat.blt 0 ks.length && Nat.ble m 64 then some (repl ks m) else none
    | _ => none

def eqOf (P : Program) (t : TypeId) : Option (List FK) := bif P.eqGuardType P.depth t then none else kindsOf P 12 t

def vtOf (P : Program) (t : TypeId) : Option VT :=
  match P.info? t, P.underlying t with
  | some i, some d => match i.zero with
    | some z => some ⟨vdOf d, i.size, i.bytes, z.cells.toList.map ofConst1, eqOf P t⟩
    | none => none
  | _, _ => none
end Go.V
end

section
/-
  How the abstract machine's values and memory stand to the model's: the relations, and that they last.
-/
namespace Go.V

/-! ### The map -/
theorem nbeq (a b : Nat) : Nat.beq a b = decide (a = b) := by
  by_cases h : a = b
  · subst h; simp
  · rw [decide_eq_false h]; exact Bool.eq_false_iff.2 (fun e => h (Nat.eq_of_beq_eq_true e))
theorem nble (a b : Nat) : Nat.ble a b = decide (a ≤ b) := by
  by_cases h : a ≤ b
  · rw [decide_eq_true h]; exact (Nat.ble_eq ▸ h : Nat.ble a b = true)
  · rw [decide_eq_false h]; exact Bool.eq_false_iff.2 (fun e => h (Nat.ble_eq ▸ e : a ≤ b))
theorem nblt (a b : Nat) : Nat.blt a b = decide (a < b) := by
  unfold Nat.blt
  rw [nble]
  simp [Nat.succ_le_iff]

section
variable {α : Type}

theorem T.get_node (l r : T α) (v : Option α) (n : Nat) : (T.node l v r).get n = if n = 0 then v else if n % 2 = 1 then l.get (n / 2) else r.get (n / 2 - 1) := by
  simp [T.get, nbeq, cond_eq_ite]
theorem T.get_nil (n : Nat) : (T.nil : T α).get n = none := rfl

theorem T.get_set (x : α) : ∀ (f : Nat) (t : T α) (n m : Nat), n + 1 < 2 ^ f → (T.set f t n x).get m = if m = n then some x else t.get m := by
  intro f
  induction f with
  | zero => intro t n m h; simp at h
  | succ f ih =>
    intro t n m h
    have hp : (2 : Nat) ^ (f + 1) = 2 * 2 ^ f := by rw [Nat.pow_succ]; omega
    have e1 : ∀ (l : T α) (k j : Nat), n % 2 = 1 → k = n / 2 → (T.set f l k x).get j = if j = n / 2 then some x else l.get j := fun l k j h1 hk => by
      subst hk; exact ih l _ j (by omega)
    have e2 : ∀ (l : T α) (k j : Nat), n ≠ 0 → n % 2 ≠ 1 → k = n / 2 - 1 → (T.set f l k x).get j = if j = n / 2 - 1 then some x else l.get j := fun l k j h0 h1 hk => by
      subst hk; exact ih l _ j (by omega)
    have key : ∀ (l r : T α) (v : Option α), (if n = 0 then T.node l (some x) r else if n % 2 = 1 then T.node (T.set f l (n / 2) x) v r else T.node l v (T.set f r (n / 2 - 1) x)).get m = if m = n then some x else (T.node l v r).get m := by
      intro l r v
      by_cases h0 : n = 0
      · rw [if_pos h0, T.get_node, T.get_node]
        subst h0
        by_cases hm : m = 0 <;> simp [hm]
      · rw [if_neg h0]
        by_cases h1 : n % 2 = 1
        · rw [if_pos h1, T.get_node, T.get_node, e1 l _ _ h1 rfl]
          by_cases hm : m = n
          · subst hm; rw [if_neg h0, if_pos h1, if_pos rfl, if_pos rfl]
          · rw [if_neg hm]
            by_cases hm0 : m = 0
            · rw [if_pos hm0, if_pos hm0]
            · rw [if_neg hm0, if_neg hm0]
              by_cases hm1 : m % 2 = 1
              · rw [if_pos hm1, if_pos hm1, if_neg (by omega)]
              · rw [if_neg hm1, if_neg hm1]
        · rw [if_neg h1, T.get_node, T.get_node, e2 r _ _ h0 h1 rfl]
          by_cases hm : m = n
          · subst hm; rw [if_neg h0, if_neg h1, if_pos rfl, if_pos rfl]
          · rw [if_neg hm]
            by_cases hm0 : m = 0
            · rw [if_pos hm0, if_pos hm0]
            · rw [if_neg hm0, if_neg hm0]
              by_cases hm1 : m % 2 = 1
              · rw [if_pos hm1, if_pos hm1]
              · rw [if_neg hm1, if_neg hm1, if_neg (by omega)]
    cases t with
    | nil =>
      have := key .nil .nil none
      rw [T.get_node, T.get_nil, T.get_nil] at this
      simp only [T.set, nbeq, cond_eq_ite, decide_eq_true_eq]
      rw [this, T.get_nil]
      by_cases hm : m = n
      · simp [hm]
      · rw [if_neg hm, if_neg hm]; split <;> simp
    | node l v r =>
      simp only [T.set, nbeq, cond_eq_ite, decide_eq_true_eq]
      exact key l r v

theorem T.get_put (t : T α) (n m : Nat) (x : α) (h : n < 500000000000) : (t.put n x).get m = if m = n then some x else t.get m :=
  T.get_set x 40 t n m (by omega)

theorem Q4.pick_upd (x : Q4 α) (f : α → α) : ∀ (i j : Nat), i < 4 → j < 4 → (x.upd f i).pick j = if j = i then f (x.pick j) else x.pick j := by
  intro i j hi hj
  have : ∀ i, i < 4 → i = 0 ∨ i = 1 ∨ i = 2 ∨ i = 3 := by omega
  rcases this i hi with rfl | rfl | rfl | rfl <;> rcases this j hj with rfl | rfl | rfl | rfl <;> rfl

theorem Lv.at_set (v : α) : ∀ (k : Nat) (x : Lv α k) (n m : Nat), n < 4 ^ k → m < 4 ^ k → Lv.at k (Lv.set v k x n) m = if m = n then v else Lv.at k x m
  | 0, x, n, m, hn, hm => by
    simp only [Nat.pow_zero] at hn hm
    rw [if_pos (by omega)]; rfl
  | k + 1, x, n, m, hn, hm => by
    have hp : 4 ^ (k + 1) = 4 * 4 ^ k := by rw [Nat.pow_succ, Nat.mul_comm]
    show Lv.at k (Q4.pick (α := Lv α k) (Q4.upd (α := Lv α k) x (fun y => Lv.set v k y (n / 4)) (n % 4)) (m % 4)) (m / 4) = if m = n then v else Lv.at k (Q4.pick (α := Lv α k) x (m % 4)) (m / 4)
    have hpu := Q4.pick_upd (α := Lv α k) x (fun y => Lv.set v k y (n / 4)) (n % 4) (m % 4) (Nat.mod_lt _ (by decide)) (Nat.mod_lt _ (by decide))
    rw [hpu]
    by_cases e : m % 4 = n % 4
    · rw [if_pos e, Lv.at_set v k _ _ _ (by omega) (by omega)]
      by_cases e' : m / 4 = n / 4
      · rw [if_pos e', if_pos (by omega)]
      · rw [if_neg e', if_neg (by intro h; exact e' (by rw [h]))]
    · rw [if_neg e, if_neg (by intro h; exact e (by rw [h]))]

theorem Lv.at_rep (v : α) : ∀ (k : Nat) (n : Nat), Lv.at k (Lv.rep v k) n = v
  | 0, _ => rfl
  | k + 1, n => by
    show Lv.at k (Q4.pick (α := Lv α k) ⟨Lv.rep v k, Lv.rep v k, Lv.rep v k, Lv.rep v k⟩ (n % 4)) (n / 4) = v
    have : ∀ i, Q4.pick (⟨Lv.rep v k, Lv.rep v k, Lv.rep v k, Lv.rep v k⟩ : Q4 (Lv α k)) i = Lv.rep v k := by
      intro i
      match i with
      | 0 => rfl
      | 1 => rfl
      | 2 => rfl
      | _ + 3 => rfl
    rw [this]; exact Lv.at_rep v k _

theorem Slots.get_put (t : Slots) (n m : Nat) (x : AVal) (h : n < 256) : Slots.get (Slots.put t n x) m = if m = n then some x else Slots.get t m := by
  unfold Slots.get Slots.put
  rw [nblt, cond_eq_ite, cond_eq_ite]
  by_cases hm : m < 256
  · simp only [hm, decide_true, if_true]
    rw [Lv.at_set x 4 t n m h hm]
    split <;> rfl
  · simp only [hm, decide_false, Bool.false_eq_true, if_false]
    rw [if_neg (by omega)]

theorem Slots.get_nil {n : Nat} {v : AVal} (h : Slots.get Slots.nil n = some v) : v = .any := by
  unfold Slots.get Slots.nil at h
  rw [nblt, cond_eq_ite] at h
  split at h
  · rw [Lv.at_rep] at h; cases h; rfl
  · cases h

theorem Lv.at_mod (f : α → α) : ∀ (k : Nat) (x : Lv α k) (n m : Nat), n < 4 ^ k → m < 4 ^ k → Lv.at k (Lv.mod f k x n) m = if m = n then f (Lv.at k x m) else Lv.at k x m
  | 0, x, n, m, hn, hm => by
    simp only [Nat.pow_zero] at hn hm
    rw [if_pos (by omega)]; rfl
  | k + 1, x, n, m, hn, hm => by
    have hp : 4 ^ (k + 1) = 4 * 4 ^ k := by rw [Nat.pow_succ, Nat.mul_comm]
    show Lv.at k (Q4.pick (α := Lv α k) (Q4.upd (α := Lv α k) x (fun y => Lv.mod f k y (n / 4)) (n % 4)) (m % 4)) (m / 4) = if m = n then f (Lv.at k (Q4.pick (α := Lv α k) x (m % 4)) (m / 4)) else Lv.at k (Q4.pick (α := Lv α k) x (m % 4)) (m / 4)
    have hpu := Q4.pick_upd (α := Lv α k) x (fun y => Lv.mod f k y (n / 4)) (n % 4) (m % 4) (Nat.mod_lt _ (by decide)) (Nat.mod_lt _ (by decide))
    rw [hpu]
    by_cases e : m % 4 = n % 4
    · rw [if_pos e, Lv.at_mod f k _ _ _ (by omega) (by omega)]
      by_cases e' : m / 4 = n / 4
      · rw [if_pos e', if_pos (by omega)]
      · rw [if_neg e', if_neg (by intro h; exact e' (by rw [h]))]
    · rw [if_neg e, if_neg (by intro h; exact e (by rw [h]))]

theorem Hp.get_put (t : Hp) (n m : Nat) (x : Cel) (h : n < 1048576) : Hp.get (Hp.put t n x) m = if m = n then some x else Hp.get t m := by
  unfold Hp.get Hp.put
  rw [nblt, cond_eq_ite, cond_eq_ite]
  by_cases hm : m < 1048576
  · simp only [hm, decide_true, if_true]
    rw [Lv.at_mod _ 6 t (n / 256) (m / 256) (by omega) (by omega)]
    by_cases e : m / 256 = n / 256
    · rw [if_pos e, Lv.at_set (some x) 4 _ (n % 256) (m % 256) (by omega) (by omega)]
      by_cases e' : m % 256 = n % 256
      · rw [if_pos e', if_pos (by omega)]
      · rw [if_neg e', if_neg (by intro h; exact e' (by rw [h]))]
    · rw [if_neg e, if_neg (by intro h; exact e (by rw [h]))]
  · simp only [hm, decide_false, Bool.false_eq_true, if_false]
    rw [if_neg (by omega)]

theorem Hp.get_nil (n : Nat) : Hp.get Hp.nil n = none := by
  unfold Hp.get Hp.nil
  rw [Lv.at_rep, Lv.at_rep]
  cases Nat.blt n 1048576 <;> rfl

theorem Mem.get_nil (b : Nat) : Mem.get Mem.nil b = none := by
  unfold Mem.get
  rw [show Hp.get Mem.nil.blocks b = none from Hp.get_nil b]
theorem Mem.getC_nil (b : Nat) : Mem.getC Mem.nil b = none := by
  unfold Mem.getC
  rw [show Hp.get Mem.nil.blocks b = none from Hp.get_nil b]

def T.allp (p : Nat → α → Bool) : Nat → Nat → T α → Bool
  | _, _, .nil => true
  | a, b, .node l v r => (match v with | some x => p b x | none => true) && T.allp p (2 * a) (a + b) l && T.allp p (2 * a) (2 * a + b) r

theorem T.allp_get (p : Nat → α → Bool) : ∀ (t : T α) (a b n : Nat) (x : α), T.allp p a b t = true → t.get n = some x → p (a * n + b) x = true
  | .nil, _, _, _, _, _, h => by simp [T.get] at h
  | .node l v r, a, b, n, x, hp, h => by
    simp only [T.allp, Bool.and_eq_true] at hp
    obtain ⟨⟨h1, h2⟩, h3⟩ := hp
    by_cases h0 : n = 0
    · subst h0
      rw [T.get_node, if_pos rfl] at h
      subst h
      simpa using h1
    · by_cases hm : n % 2 = 1
      · have hg : l.get (n / 2) = some x := by rw [T.get_node, if_neg h0, if_pos hm] at h; exact h
        have := T.allp_get p l (2 * a) (a + b) (n / 2) x h2 hg
        rw [show 2 * a * (n / 2) + (a + b) = a * n + b by
          have : n = 2 * (n / 2) + 1 := by omega
          generalize n / 2 = k at *
          subst this
          rw [Nat.mul_add, Nat.mul_one, ← Nat.mul_assoc, Nat.mul_comm a 2]; omega] at this
        exact this
      · have hg : r.get (n / 2 - 1) = some x := by rw [T.get_node, if_neg h0, if_neg hm] at h; exact h
        have := T.allp_get p r (2 * a) (2 * a + b) (n / 2 - 1) x h3 hg
        rw [show 2 * a * (n / 2 - 1) + (2 * a + b) = a * n + b by
          have : n = 2 * (n / 2 - 1) + 2 := by omega
          generalize n / 2 - 1 = k at *
          subst this
          rw [Nat.mul_add, ← Nat.mul_assoc, Nat.mul_comm a 2]; omega] at this
        exact this
end

/-! ### The relations -/
structure BI where
  ext : Nat
  cb : Nat
  tot : Nat

structure Ctx where
  blk : Nat → Option BI
  dom : Nat → Prop
  ro : Nat → Nat → Option Value
  inp : Nat → Value

mutual
def VR (Γ : Ctx) : AVal → Value → Prop
  | .any, _ => True
  | .bool b, v => v = .bool b
  | .int k n, v => v = .int k n
  | .str s, v => v = .string s
  | .nilp, v => v = .pointer none
  | .ptr b ext off, v => ∃ a, v = .pointer (some a) ∧ Γ.dom b ∧ ∀ i, Γ.blk b = some i → ext ≤ i.ext ∧ (ext = i.ext → a = ⟨i.cb, off, none⟩)
  | .iptr cells, v => ∃ a, v = .pointer (some a) ∧ a.spot = none ∧ roRel Γ cells a.block a.off
  | .nil s, v => ∃ a, v = .slice a 0 0 ∧ (s = true → a = none)
  | .ref b ext off n lo exact sz, v => ∃ a c, v = .slice (some a) n c ∧ n ≤ lo ∧ lo ≤ c ∧ (exact = true → c = lo) ∧ Γ.dom b ∧
      ∀ i, Γ.blk b = some i → ext ≤ i.ext ∧ (ext = i.ext → a = ⟨i.cb, off, none⟩ ∧ off + c * sz ≤ i.tot)
  | .imm cells n, v => ∃ a c, v = .slice a n c ∧ n ≤ c ∧ (cells ≠ [] → ∃ ad, a = some ad ∧ ad.spot = none ∧ roRel Γ cells ad.block ad.off)
  | .nilf, v => v = .nilFunc
  | .fn f xs ys, v => ∃ us vs, v = .func (.func f) us vs ∧ VRs Γ xs us.toList ∧ VRs Γ ys vs.toList
  | .agg cs, v => ∃ us, v = .agg us ∧ VRs Γ cs us.toList ∧ ∀ u ∈ us.toList, u.oneCell' = true
  | .tup vs, v => ∃ us, v = .tuple us ∧ VRs Γ vs us.toList
  | .opq k, v => v = Γ.inp k ∧ v.oneCell' = true
  | .one, v => v.oneCell' = true
  | .chan b, v => ∃ cb, v = .chan (some cb) ∧ Γ.dom b ∧ ∀ i, Γ.blk b = some i → (0 = i.ext → cb = i.cb)
def VRs (Γ : Ctx) : List AVal → List Value → Prop
  | [], l => l = []
  | a :: as, l => ∃ v vs, l = v :: vs ∧ VR Γ a v ∧ VRs Γ as vs
def roRel (Γ : Ctx) : List AVal → Nat → Nat → Prop
  | [], _, _ => True
  | c :: cs, b, o => (∃ v, Γ.ro b o = some v ∧ VR Γ c v ∧ v.oneCell' = true) ∧ roRel Γ cs b (o + 1)
end

structure Ctx.le (Γ Δ : Ctx) : Prop where
  dom : ∀ b, Γ.dom b → Δ.dom b
  blk : ∀ b i, Γ.dom b → Δ.blk b = some i → ∃ j, Γ.blk b = some j ∧ (j = i ∨ j.ext < i.ext)
  ro : ∀ b o v, Γ.ro b o = some v → Δ.ro b o = some v
  inp : Δ.inp = Γ.inp

theorem Ctx.le.refl (Γ : Ctx) : Γ.le Γ := ⟨fun _ h => h, fun _ i _ h => ⟨i, h, .inl rfl⟩, fun _ _ _ h => h, rfl⟩

theorem Ctx.le.trans {Γ Δ Θ : Ctx} (h : Γ.le Δ) (k : Δ.le Θ) : Γ.le Θ := by
  refine ⟨fun b hb => k.dom b (h.dom b hb), fun b i hb hi => ?_, fun b o v hv => k.ro b o v (h.ro b o v hv), k.inp.trans h.inp⟩
  obtain ⟨j, hj, hji⟩ := k.blk b i (h.dom b hb) hi
  obtain ⟨l, hl, hlj⟩ := h.blk b j hb hj
  refine ⟨l, hl, ?_⟩
  rcases hji with rfl | hji
  · exact hlj
  · rcases hlj with rfl | hlj
    · exact .inr hji
    · exact .inr (Nat.lt_trans hlj hji)

mutual
theorem VR.mono {Γ Δ : Ctx} (h : Γ.le Δ) : ∀ (a : AVal) (v : Value), VR Γ a v → VR Δ a v
  | .any, _, _ => by simp [VR]
  | .bool b, v, hv => by simpa [VR] using hv
  | .int k n, v, hv => by simpa [VR] using hv
  | .str s, v, hv => by simpa [VR] using hv
  | .nilp, v, hv => by simpa [VR] using hv
  | .ptr b ext off, v, hv => by
    simp only [VR] at hv ⊢
    obtain ⟨a, rfl, hb, hk⟩ := hv
    refine ⟨a, rfl, h.dom b hb, fun i hi => ?_⟩
    obtain ⟨j, hj, hji⟩ := h.blk b i hb hi
    have := hk j hj
    rcases hji with rfl | hlt
    · exact this
    · exact ⟨by omega, fun he => by omega⟩
  | .iptr cells, v, hv => by
    simp only [VR] at hv ⊢
    obtain ⟨a, rfl, hs, hr⟩ := hv
    exact ⟨a, rfl, hs, roRel.mono h cells _ _ hr⟩
  | .nil s, v, hv => by simpa [VR] using hv
  | .ref b ext off n lo exact sz, v, hv => by
    simp only [VR] at hv ⊢
    obtain ⟨a, c, rfl, h1, h2, h3, hb, hk⟩ := hv
    refine ⟨a, c, rfl, h1, h2, h3, h.dom b hb, fun i hi => ?_⟩
    obtain ⟨j, hj, hji⟩ := h.blk b i hb hi
    have := hk j hj
    rcases hji with rfl | hlt
    · exact this
    · exact ⟨by omega, fun he => by omega⟩
  | .imm cells n, v, hv => by
    simp only [VR] at hv ⊢
    obtain ⟨a, c, rfl, h1, h2⟩ := hv
    refine ⟨a, c, rfl, h1, fun hc => ?_⟩
    obtain ⟨ad, ha, hs, hr⟩ := h2 hc
    exact ⟨ad, ha, hs, roRel.mono h cells _ _ hr⟩
  | .nilf, v, hv => by simpa [VR] using hv
  | .fn f xs ys, v, hv => by
    simp only [VR] at hv ⊢
    obtain ⟨us, vs, rfl, h1, h2⟩ := hv
    exact ⟨us, vs, rfl, VRs.mono h xs _ h1, VRs.mono h ys _ h2⟩
  | .agg cs, v, hv => by
    simp only [VR] at hv ⊢
    obtain ⟨us, rfl, h1, h2⟩ := hv
    exact ⟨us, rfl, VRs.mono h cs _ h1, h2⟩
  | .tup cs, v, hv => by
    simp only [VR] at hv ⊢
    obtain ⟨us, rfl, h1⟩ := hv
    exact ⟨us, rfl, VRs.mono h cs _ h1⟩
  | .opq u, v, hv => by simpa [VR, h.inp] using hv
  | .one, v, hv => by simpa [VR] using hv
  | .chan b, v, hv => by
    simp only [VR] at hv ⊢
    obtain ⟨cb, rfl, hb, hk⟩ := hv
    refine ⟨cb, rfl, h.dom b hb, fun i hi he => ?_⟩
    obtain ⟨j, hj, hji⟩ := h.blk b i hb hi
    rcases hji with rfl | hlt
    · exact hk _ hj he
    · omega
theorem VRs.mono {Γ Δ : Ctx} (h : Γ.le Δ) : ∀ (as : List AVal) (vs : List Value), VRs Γ as vs → VRs Δ as vs
  | [], vs, hv => by simpa [VRs] using hv
  | a :: as, l, hv => by
    simp only [VRs] at hv ⊢
    obtain ⟨v, vs, rfl, h1, h2⟩ := hv
    exact ⟨v, vs, rfl, VR.mono h a v h1, VRs.mono h as vs h2⟩
theorem roRel.mono {Γ Δ : Ctx} (h : Γ.le Δ) : ∀ (cs : List AVal) (b o : Nat), roRel Γ cs b o → roRel Δ cs b o
  | [], _, _, _ => by simp [roRel]
  | c :: cs, b, o, hr => by
    simp only [roRel] at hr ⊢
    obtain ⟨⟨v, h1, h2, h3⟩, h4⟩ := hr
    exact ⟨⟨v, h.ro b o v h1, VR.mono h c v h2, h3⟩, roRel.mono h cs b (o + 1) h4⟩
end

/-- Memory: each block that is known lies in a block of its own; what is read-only stays as it is. -/
structure MemR (Γ : Ctx) (m : Mem) (w : World) : Prop where
  dom : ∀ b, Γ.dom b ↔ b < m.next
  small : m.next ≤ 1048576
  gone : ∀ b, m.get b = none → m.getC b = none → b < m.next → Γ.blk b = none
  chan : ∀ b cap q, m.getC b = some (cap, q) → b < m.next ∧ ∃ (cb : Nat) (buf : Array Value) (s r : Nat), Γ.blk b = some ⟨0, cb, 0⟩ ∧ w.heap[cb]? = some (.chan cap buf false s r false) ∧ VRs Γ q buf.toList
  blk : ∀ b B, m.get b = some B → b < m.next ∧ ∃ (cb : Nat) (cs : Array Value), Γ.blk b = some ⟨B.cells.length, cb, cs.size⟩ ∧ w.heap[cb]? = some (.cells cs B.ty (0, 0)) ∧ B.cells.length ≤ cs.size ∧
    (∀ (i : Nat) (a : AVal), B.cells[i]? = some a → ∃ v : Value, cs[i]? = some v ∧ VR Γ a v ∧ v.oneCell' = true) ∧ ∀ i, B.fz ≤ i → Γ.ro cb i = none
  inj : ∀ b b' i i', b < m.next → b' < m.next → Γ.blk b = some i → Γ.blk b' = some i' → i.cb = i'.cb → b = b'
  ro : ∀ b o v, Γ.ro b o = some v → w.cell? ⟨b, o, none⟩ = some v

/-- What reading asks of memory. -/
structure MemV (Γ : Ctx) (m : Mem) (w : World) : Prop where
  blk : ∀ b B, Γ.dom b → m.get b = some B → ∃ (cb : Nat) (cs : Array Value), Γ.blk b = some ⟨B.cells.length, cb, cs.size⟩ ∧ w.heap[cb]? = some (.cells cs B.ty (0, 0)) ∧ B.cells.length ≤ cs.size ∧
    ∀ (i : Nat) (a : AVal), B.cells[i]? = some a → ∃ v : Value, cs[i]? = some v ∧ VR Γ a v ∧ v.oneCell' = true
  ro : ∀ b o v, Γ.ro b o = some v → w.cell? ⟨b, o, none⟩ = some v

theorem MemR.view {Γ : Ctx} {m : Mem} {w : World} (h : MemR Γ m w) : MemV Γ m w :=
  ⟨fun b B _ hb => by obtain ⟨_, cb, cs, h2, h3, h4, h5, _⟩ := h.blk b B hb; exact ⟨cb, cs, h2, h3, h4, h5⟩, h.ro⟩

/-- From one moment to a later one. -/
structure Step (Γ : Ctx) (w : World) (Δ : Ctx) (w' : World) : Prop where
  le : Γ.le Δ
  os : w'.os = w.os
  tape : w'.tape = w.tape
  output : w'.output = w.output
  size : w.heap.size ≤ w'.heap.size
  frame : ∀ k, k < w.heap.size → (∀ b i, Γ.dom b → Γ.blk b = some i → i.cb ≠ k) → w'.heap[k]? = w.heap[k]?
  own : ∀ b i, Δ.dom b → Δ.blk b = some i → i.cb < w.heap.size → ∃ b' i', Γ.dom b' ∧ Γ.blk b' = some i' ∧ i'.cb = i.cb
  roNew : ∀ c o v, Δ.ro c o = some v → Γ.ro c o = some v ∨ w.heap.size ≤ c ∨ ∃ b i, Γ.dom b ∧ Γ.blk b = some i ∧ i.cb = c

theorem Step.refl (Γ : Ctx) (w : World) : Step Γ w Γ w :=
  ⟨.refl Γ, rfl, rfl, rfl, Nat.le_refl _, fun _ _ _ => rfl, fun b i hb hi _ => ⟨b, i, hb, hi, rfl⟩, fun _ _ _ h => .inl h⟩

theorem Step.trans {Γ Δ Θ : Ctx} {w w1 w2 : World} (h : Step Γ w Δ w1) (k : Step Δ w1 Θ w2) : Step Γ w Θ w2 := by
  refine ⟨h.le.trans k.le, k.os.trans h.os, k.tape.trans h.tape, k.output.trans h.output, Nat.le_trans h.size k.size, fun c hc hn => ?_, fun b i hb hi hlt => ?_, fun c o v hv => ?_⟩
  · rw [k.frame c (Nat.lt_of_lt_of_le hc h.size) (fun b i hb hi he => ?_), h.frame c hc hn]
    obtain ⟨b', i', hb', hi', he'⟩ := h.own b i hb hi (by omega)
    exact hn b' i' hb' hi' (he'.trans he)
  · obtain ⟨b', i', hb', hi', he'⟩ := k.own b i hb hi (Nat.lt_of_lt_of_le hlt h.size)
    obtain ⟨b'', i'', hb'', hi'', he''⟩ := h.own b' i' hb' hi' (by omega)
    exact ⟨b'', i'', hb'', hi'', he''.trans he'⟩
  · rcases k.roNew c o v hv with h1 | h1 | ⟨b, i, h1, h2, h3⟩
    · exact h.roNew c o v h1
    · exact .inr (.inl (Nat.le_trans h.size h1))
    · by_cases hlt : c < w.heap.size
      · obtain ⟨b', i', e1, e2, e3⟩ := h.own b i h1 h2 (by omega)
        exact .inr (.inr ⟨b', i', e1, e2, e3.trans h3⟩)
      · exact .inr (.inl (by omega))

structure StR (Γ0 Γ : Ctx) (st : St) (a : Act) (w : World) : Prop where
  mem : MemR Γ st.mem w
  slots : ∀ d v, Slots.get st.slots d = some v → VR Γ v (a.tmps.getD d undef)
  nt : a.tmps.size = st.nt
  small : st.nt ≤ 256
  defers : a.defers = []
  base : Γ0.le Γ

theorem StR.slot {Γ0 Γ : Ctx} {st : St} {a : Act} {w : World} (h : StR Γ0 Γ st a w) (d : Nat) : VR Γ (st.slot d) (a.tmps.getD d undef) := by
  unfold St.slot
  cases hg : Slots.get st.slots d with
  | none => simp [VR]
  | some v => exact h.slots d v hg

theorem VR_ofConst1 (Γ : Ctx) (v : Value) : VR Γ (ofConst1 v) v := by
  unfold ofConst1
  split <;> simp [VR]

theorem VRs_ofConst1 (Γ : Ctx) : ∀ (l : List Value), VRs Γ (l.map ofConst1) l
  | [] => by simp [VRs]
  | v :: l => by simp only [List.map_cons, VRs]; exact ⟨v, l, rfl, VR_ofConst1 Γ v, VRs_ofConst1 Γ l⟩

theorem VR_ofConst (Γ : Ctx) (v : Value) : VR Γ (ofConst v) v := by
  unfold ofConst
  split
  · rename_i cs
    cases h : cs.toList.all (·.oneCell') with
    | true =>
      simp only [cond_true, VR]
      exact ⟨cs, rfl, VRs_ofConst1 Γ _, fun u hu => List.all_eq_true.1 h u hu⟩
    | false => simp [VR]
  · exact VR_ofConst1 Γ v

end Go.V
end

section
/-
  Comparing two values cell by cell gives what the model's '==' gives, at the types of which the program's own tables say so.
-/
namespace Go.V

def asVal (P : Program) (t : TypeId) (us : List Value) : Value :=
  match P.underlying t with
  | some (.struct _) | some (.array ..) => .agg us.toArray
  | _ => us.headD undef

theorem VRs.length {Γ : Ctx} : ∀ {as : List AVal} {vs : List Value}, VRs Γ as vs → as.length = vs.length
  | [], vs, h => by simp [VRs] at h; simp [h]
  | a :: as, l, h => by
    simp only [VRs] at h
    obtain ⟨v, vs, rfl, _, h2⟩ := h
    simp [VRs.length h2]

theorem VRs.get {Γ : Ctx} : ∀ {as : List AVal} {vs : List Value} {i : Nat} {a : AVal}, VRs Γ as vs → as[i]? = some a → ∃ v, vs[i]? = some v ∧ VR Γ a v
  | [], vs, i, a, _, ha => by simp at ha
  | x :: as, l, i, a, h, ha => by
    simp only [VRs] at h
    obtain ⟨v, vs, rfl, h1, h2⟩ := h
    cases i with
    | zero => simp at ha; subst ha; exact ⟨v, by simp, h1⟩
    | succ i => simp at ha; obtain ⟨u, hu, hr⟩ := VRs.get h2 ha; exact ⟨u, by simpa using hu, hr⟩

theorem VRs.of_get {Γ : Ctx} : ∀ {as : List AVal} {vs : List Value}, as.length = vs.length → (∀ (i : Nat) a, as[i]? = some a → ∃ v, vs[i]? = some v ∧ VR Γ a v) → VRs Γ as vs
  | [], vs, hl, _ => by simp at hl; simp [VRs]; exact List.eq_nil_of_length_eq_zero hl.symm
  | x :: as, [], hl, _ => by simp at hl
  | x :: as, v :: vs, hl, h => by
    simp only [VRs]
    obtain ⟨u, hu, hr⟩ := h 0 x rfl
    simp at hu; subst hu
    exact ⟨v, vs, rfl, hr, VRs.of_get (by simpa using hl) (fun i a ha => by have := h (i + 1) a (by simpa using ha); simpa using this)⟩

theorem VRs.drop {Γ : Ctx} : ∀ {as : List AVal} {vs : List Value} (n : Nat), VRs Γ as vs → VRs Γ (as.drop n) (vs.drop n)
  | as, vs, 0, h => by simpa using h
  | [], vs, n + 1, h => by simp [VRs] at h; simp [h, VRs]
  | a :: as, l, n + 1, h => by
    simp only [VRs] at h
    obtain ⟨v, vs, rfl, _, h2⟩ := h
    simpa using VRs.drop n h2

theorem VRs.take {Γ : Ctx} : ∀ {as : List AVal} {vs : List Value} (n : Nat), VRs Γ as vs → VRs Γ (as.take n) (vs.take n)
  | as, vs, 0, h => by simp [VRs]
  | [], vs, n + 1, h => by simp [VRs] at h; simp [h, VRs]
  | a :: as, l, n + 1, h => by
    simp only [VRs] at h
    obtain ⟨v, vs, rfl, h1, h2⟩ := h
    simp only [List.take_succ_cons, VRs]
    exact ⟨v, _, rfl, h1, VRs.take n h2⟩

theorem VRs.append {Γ : Ctx} : ∀ {as bs : List AVal} {vs us : List Value}, VRs Γ as vs → VRs Γ bs us → VRs Γ (as ++ bs) (vs ++ us)
  | [], bs, vs, us, h, k => by simp [VRs] at h; simpa [h] using k
  | a :: as, bs, l, us, h, k => by
    simp only [VRs] at h
    obtain ⟨v, vs, rfl, h1, h2⟩ := h
    simp only [List.cons_append, VRs]
    exact ⟨v, _, rfl, h1, VRs.append h2 k⟩

theorem eqCells_cons {k : FK} {ks : List FK} {xs ys : List AVal} {r : Bool} (h : eqCells (k :: ks) xs ys = some r) :
    ∃ x xs' y ys' a b, xs = x :: xs' ∧ ys = y :: ys' ∧ eq1 k x y = some a ∧ eqCells ks xs' ys' = some b ∧ r = (a && b) := by
  cases xs with
  | nil => simp [eqCells] at h
  | cons x xs =>
    cases ys with
    | nil => simp [eqCells] at h
    | cons y ys =>
      simp only [eqCells] at h
      cases h1 : eq1 k x y with
      | none => simp [h1] at h
      | some a =>
        cases h2 : eqCells ks xs ys with
        | none => simp [h1, h2] at h
        | some b => simp only [h1, h2, Option.some.injEq] at h; exact ⟨x, xs, y, ys, a, b, rfl, rfl, h1, h2, h.symm⟩

theorem eqCells_len : ∀ {ks : List FK} {xs ys : List AVal} {r : Bool}, eqCells ks xs ys = some r → xs.length = ks.length ∧ ys.length = ks.length := by
  intro ks
  induction ks with
  | nil => intro xs ys r h; cases xs <;> cases ys <;> simp [eqCells] at h; simp
  | cons k ks ih =>
    intro xs ys r h
    obtain ⟨x, xs', y, ys', a, b, rfl, rfl, _, h2, _⟩ := eqCells_cons h
    simp [ih h2]

theorem eqCells_append : ∀ {ks ls : List FK} {xs ys : List AVal} {r : Bool}, eqCells (ks ++ ls) xs ys = some r →
    ∃ r1 r2, eqCells ks (xs.take ks.length) (ys.take ks.length) = some r1 ∧ eqCells ls (xs.drop ks.length) (ys.drop ks.length) = some r2 ∧ r = (r1 && r2) := by
  intro ks
  induction ks with
  | nil => intro ls xs ys r h; exact ⟨true, r, by simp [eqCells], by simpa using h, by simp⟩
  | cons k ks ih =>
    intro ls xs ys r h
    obtain ⟨x, xs', y, ys', a, b, rfl, rfl, h1, h2, rfl⟩ := eqCells_cons h
    obtain ⟨r1, r2, h3, h4, rfl⟩ := ih h2
    exact ⟨a && r1, r2, by simp [eqCells, h1, h3], by simpa using h4, by simp [Bool.and_assoc]⟩

theorem eqCells_one {k : FK} {x y : AVal} {r : Bool} (h : eqCells [k] [x] [y] = some r) : eq1 k x y = some r := by
  obtain ⟨x', xs', y', ys', a, b, h1, h2, h3, h4, h5⟩ := eqCells_cons h
  cases h1; cases h2
  simp [eqCells] at h4
  subst h4
  simpa [h5] using h3

theorem eq1_b {x y : AVal} {r : Bool} (h : eq1 .b x y = some r) : ∃ a b, x = .bool a ∧ y = .bool b ∧ r = (a == b) := by
  cases x <;> cases y <;> simp [eq1] at h
  exact ⟨_, _, rfl, rfl, by rw [← h]⟩
theorem eq1_s {x y : AVal} {r : Bool} (h : eq1 .s x y = some r) : ∃ a b, x = .str a ∧ y = .str b ∧ r = (a.toList == b.toList) := by
  cases x <;> cases y <;> simp [eq1] at h
  exact ⟨_, _, rfl, rfl, by rw [← h]⟩
theorem eq1_i {x y : AVal} {r : Bool} (h : eq1 .i x y = some r) : ∃ k a b, x = .int k a ∧ y = .int k b ∧ r = decide (a = b) := by
  cases x with
  | int k a =>
    cases y with
    | int l b =>
      simp only [eq1, cond_eq_ite, decide_eq_true_eq] at h
      split at h
      · rename_i hk; subst hk; exact ⟨_, _, _, rfl, rfl, by simpa using h.symm⟩
      · cases h
    | _ => simp [eq1] at h
  | _ => simp [eq1] at h

def descAgg : TypeDesc → Bool
  | .struct _ | .array .. => true
  | _ => false

section
variable {P : Program} {w : World}

theorem info_of_underlying {t : TypeId} {d : TypeDesc} (h : P.underlying t = some d) : ∃ i, P.info? t = some i := by
  unfold Program.underlying at h
  cases hi : P.info? t with
  | none => simp [hi] at h
  | some i => exact ⟨i, rfl⟩

theorem run_part {t : TypeId} {d : TypeDesc} (hd : P.underlying t = some d) {size : Nat} (hs : P.cellsOf t = size) (h1 : descAgg d = false → size = 1)
    (cs : Array Value) (off : Nat) (hl : off + size ≤ cs.size) : (part t cs off).run P w = .ok (asVal P t ((cs.toList.drop off).take size)) w := by
  obtain ⟨i, hi⟩ := info_of_underlying hd
  have hz : i.size = size := by simpa [Program.cellsOf, hi] using hs
  have hagg : (isAgg t).run P w = .ok (descAgg d) w := by
    unfold isAgg
    rw [Sem.run_bind, run_underlying hd w]
    cases d <;> simp [descAgg]
  unfold part asVal
  rw [Sem.run_bind, hagg, hd]
  simp only [Result.andThen_ok]
  cases hb : descAgg d with
  | true =>
    have e : Array.extract cs off (off + size) = ((cs.toList.drop off).take size).toArray := by
      apply Array.ext'
      simp [Array.toList_extract, List.extract_eq_take_drop]
    cases d <;> simp [descAgg] at hb <;> simp [sizeOf, typeInfo, hi, hz, e]
  | false =>
    have hs1 := h1 hb
    subst hs1
    have hlt : off < cs.size := by omega
    have e : (cs.toList.drop off).take 1 = [cs[off]] := by
      rw [List.drop_eq_getElem_cons (by simpa using hlt)]
      simp
    cases d <;> simp [descAgg] at hb <;> simp [e, hlt]

theorem kinds_scalar {n : Nat} {t : TypeId} {ks : List FK} (h : kindsOf P n t = some ks) {d : TypeDesc} (hd : P.underlying t = some d) :
    descAgg d = false → ks.length = 1 := by
  intro hb
  cases n with
  | zero => simp [kindsOf] at h
  | succ n =>
    simp only [kindsOf, hd] at h
    cases d <;> simp [descAgg] at h hb <;> (subst h; rfl)

theorem kinds_underlying {n : Nat} {t : TypeId} {ks : List FK} (h : kindsOf P n t = some ks) : ∃ d, P.underlying t = some d := by
  cases n with
  | zero => simp [kindsOf] at h
  | succ n =>
    cases hd : P.underlying t with
    | none => simp [kindsOf, hd] at h
    | some d => exact ⟨d, rfl⟩

theorem one_of_scalar {Γ : Ctx} {x y : AVal} {xs ys : List AVal} {us vs : List Value} (hx : VRs Γ (x :: xs) us) (hy : VRs Γ (y :: ys) vs) (hlx : xs = []) (hly : ys = []) :
    ∃ u v, us = [u] ∧ vs = [v] ∧ VR Γ x u ∧ VR Γ y v := by
  subst hlx; subst hly
  simp only [VRs] at hx hy
  obtain ⟨u, us', rfl, h1, rfl⟩ := hx
  obtain ⟨v, vs', rfl, h2, rfl⟩ := hy
  exact ⟨u, v, rfl, rfl, h1, h2⟩

theorem equalIn_ok (Γ : Ctx) : ∀ (n : Nat) (t : TypeId) (ks : List FK), kindsOf P n t = some ks → ∀ (d : Nat), n ≤ d → ∀ (xs ys : List AVal) (us vs : List Value) (r : Bool),
    VRs Γ xs us → VRs Γ ys vs → eqCells ks xs ys = some r → (Op.equalIn d t (asVal P t us) (asVal P t vs)).run P w = .ok r w := by
  intro n
  induction n with
  | zero => intro t ks h; simp [kindsOf] at h
  | succ n ih =>
    intro t ks hk d hd xs ys us vs r hx hy he
    obtain ⟨e, rfl⟩ : ∃ e, d = e + 1 := ⟨d - 1, by omega⟩
    obtain ⟨td, htd⟩ := kinds_underlying hk
    have hlen := eqCells_len he
    have scal : ∀ k, ks = [k] → ∃ x y u v, xs = [x] ∧ ys = [y] ∧ us = [u] ∧ vs = [v] ∧ VR Γ x u ∧ VR Γ y v := by
      intro k hk1
      subst hk1
      cases xs with
      | nil => simp at hlen
      | cons x xs =>
        cases ys with
        | nil => simp at hlen
        | cons y ys =>
          simp at hlen
          obtain ⟨u, v, h1, h2, h3, h4⟩ := one_of_scalar hx hy (List.eq_nil_of_length_eq_zero (by simpa using hlen.1)) (List.eq_nil_of_length_eq_zero (by simpa using hlen.2))
          exact ⟨x, y, u, v, by simp [hlen.1], by simp [hlen.2], h1, h2, h3, h4⟩
    have loop : ∀ (as bs : Array Value), VRs Γ xs as.toList → VRs Γ ys bs.toList → ∀ (fs : List Field) (off : Nat) (ls : List FK) (q : Bool),
        fieldsKinds P (kindsOf P n) off fs = some ls → eqCells ls (xs.drop off) (ys.drop off) = some q → (Op.eqFields e as bs fs).run P w = .ok q w := by
      intro as bs hxa hyb fs
      induction fs with
      | nil =>
        intro off ls q hf hq
        simp [fieldsKinds] at hf
        subst hf
        have := eqCells_len hq
        simp only [List.length_nil, List.length_eq_zero_iff] at this
        rw [this.1, this.2] at hq
        simp [eqCells] at hq
        subst hq
        simp [Op.eqFields]
      | cons f fs ihf =>
        intro off ls q hf hq
        simp only [fieldsKinds, cond_eq_ite, Bool.and_eq_true, nbeq, decide_eq_true_eq] at hf
        split at hf
        · rename_i hc
          obtain ⟨hname, hoff⟩ := hc
          cases hg : kindsOf P n f.type with
          | none => simp [hg] at hf
          | some k1 =>
            simp only [hg, Option.bind_some, nblt, decide_eq_true_eq] at hf
            split at hf
            · rename_i hcs0
              obtain ⟨hcs, hpos⟩ := hcs0
              cases hr : fieldsKinds P (kindsOf P n) (off + k1.length) fs with
              | none => simp [hr] at hf
              | some k2 =>
                simp [hr] at hf
                subst hf
                obtain ⟨r1, r2, h1, h2, rfl⟩ := eqCells_append hq
                rw [List.drop_drop, List.drop_drop] at h2
                obtain ⟨fd, hfd⟩ := kinds_underlying hg
                have l1 := eqCells_len h1
                have lx := hxa.length
                have ly := hyb.length
                simp only [List.length_take, List.length_drop] at l1
                have p1 := run_part (w := w) hfd hcs (kinds_scalar hg hfd) as off (by simp at lx; omega)
                have p2 := run_part (w := w) hfd hcs (kinds_scalar hg hfd) bs off (by simp at ly; omega)
                have hne : f.name ≠ "_" := by simpa using hname
                have q1 := ih f.type k1 hg e (by omega) _ _ _ _ r1 ((hxa.drop off).take k1.length) ((hyb.drop off).take k1.length) h1
                have q2 := ihf (off + k1.length) k2 r2 hr h2
                simp only [Op.eqFields, if_pos hne, Sem.run_bind]
                rw [← hoff] at p1 p2 q1
                rw [p1]
                simp only [Result.andThen_ok, p2, q1]
                cases r1 with
                | false => simp
                | true => simpa using q2
            · simp at hf
        · simp at hf
    simp only [kindsOf, htd] at hk
    cases td <;> simp only [reduceCtorEq] at hk
    case bool =>
      obtain ⟨x, y, u, v, rfl, rfl, rfl, rfl, h1, h2⟩ := scal .b (by simpa using hk.symm)
      simp only [Option.some.injEq] at hk; subst hk
      obtain ⟨a, b, rfl, rfl, rfl⟩ := eq1_b (eqCells_one he)
      simp only [VR] at h1 h2
      subst h1; subst h2
      simp only [asVal, htd, List.headD_cons]
      exact run_equalIn_bool w e t _ _ htd
    case int k =>
      obtain ⟨x, y, u, v, rfl, rfl, rfl, rfl, h1, h2⟩ := scal .i (by simpa using hk.symm)
      simp only [Option.some.injEq] at hk; subst hk
      obtain ⟨q, a, b, rfl, rfl, rfl⟩ := eq1_i (eqCells_one he)
      simp only [VR] at h1 h2
      subst h1; subst h2
      simp only [asVal, htd, List.headD_cons]
      rw [run_equalIn_int w e t _ _ _ _ htd]
      congr 1
    case string =>
      obtain ⟨x, y, u, v, rfl, rfl, rfl, rfl, h1, h2⟩ := scal .s (by simpa using hk.symm)
      simp only [Option.some.injEq] at hk; subst hk
      obtain ⟨a, b, rfl, rfl, rfl⟩ := eq1_s (eqCells_one he)
      simp only [VR] at h1 h2
      subst h1; subst h2
      simp only [asVal, htd, List.headD_cons]
      exact run_equalIn_string w e t _ _ htd
    case struct fs =>
      simp only [cond_eq_ite] at hk
      split at hk
      · simp at hk
      · rename_i hp
        have hf : P.fieldsOf t = fs := by simp [Program.fieldsOf, htd]
        simp only [asVal, htd]
        rw [run_equalIn_struct w e t _ _ (by rw [hf]; exact htd) (by simpa using hp), hf]
        exact loop us.toArray vs.toArray (by simpa using hx) (by simpa using hy) fs.toList 0 ks r hk (by simpa using he)
    case array m el =>
      cases hg : kindsOf P n el with
      | none => simp [hg] at hk
      | some k1 =>
        simp only [hg, Option.bind_some, cond_eq_ite, Bool.and_eq_true, nbeq, nble, nblt, decide_eq_true_eq] at hk
        split at hk
        · rename_i hcs
          simp only [Option.some.injEq] at hk
          subst hk
          obtain ⟨ed, hed⟩ := kinds_underlying hg
          obtain ⟨ei, hei⟩ := info_of_underlying hed
          have hz : ei.size = k1.length := by simpa [Program.cellsOf, hei] using hcs.1.1
          have key : ∀ (j i : Nat) (q : Bool), eqCells (repl k1 j) (xs.drop (i * k1.length)) (ys.drop (i * k1.length)) = some q →
              (forIn (m := Sem) (List.range' i j) ((none, ()) : Option Bool × PUnit) fun i _ => do
                let a ← part el us.toArray (i * k1.length)
                let b ← part el vs.toArray (i * k1.length)
                let c ← Op.equalIn e el a b
                if (!c) = true then pure (ForInStep.done (some false, ())) else pure (ForInStep.yield (none, ()))).run P w = .ok (if q then (none, ()) else (some false, ())) w := by
            intro j
            induction j with
            | zero =>
              intro i q hq
              simp only [repl] at hq
              have := eqCells_len hq
              simp only [List.length_nil, List.length_eq_zero_iff] at this
              rw [this.1, this.2] at hq
              simp [eqCells] at hq
              subst hq
              simp
            | succ j ihj =>
              intro i q hq
              simp only [repl] at hq
              obtain ⟨r1, r2, h1, h2, rfl⟩ := eqCells_append hq
              rw [List.drop_drop, List.drop_drop, show i * k1.length + k1.length = (i + 1) * k1.length by rw [Nat.add_mul, Nat.one_mul]] at h2
              have l1 := eqCells_len h1
              have lx := hx.length
              have ly := hy.length
              simp only [List.length_take, List.length_drop] at l1
              have p1 := run_part (w := w) hed hcs.1.1 (kinds_scalar hg hed) us.toArray (i * k1.length) (by simp; omega)
              have p2 := run_part (w := w) hed hcs.1.1 (kinds_scalar hg hed) vs.toArray (i * k1.length) (by simp; omega)
              have q1 := ih el k1 hg e (by omega) _ _ _ _ r1 ((hx.drop (i * k1.length)).take k1.length) ((hy.drop (i * k1.length)).take k1.length) h1
              have hj := ihj (i + 1) r2 h2
              simp only [List.range'_succ, List.forIn_cons, Sem.run_bind]
              rw [p1]
              simp only [Result.andThen_ok, p2, q1]
              cases r1 with
              | false => simp
              | true => simpa using hj
          have hkey := key m 0 r (by simpa using he)
          simp only [asVal, htd, Op.equalIn, Sem.run_bind, run_underlying htd, Result.andThen_ok]
          simp only [sizeOf, typeInfo, Sem.run_bind, run_program, hei, Sem.run_pure, Result.andThen_ok, hz]
          simp only [Std.Legacy.Range.forIn_eq_forIn_range']
          rw [show ([:m] : Std.Legacy.Range).size = m by simp [Std.Legacy.Range.size], hkey]
          cases r <;> simp
        · simp at hk
end
end Go.V
end

section
/-
  Reading: what the abstract machine reads out of its memory is what the model reads out of its own.
-/
namespace Go.V

structure TyOk (P : Program) (t : TypeId) (vt : VT) (i : TypeInfo) (d : TypeDesc) (z : Value) : Prop where
  flds : ∀ gs : Array Field, d = .struct gs → ∀ g ∈ gs.toList, ∃ j, P.info? g.type = some j
  info : P.info? t = some i
  und : P.underlying t = some d
  zero : i.zero = some z
  d : vt.d = vdOf d
  size : vt.size = i.size
  bytes : vt.bytes = i.bytes
  zeros : vt.zero = z.cells.toList.map ofConst1
  eq : vt.eq = eqOf P t
  cell : ∀ u ∈ z.cells.toList, u.oneCell' = true

def TysOk (E : Env) : Prop := ∀ t vt, E.ty.get t = some vt → ∃ i d z, TyOk E.P t vt i d z

theorem vdOf_slice {d : TypeDesc} {e : TypeId} (h : vdOf d = .slice e) : d = .slice e := by cases d <;> simp [vdOf] at h; simp [h]
theorem vdOf_array {d : TypeDesc} {n : Nat} {e : TypeId} (h : vdOf d = .array n e) : d = .array n e := by cases d <;> simp [vdOf] at h; simp [h]
theorem vdOf_pointer {d : TypeDesc} {e : TypeId} (h : vdOf d = .pointer e) : d = .pointer e := by cases d <;> simp [vdOf] at h; simp [h]
theorem vdOf_str {d : TypeDesc} (h : vdOf d = .str) : d = .string := by cases d <;> simp [vdOf] at h; rfl
theorem vdOf_bool {d : TypeDesc} (h : vdOf d = .bool) : d = .bool := by cases d <;> simp [vdOf] at h; rfl
theorem vdOf_int {d : TypeDesc} {k : IntKind} (h : vdOf d = .int k) : d = .int k := by cases d <;> simp [vdOf] at h; simp [h]
theorem vdOf_func {d : TypeDesc} (h : vdOf d = .func) : ∃ p r v, d = .func p r v := by cases d <;> simp [vdOf] at h; exact ⟨_, _, _, rfl⟩
theorem vdOf_struct {d : TypeDesc} {fs : List (TypeId × Nat)} (h : vdOf d = .struct fs) : ∃ gs : Array Field, d = .struct gs ∧ fs = gs.toList.map fun f => (f.type, f.offset) := by
  cases d <;> simp [vdOf] at h; exact ⟨_, rfl, h.symm⟩
theorem vdOf_agg (d : TypeDesc) : (vdOf d).isAgg = descAgg d := by cases d <;> rfl

section
variable {P : Program} {w : World} {Γ : Ctx} {t : TypeId} {vt : VT} {i : TypeInfo} {d : TypeDesc} {z : Value}

theorem TyOk.run_und (h : TyOk P t vt i d z) : (underlying t).run P w = .ok d w := run_underlying h.und w
theorem TyOk.run_info (h : TyOk P t vt i d z) : (typeInfo t).run P w = .ok i w := by simp [typeInfo, h.info]
theorem TyOk.run_size (h : TyOk P t vt i d z) : (sizeOf t).run P w = .ok vt.size w := by simp [sizeOf, typeInfo, h.info, h.size]
theorem TyOk.run_zero (h : TyOk P t vt i d z) : (zeroValue t).run P w = .ok z w := by simp [zeroValue, typeInfo, h.info, h.zero]
theorem TyOk.run_agg (h : TyOk P t vt i d z) : (isAgg t).run P w = .ok (descAgg d) w := by
  unfold isAgg
  rw [Sem.run_bind, h.run_und]
  cases d <;> simp [descAgg]
theorem TyOk.cellsOf (h : TyOk P t vt i d z) : P.cellsOf t = vt.size := by simp [Program.cellsOf, h.info, h.size]
theorem TyOk.zrel (h : TyOk P t vt i d z) : VRs Γ vt.zero z.cells.toList := by rw [h.zeros]; exact VRs_ofConst1 Γ _

theorem asVal_agg (h : P.underlying t = some d) (hb : descAgg d = true) (us : List Value) : asVal P t us = .agg us.toArray := by
  unfold asVal; rw [h]; cases d <;> simp [descAgg] at hb <;> rfl
theorem asVal_one (h : P.underlying t = some d) (hb : descAgg d = false) (us : List Value) : asVal P t us = us.headD undef := by
  unfold asVal; rw [h]; cases d <;> simp [descAgg] at hb <;> rfl

theorem mkVal_ok (h : TyOk P t vt i d z) {cells : List AVal} {v : AVal} {us : List Value} (hm : mkVal vt cells = some v) (hr : VRs Γ cells us) (h1 : ∀ u ∈ us, u.oneCell' = true) :
    VR Γ v (asVal P t us) := by
  unfold mkVal at hm
  rw [h.d, vdOf_agg] at hm
  cases hb : descAgg d with
  | true =>
    simp only [hb, cond_true, Option.some.injEq] at hm
    subst hm
    rw [asVal_agg h.und hb]
    simp only [VR]
    exact ⟨_, rfl, by simpa using hr, by simpa using h1⟩
  | false =>
    simp only [hb, cond_false] at hm
    cases cells with
    | nil => simp at hm
    | cons c cs =>
      cases cs with
      | cons _ _ => simp at hm
      | nil =>
        simp only [Option.some.injEq] at hm
        subst hm
        rw [asVal_one h.und hb]
        simp only [VRs] at hr
        obtain ⟨u, us', rfl, hu, rfl⟩ := hr
        simpa using hu

theorem mkVal_len (h : TyOk P t vt i d z) {cells : List AVal} {v : AVal} (hm : mkVal vt cells = some v) (hb : descAgg d = false) : ∃ c, cells = [c] := by
  unfold mkVal at hm
  rw [h.d, vdOf_agg, hb] at hm
  cases cells with
  | nil => simp at hm
  | cons c cs =>
    cases cs with
    | cons _ _ => simp at hm
    | nil => exact ⟨c, rfl⟩

theorem run_loadVar_cells (h : TyOk P t vt i d z) (a : Addr) (us : List Value) (hl : us.length = vt.size) (h1 : descAgg d = false → us.length = 1)
    (hc : ∀ j u, us[j]? = some u → w.cell? (a.add j) = some u) : (loadVar t a).run P w = .ok (asVal P t us) w := by
  unfold loadVar
  rw [Sem.run_bind, h.run_agg]
  simp only [Result.andThen_ok]
  cases hb : descAgg d with
  | true =>
    have hc' := run_loadCells_list (P := P) w a us hc
    rw [hl] at hc'
    rw [asVal_agg h.und hb]
    simp [h.run_size, hc']
  | false =>
    have h2 := h1 hb
    cases us with
    | nil => simp at h2
    | cons u us =>
      have := hc 0 u rfl
      simp only [Addr.add, if_true] at this
      rw [asVal_one h.und hb]
      simp [this]
end

theorem lget_eq {cs r : List AVal} {off n : Nat} (h : lget cs off n = some r) : r = (cs.drop off).take n ∧ r.length = n := by
  unfold lget at h
  simp only [nbeq, cond_eq_ite, decide_eq_true_eq] at h
  split at h
  · rename_i hl; simp only [Option.some.injEq] at h; subst h; exact ⟨rfl, hl⟩
  · cases h

theorem Addr_add (b o : Nat) (j : Nat) : (⟨b, o, none⟩ : Addr).add j = ⟨b, o + j, none⟩ := by
  unfold Addr.add; split <;> simp_all

theorem roRel_cells {Γ : Ctx} : ∀ {cells : List AVal} {b o : Nat}, roRel Γ cells b o → ∃ us, VRs Γ cells us ∧ (∀ u ∈ us, u.oneCell' = true) ∧ ∀ j u, us[j]? = some u → Γ.ro b (o + j) = some u
  | [], _, _, _ => ⟨[], by simp [VRs], by simp, by simp⟩
  | c :: cs, b, o, h => by
    simp only [roRel] at h
    obtain ⟨⟨v, h1, h2, h3⟩, h4⟩ := h
    obtain ⟨us, k1, k2, k3⟩ := roRel_cells h4
    refine ⟨v :: us, by simp only [VRs]; exact ⟨v, us, rfl, h2, k1⟩, by simpa [h3] using k2, fun j u hu => ?_⟩
    cases j with
    | zero => simp at hu; subst hu; simpa using h1
    | succ j => have := k3 j u (by simpa using hu); rwa [show o + (j + 1) = o + 1 + j by omega]

theorem roRel_drop {Γ : Ctx} : ∀ {cells : List AVal} {b o : Nat} (n : Nat), roRel Γ cells b o → roRel Γ (cells.drop n) b (o + n)
  | cells, b, o, 0, h => by simpa using h
  | [], b, o, n + 1, _ => by simp [roRel]
  | c :: cs, b, o, n + 1, h => by
    simp only [roRel] at h
    have := roRel_drop n h.2
    simpa [show o + (n + 1) = o + 1 + n by omega] using this

theorem roRel_take {Γ : Ctx} : ∀ {cells : List AVal} {b o : Nat} (n : Nat), roRel Γ cells b o → roRel Γ (cells.take n) b o
  | cells, b, o, 0, _ => by simp [roRel]
  | [], b, o, n + 1, _ => by simp [roRel]
  | c :: cs, b, o, n + 1, h => by
    simp only [roRel] at h
    simp only [List.take_succ_cons, roRel]
    exact ⟨h.1, roRel_take n h.2⟩

section
variable {P : Program} {w : World} {Γ : Ctx} {m : Mem}

theorem MemV.block (h : MemV Γ m w) {b : Nat} {B : Block} (hd : Γ.dom b) (hb : m.get b = some B) :
    ∃ cb cs, Γ.blk b = some ⟨B.cells.length, cb, cs.size⟩ ∧ w.heap[cb]? = some (.cells cs B.ty (0, 0)) ∧ B.cells.length ≤ cs.size ∧
      VRs Γ B.cells (cs.toList.take B.cells.length) ∧ (∀ u ∈ cs.toList.take B.cells.length, u.oneCell' = true) := by
  obtain ⟨cb, cs, h2, h3, h4, h5⟩ := h.blk b B hd hb
  refine ⟨cb, cs, h2, h3, h4, VRs.of_get (by simp; omega) (fun i a ha => ?_), fun u hu => ?_⟩
  · obtain ⟨v, k1, k2, _⟩ := h5 i a ha
    have hi := (List.getElem?_eq_some_iff.1 ha).1
    exact ⟨v, by rw [List.getElem?_take_of_lt hi]; simpa using k1, k2⟩
  · obtain ⟨i, hi, rfl⟩ := List.getElem_of_mem hu
    have hi' : i < B.cells.length := by simp at hi; omega
    obtain ⟨v, k1, _, k3⟩ := h5 i _ (List.getElem?_eq_getElem hi')
    have e : (cs.toList.take B.cells.length)[i]? = some v := by rw [List.getElem?_take_of_lt hi']; simpa using k1
    have : (cs.toList.take B.cells.length)[i] = v := Option.some.inj ((List.getElem?_eq_getElem hi).symm.trans e)
    rw [this]; exact k3

theorem cell_of_heap {cb : Nat} {cs : Array Value} {ty : TypeId} (h : w.heap[cb]? = some (.cells cs ty (0, 0))) (j : Nat) : w.cell? ⟨cb, j, none⟩ = cs[j]? := by
  simp [World.cell?, h]

theorem take_drop_get {α : Type} (l : List α) (k off n j : Nat) (u : α) (h : (((l.take k).drop off).take n)[j]? = some u) : l[off + j]? = some u := by
  rw [List.getElem?_take] at h
  split at h
  · rw [List.getElem?_drop, List.getElem?_take] at h
    split at h
    · exact h
    · cases h
  · cases h

/-- A pointer's variable. -/
theorem readCells_ok (h : MemV Γ m w) {x : AVal} {v : Value} {n : Nat} {cs : List AVal} (hr : readCells m x n = some cs) (hv : VR Γ x v) :
    ∃ a us, v = .pointer (some a) ∧ a.spot = none ∧ VRs Γ cs us ∧ us.length = n ∧ (∀ u ∈ us, u.oneCell' = true) ∧ ∀ j u, us[j]? = some u → w.cell? (a.add j) = some u := by
  unfold readCells at hr
  split at hr
  · rename_i b ext off
    cases hg : m.get b with
    | none => simp [hg] at hr
    | some B =>
      simp only [hg, nbeq, cond_eq_ite, decide_eq_true_eq] at hr
      split at hr
      · rename_i he
        obtain ⟨rfl, hl⟩ := lget_eq hr
        simp only [VR] at hv
        obtain ⟨a, rfl, hdm, hk⟩ := hv
        obtain ⟨cb, cs', h2, h3, h4, h5, h6⟩ := h.block hdm hg
        obtain ⟨_, ha⟩ := hk _ h2
        have ha := ha he.symm
        subst ha
        have hlen := ((h5.drop off).take n).length
        refine ⟨_, _, rfl, rfl, (h5.drop off).take n, by omega, fun u hu => h6 u (List.mem_of_mem_drop (List.mem_of_mem_take hu)), fun j u hu => ?_⟩
        rw [Addr_add, cell_of_heap h3]
        have := take_drop_get _ _ _ _ _ _ hu
        simpa using this
      · cases hr
  · rename_i cells
    obtain ⟨rfl, hl⟩ := lget_eq hr
    simp only [VR] at hv
    obtain ⟨a, rfl, hs, hro⟩ := hv
    obtain ⟨us, k1, k2, k3⟩ := roRel_cells hro
    have hlen := (k1.take n).length
    refine ⟨a, us.take n, rfl, hs, by simpa using k1.take n, by simpa [hl] using hlen.symm.trans (by simpa using hl), fun u hu => k2 u (List.mem_of_mem_take hu), fun j u hu => ?_⟩
    rw [List.getElem?_take] at hu
    split at hu
    · have := h.ro _ _ _ (k3 j u hu)
      obtain ⟨ab, ao, as⟩ := a
      simp only at hs
      subst hs
      rw [Addr_add]
      exact this
    · cases hu
  · cases hr

theorem cell_heap {w w2 : World} (h : w2.heap = w.heap) (a : Addr) : w2.cell? a = w.cell? a := by simp [World.cell?, h]

/-- A slice's first elements. -/
theorem sliceCells_ok (h : MemV Γ m w) {x : AVal} {v : Value} {n size : Nat} {cs : List AVal} (hr : sliceCells m x n size = some cs) (hv : VR Γ x v) :
    ∃ us, VRs Γ cs us ∧ us.length = n * size ∧ (∀ u ∈ us, u.oneCell' = true) ∧ (∀ w2 : World, w2.heap = w.heap → (Builtin.firstCells size n v).run P w2 = .ok us.toArray w2) ∧
      (∀ a k c, v = .slice a k c → (loadCells (a.getD ⟨0, 0, none⟩) (n * size)).run P w = .ok us.toArray w) := by
  unfold sliceCells at hr
  split at hr
  · simp only [nbeq, cond_eq_ite, decide_eq_true_eq] at hr
    split at hr
    · rename_i hn
      subst hn
      simp only [Option.some.injEq] at hr
      subst hr
      simp only [VR] at hv
      obtain ⟨a, rfl, _⟩ := hv
      refine ⟨[], by simp [VRs], by simp, by simp, fun w2 _ => ?_, fun a k c _ => by simp [loadCells, loadCellsFrom]⟩
      cases a <;> simp [Builtin.firstCells, loadCells, loadCellsFrom]
    · cases hr
  · rename_i b ext off k lo ex sz
    simp only [nbeq, nble, cond_eq_ite, decide_eq_true_eq] at hr
    split at hr
    · cases hg : m.get b with
      | none => simp [hg] at hr
      | some B =>
        simp only [hg] at hr
        split at hr
        · rename_i he
          obtain ⟨rfl, hl⟩ := lget_eq hr
          simp only [VR] at hv
          obtain ⟨a, c, rfl, _, _, _, hdm, hk⟩ := hv
          obtain ⟨cb, cs', h2, h3, h4, h5, h6⟩ := h.block hdm hg
          obtain ⟨_, ha⟩ := hk _ h2
          obtain ⟨ha, _⟩ := ha he.symm
          subst ha
          have hlen := ((h5.drop off).take (n * size)).length
          have hc : ∀ j u, (((cs'.toList.take B.cells.length).drop off).take (n * size))[j]? = some u → w.cell? ((⟨cb, off, none⟩ : Addr).add j) = some u := fun j u hu => by
            rw [Addr_add, cell_of_heap h3]
            have := take_drop_get _ _ _ _ _ _ hu
            simpa using this
          have hlc : ∀ w2 : World, w2.heap = w.heap → (loadCells ⟨cb, off, none⟩ (n * size)).run P w2 = .ok _ w2 := fun w2 h2 => by
            have := run_loadCells_list (P := P) w2 ⟨cb, off, none⟩ _ (fun j u hu => by rw [cell_heap h2]; exact hc j u hu)
            rwa [show (((cs'.toList.take B.cells.length).drop off).take (n * size)).length = n * size by omega] at this
          exact ⟨_, (h5.drop off).take (n * size), by omega, fun u hu => h6 u (List.mem_of_mem_drop (List.mem_of_mem_take hu)), fun w2 h2 => by simpa [Builtin.firstCells] using hlc w2 h2, fun a k c e => by cases e; simpa using hlc w rfl⟩
        · cases hr
    · cases hr
  · rename_i cells k
    simp only [nble, cond_eq_ite, decide_eq_true_eq] at hr
    split at hr
    · obtain ⟨rfl, hl⟩ := lget_eq hr
      simp only [VR] at hv
      obtain ⟨a, c, rfl, _, hne⟩ := hv
      simp only [List.drop_zero] at hl ⊢
      by_cases hc0 : cells = []
      · subst hc0
        simp at hl
        refine ⟨[], by simp [VRs], by simp [← hl], by simp, fun w2 _ => ?_, fun a k c _ => by simp [← hl, loadCells, loadCellsFrom]⟩
        cases a <;> simp [Builtin.firstCells, ← hl, loadCells, loadCellsFrom]
      · obtain ⟨ad, rfl, hs, hro⟩ := hne hc0
        obtain ⟨us, k1, k2, k3⟩ := roRel_cells hro
        have hlen := (k1.take (n * size)).length
        have hc : ∀ j u, (us.take (n * size))[j]? = some u → w.cell? (ad.add j) = some u := fun j u hu => by
          rw [List.getElem?_take] at hu
          split at hu
          · have := h.ro _ _ _ (k3 j u hu)
            obtain ⟨ab, ao, as⟩ := ad
            simp only at hs
            subst hs
            rw [Addr_add]
            exact this
          · cases hu
        have hlc : ∀ w2 : World, w2.heap = w.heap → (loadCells ad (n * size)).run P w2 = .ok _ w2 := fun w2 h2 => by
          have := run_loadCells_list (P := P) w2 ad _ (fun j u hu => by rw [cell_heap h2]; exact hc j u hu)
          rwa [show (us.take (n * size)).length = n * size by omega] at this
        exact ⟨_, k1.take (n * size), by omega, fun u hu => k2 u (List.mem_of_mem_take hu), fun w2 h2 => by simpa [Builtin.firstCells] using hlc w2 h2, fun a k c e => by cases e; simpa using hlc w rfl⟩
    · cases hr
  · cases hr

theorem sliceLen_ok {x : AVal} {v : Value} {n : Nat} (hl : sliceLen x = some n) (hv : VR Γ x v) : ∃ a c, v = .slice a n c ∧ n ≤ c := by
  unfold sliceLen at hl
  split at hl <;> simp only [Option.some.injEq, reduceCtorEq] at hl
  · subst hl; simp only [VR] at hv; obtain ⟨a, rfl, _⟩ := hv; exact ⟨a, 0, rfl, Nat.le_refl _⟩
  · subst hl; simp only [VR] at hv; obtain ⟨a, c, rfl, h1, h2, _⟩ := hv; exact ⟨_, c, rfl, Nat.le_trans h1 h2⟩
  · subst hl; simp only [VR] at hv; obtain ⟨a, c, rfl, h1, _⟩ := hv; exact ⟨a, c, rfl, h1⟩

theorem cells_ok {x : AVal} {v : Value} {cs : List AVal} (hc : x.cells? = some cs) (hv : VR Γ x v) : VRs Γ cs v.cells.toList ∧ ∀ u ∈ v.cells.toList, u.oneCell' = true := by
  cases x <;> simp only [AVal.cells?, Option.some.injEq, reduceCtorEq] at hc
  case agg cells =>
    subst hc
    simp only [VR] at hv
    obtain ⟨us, rfl, h1, h2⟩ := hv
    exact ⟨by simpa [Value.cells] using h1, by simpa [Value.cells] using h2⟩
  all_goals
    subst hc
    have hv' := hv
    simp only [VR] at hv
  case bool => subst hv; exact ⟨by simp only [Value.cells, VRs]; exact ⟨_, _, rfl, hv', rfl⟩, by simp [Value.cells, Value.oneCell']⟩
  case int => subst hv; exact ⟨by simp only [Value.cells, VRs]; exact ⟨_, _, rfl, hv', rfl⟩, by simp [Value.cells, Value.oneCell']⟩
  case str => subst hv; exact ⟨by simp only [Value.cells, VRs]; exact ⟨_, _, rfl, hv', rfl⟩, by simp [Value.cells, Value.oneCell']⟩
  case nilp => subst hv; exact ⟨by simp only [Value.cells, VRs]; exact ⟨_, _, rfl, hv', rfl⟩, by simp [Value.cells, Value.oneCell']⟩
  case nilf => subst hv; exact ⟨by simp only [Value.cells, VRs]; exact ⟨_, _, rfl, hv', rfl⟩, by simp [Value.cells, Value.oneCell']⟩
  case ptr => obtain ⟨a, rfl, _⟩ := hv; exact ⟨by simp only [Value.cells, VRs]; exact ⟨_, _, rfl, hv', rfl⟩, by simp [Value.cells, Value.oneCell']⟩
  case iptr => obtain ⟨a, rfl, _⟩ := hv; exact ⟨by simp only [Value.cells, VRs]; exact ⟨_, _, rfl, hv', rfl⟩, by simp [Value.cells, Value.oneCell']⟩
  case nil => obtain ⟨a, rfl, _⟩ := hv; exact ⟨by simp only [Value.cells, VRs]; exact ⟨_, _, rfl, hv', rfl⟩, by simp [Value.cells, Value.oneCell']⟩
  case ref => obtain ⟨a, c, rfl, _⟩ := hv; exact ⟨by simp only [Value.cells, VRs]; exact ⟨_, _, rfl, hv', rfl⟩, by simp [Value.cells, Value.oneCell']⟩
  case imm => obtain ⟨a, c, rfl, _⟩ := hv; exact ⟨by simp only [Value.cells, VRs]; exact ⟨_, _, rfl, hv', rfl⟩, by simp [Value.cells, Value.oneCell']⟩
  case fn => obtain ⟨us, vs, rfl, _⟩ := hv; exact ⟨by simp only [Value.cells, VRs]; exact ⟨_, _, rfl, hv', rfl⟩, by simp [Value.cells, Value.oneCell']⟩
  case opq =>
    obtain ⟨e, h1⟩ := hv
    clear e
    cases v <;> simp [Value.oneCell'] at h1 <;> exact ⟨by simp only [Value.cells, VRs]; exact ⟨_, _, rfl, hv', rfl⟩, by simp [Value.cells, Value.oneCell']⟩
  case chan => obtain ⟨cb, rfl, _⟩ := hv; exact ⟨by simp only [Value.cells, VRs]; exact ⟨_, _, rfl, hv', rfl⟩, by simp [Value.cells, Value.oneCell']⟩
  case one =>
    have h1 : v.oneCell' = true := hv
    cases v <;> simp [Value.oneCell'] at h1 <;> exact ⟨by simp only [Value.cells, VRs]; exact ⟨_, _, rfl, hv', rfl⟩, by simp [Value.cells, Value.oneCell']⟩

theorem natOf_ok {x : AVal} {v : Value} {n : Nat} (h : natOf x = some n) (hv : VR Γ x v) : ∃ k, v = .int k n := by
  unfold natOf at h
  split at h
  · rename_i k q
    split at h
    · simp only [Option.some.injEq] at h; subst h; simp only [VR] at hv; exact ⟨k, hv⟩
    · cases h
  · cases h
end
end Go.V
end

section
/-
  Operators.
-/
namespace Go.V
section
variable {E : Env} {w : World} {Γ : Ctx}

theorem eqGuard_int (op : BinOp) (t : TypeId) (x y : Operand) (k l : IntKind) (a b : Int) : (eqGuard op t x y (.int k a) (.int l b)).run E.P w = .ok () w := by
  cases op <;> simp [eqGuard]
theorem eqGuard_str (op : BinOp) (t : TypeId) (x y : Operand) (a b : ByteArray) : (eqGuard op t x y (.string a) (.string b)).run E.P w = .ok () w := by
  cases op <;> simp [eqGuard]
theorem eqGuard_bool (op : BinOp) (t : TypeId) (x y : Operand) (a b : Bool) : (eqGuard op t x y (.bool a) (.bool b)).run E.P w = .ok () w := by
  cases op <;> simp [eqGuard]
theorem eqGuard_ptr (op : BinOp) (t : TypeId) (x y : Operand) (a b : Option Addr) : (eqGuard op t x y (.pointer a) (.pointer b)).run E.P w = .ok () w := by
  cases op <;> simp [eqGuard]
theorem eqGuard_slice (op : BinOp) (t : TypeId) (x y : Operand) (a b : Option Addr) (n m c d : Nat) : (eqGuard op t x y (.slice a n c) (.slice b m d)).run E.P w = .ok () w := by
  cases op <;> simp [eqGuard]
theorem eqGuard_nilf (op : BinOp) (t : TypeId) (x y : Operand) (v : Value) (hv : v = .nilFunc ∨ ∃ f a b, v = .func f a b) (u : Value) (hu : u = .nilFunc ∨ ∃ f a b, u = .func f a b) : (eqGuard op t x y u v).run E.P w = .ok () w := by
  rcases hv with rfl | ⟨f, a, b, rfl⟩ <;> rcases hu with rfl | ⟨g, c, d, rfl⟩ <;> cases op <;> simp [eqGuard]

theorem arith_ok {op : BinOp} {k : IntKind} {x y : Int} {r : AVal} (xT : TypeId) (h : arith op k x y = some r) (hs : op ≠ .shl) (hs' : op ≠ .shr) :
    ∃ q, (binOp op xT (.int k x) (.int k y)).run E.P w = .ok q w ∧ VR Γ r q := by
  cases op <;> simp only [arith, cmpInt, Option.map_some, Option.map_none, Option.some.injEq, reduceCtorEq, ne_eq] at h hs hs'
  case quo | rem =>
    split at h
    · cases h
    · rename_i h0
      simp only [Option.some.injEq] at h
      subst h
      exact ⟨_, by simp [binOp, Op.intDiv, h0]; rfl, by simp [VR]⟩
  case eql | neq | lss | leq | gtr | geq =>
    subst h
    exact ⟨_, by simp [binOp, Op.intCmp]; rfl, by simp [VR] <;> (by_cases e : x = y <;> simp [e])⟩
  all_goals
    subst h
    exact ⟨_, by simp [binOp, Op.intArith, Op.intBits]; rfl, by simp [VR]⟩

theorem strOp_ok {op : BinOp} {x y : ByteArray} {r : AVal} (xT : TypeId) (h : strOp op x y = some r) :
    ∃ q, (binOp op xT (.string x) (.string y)).run E.P w = .ok q w ∧ VR Γ r q := by
  cases op <;> simp only [strOp, Option.some.injEq, reduceCtorEq] at h
  all_goals
    subst h
    exact ⟨_, by simp [binOp, Op.stringOp]; rfl, by simp [VR]⟩

theorem shift_ok {op : BinOp} {k l : IntKind} {x y : Int} {r : AVal} (xT : TypeId) (hop : op = .shl ∨ op = .shr) (h : bin E op xT (.int k x) (.int l y) = some r) :
    ∃ q, (binOp op xT (.int k x) (.int l y)).run E.P w = .ok q w ∧ VR Γ r q := by
  rcases hop with rfl | rfl
  all_goals
    simp only [bin] at h
    split at h
    · cases h
    · rename_i h0
      simp only [Option.some.injEq] at h
      subst h
      exact ⟨_, by simp [binOp, Op.shift, h0]; rfl, by simp [VR]⟩

theorem binOp_eql (t : TypeId) (u v : Value) (hu : (∀ k n, u ≠ .int k n) ∧ (∀ s, u ≠ .string s)) (hu2 : (∀ k b, u ≠ .float k b) ∧ ∀ k a b, u ≠ .complex k a b) :
    (binOp .eql t u v).run E.P w = ((Op.equal t u v).run E.P w).andThen fun b w' => .ok (.bool b) w' := by
  cases u <;> first
    | exact absurd rfl (hu.1 _ _)
    | exact absurd rfl (hu.2 _)
    | exact absurd rfl (hu2.1 _ _)
    | exact absurd rfl (hu2.2 _ _ _)
    | (cases v <;> simp [binOp])

theorem binOp_neq (t : TypeId) (u v : Value) (hu : (∀ k n, u ≠ .int k n) ∧ (∀ s, u ≠ .string s)) (hu2 : (∀ k b, u ≠ .float k b) ∧ ∀ k a b, u ≠ .complex k a b) :
    (binOp .neq t u v).run E.P w = ((Op.equal t u v).run E.P w).andThen fun b w' => .ok (.bool !b) w' := by
  cases u <;> first
    | exact absurd rfl (hu.1 _ _)
    | exact absurd rfl (hu.2 _)
    | exact absurd rfl (hu2.1 _ _)
    | exact absurd rfl (hu2.2 _ _ _)
    | (cases v <;> simp [binOp])

theorem eqIn_ptr_l {P : Program} (d : Nat) {t e : TypeId} (b : Option Addr) (h : P.underlying t = some (.pointer e)) : (Op.equalIn (d + 1) t (.pointer none) (.pointer b)).run P w = .ok b.isNone w := by
  simp [Op.equalIn, run_underlying h]
theorem eqIn_ptr_r {P : Program} (d : Nat) {t e : TypeId} (a : Addr) (h : P.underlying t = some (.pointer e)) : (Op.equalIn (d + 1) t (.pointer (some a)) (.pointer none)).run P w = .ok false w := by
  simp [Op.equalIn, run_underlying h]
theorem eqIn_slice_l {P : Program} (d : Nat) {t e : TypeId} (b : Option Addr) (n c m k : Nat) (h : P.underlying t = some (.slice e)) : (Op.equalIn (d + 1) t (.slice none n c) (.slice b m k)).run P w = .ok b.isNone w := by
  simp [Op.equalIn, run_underlying h]
theorem eqIn_slice_r {P : Program} (d : Nat) {t e : TypeId} (a : Addr) (n c m k : Nat) (h : P.underlying t = some (.slice e)) : (Op.equalIn (d + 1) t (.slice (some a) n c) (.slice none m k)).run P w = .ok false w := by
  simp [Op.equalIn, run_underlying h]
theorem eqIn_func_nn {P : Program} (d : Nat) {t : TypeId} {p r v} (h : P.underlying t = some (.func p r v)) : (Op.equalIn (d + 1) t .nilFunc .nilFunc).run P w = .ok true w := by
  simp [Op.equalIn, run_underlying h]
theorem eqIn_func_l {P : Program} (d : Nat) {t : TypeId} {p r v} (f : Fn) (a b : Array Value) (h : P.underlying t = some (.func p r v)) : (Op.equalIn (d + 1) t .nilFunc (.func f a b)).run P w = .ok false w := by
  simp [Op.equalIn, run_underlying h]
theorem eqIn_func_r {P : Program} (d : Nat) {t : TypeId} {p r v} (f : Fn) (a b : Array Value) (h : P.underlying t = some (.func p r v)) : (Op.equalIn (d + 1) t (.func f a b) .nilFunc).run P w = .ok false w := by
  simp [Op.equalIn, run_underlying h]

theorem eqVals_ok (hT : TysOk E) {t : TypeId} {a b : AVal} {r : Bool} {u v : Value} (h : eqVals E t a b = some r) (ha : VR Γ a u) (hb : VR Γ b v) (op : BinOp) (x y : Operand) :
    (eqGuard op t x y u v).run E.P w = .ok () w ∧ (Op.equal t u v).run E.P w = .ok r w ∧ ((∀ k n, u ≠ .int k n) ∧ (∀ s, u ≠ .string s)) ∧ ((∀ k b, u ≠ .float k b) ∧ ∀ k a b, u ≠ .complex k a b) := by
  unfold eqVals at h
  cases hg : E.ty.get t with
  | none => simp [hg] at h
  | some vt =>
    obtain ⟨i, d, z, ok⟩ := hT t vt hg
    simp only [hg] at h
    split at h
    · -- bools
      split at h <;> simp only [Option.some.injEq, reduceCtorEq] at h
      rename_i hd
      have := vdOf_bool (ok.d.symm.trans hd)
      subst this
      simp only [VR] at ha hb
      subst ha; subst hb; subst h
      exact ⟨eqGuard_bool op t x y _ _, run_equalIn_bool w 9999 t _ _ ok.und, by simp, by simp⟩
    · split at h <;> simp only [Option.some.injEq, reduceCtorEq] at h
      rename_i hd
      have := vdOf_pointer (ok.d.symm.trans hd)
      subst this
      simp only [VR] at ha hb
      subst ha; subst hb; subst h
      exact ⟨eqGuard_ptr op t x y _ _, eqIn_ptr_l 9999 _ ok.und, by simp, by simp⟩
    case h_3 | h_4 | h_5 | h_6 =>
      split at h <;> simp only [Option.some.injEq, reduceCtorEq] at h
      rename_i hd
      have := vdOf_pointer (ok.d.symm.trans hd)
      subst this
      simp only [VR] at ha hb
      subst h
      first
        | (obtain ⟨a', rfl, _⟩ := ha; subst hb; exact ⟨eqGuard_ptr op t x y _ _, eqIn_ptr_r 9999 _ ok.und, by simp, by simp⟩)
        | (obtain ⟨a', rfl, _⟩ := hb; subst ha; exact ⟨eqGuard_ptr op t x y _ _, eqIn_ptr_l 9999 _ ok.und, by simp, by simp⟩)
    case h_7 | h_8 | h_9 =>
      split at h <;> simp only [Option.some.injEq, reduceCtorEq] at h
      rename_i hd
      have := vdOf_slice (ok.d.symm.trans hd)
      subst this
      simp only [VR] at ha hb
      subst h
      first
        | (obtain ⟨a1, rfl, h1⟩ := ha; obtain ⟨a2, rfl, h2⟩ := hb
           have h1 := h1 trivial; have h2 := h2 trivial; subst h1; subst h2
           exact ⟨eqGuard_slice op t x y _ _ _ _ _ _, eqIn_slice_l 9999 _ _ _ _ _ ok.und, by simp, by simp⟩)
        | (obtain ⟨a1, rfl, h1⟩ := ha; obtain ⟨a2, c, rfl, h2⟩ := hb
           have h1 := h1 trivial; subst h1
           exact ⟨eqGuard_slice op t x y _ _ _ _ _ _, eqIn_slice_l 9999 _ _ _ _ _ ok.und, by simp, by simp⟩)
        | (obtain ⟨a1, c, rfl, h1⟩ := ha; obtain ⟨a2, rfl, h2⟩ := hb
           have h2 := h2 trivial; subst h2
           exact ⟨eqGuard_slice op t x y _ _ _ _ _ _, eqIn_slice_r 9999 _ _ _ _ _ ok.und, by simp, by simp⟩)
    case h_10 | h_11 =>
      split at h <;> simp only [Option.some.injEq, reduceCtorEq] at h
      rename_i hd
      have := vdOf_slice (ok.d.symm.trans hd)
      subst this
      simp only [VR] at ha hb
      subst h
      first
        | (obtain ⟨a1, rfl, h1⟩ := ha; obtain ⟨a2, c, rfl, _, h2⟩ := hb
           have h1 := h1 trivial; subst h1
           obtain ⟨ad, rfl, _⟩ := h2 (by simp)
           exact ⟨eqGuard_slice op t x y _ _ _ _ _ _, eqIn_slice_l 9999 _ _ _ _ _ ok.und, by simp, by simp⟩)
        | (obtain ⟨a1, c, rfl, _, h1⟩ := ha; obtain ⟨a2, rfl, h2⟩ := hb
           have h2 := h2 trivial; subst h2
           obtain ⟨ad, rfl, _⟩ := h1 (by simp)
           exact ⟨eqGuard_slice op t x y _ _ _ _ _ _, eqIn_slice_r 9999 _ _ _ _ _ ok.und, by simp, by simp⟩)
    case h_12 | h_13 | h_14 =>
      split at h <;> simp only [Option.some.injEq, reduceCtorEq] at h
      rename_i hd
      obtain ⟨p, q, vv, this⟩ := vdOf_func (ok.d.symm.trans hd)
      subst this
      simp only [VR] at ha hb
      subst h
      first
        | (subst ha; subst hb
           exact ⟨eqGuard_nilf op t x y _ (.inl rfl) _ (.inl rfl), eqIn_func_nn 9999 ok.und, by simp, by simp⟩)
        | (subst ha; obtain ⟨us, vs, rfl, _⟩ := hb
           exact ⟨eqGuard_nilf op t x y _ (.inr ⟨_, _, _, rfl⟩) _ (.inl rfl), eqIn_func_l 9999 _ _ _ ok.und, by simp, by simp⟩)
        | (subst hb; obtain ⟨us, vs, rfl, _⟩ := ha
           exact ⟨eqGuard_nilf op t x y _ (.inl rfl) _ (.inr ⟨_, _, _, rfl⟩), eqIn_func_r 9999 _ _ _ ok.und, by simp, by simp⟩)
    case h_15 =>
      rename_i xs ys
      rw [ok.d, vdOf_agg, ok.eq] at h
      unfold eqOf at h
      cases hag : descAgg d with
      | false => simp [hag] at h
      | true =>
      simp only [hag, cond_true] at h
      cases hq : E.P.eqGuardType E.P.depth t with
      | true => simp [hq] at h
      | false =>
        simp only [hq, cond_false] at h
        cases hk : kindsOf E.P 12 t with
        | none => simp [hk] at h
        | some ks =>
          simp only [hk, Option.bind_some] at h
          simp only [VR] at ha hb
          obtain ⟨us, rfl, h1, _⟩ := ha
          obtain ⟨vs, rfl, h2, _⟩ := hb
          have e1 := asVal_agg ok.und hag us.toList
          have e2 := asVal_agg ok.und hag vs.toList
          have := equalIn_ok (w := w) Γ 12 t ks hk 10000 (by omega) xs ys us.toList vs.toList r h1 h2 h
          rw [e1, e2] at this
          exact ⟨run_eqGuard_agg w op t x y us vs hq, this, by simp, by simp⟩
    · cases h

theorem bin_ok (hT : TysOk E) {op : BinOp} {xT : TypeId} {a b r : AVal} {u v : Value} (h : bin E op xT a b = some r) (ha : VR Γ a u) (hb : VR Γ b v) (x y : Operand) :
    ∃ q, (do eqGuard op xT x y u v; binOp op xT u v : Sem Value).run E.P w = .ok q w ∧ VR Γ r q := by
  unfold bin at h
  split at h
  · rename_i k n l m
    simp only [VR] at ha hb
    subst ha; subst hb
    simp only [Sem.run_bind, eqGuard_int, Result.andThen_ok]
    split at h
    · exact shift_ok xT (.inl rfl) (by simpa [bin] using h)
    · exact shift_ok xT (.inr rfl) (by simpa [bin] using h)
    · rename_i h1 h2
      split at h
      · rename_i hk; subst hk; exact arith_ok xT h (fun e => h1 e) (fun e => h2 e)
      · cases h
  · simp only [VR] at ha hb
    subst ha; subst hb
    simp only [Sem.run_bind, eqGuard_str, Result.andThen_ok]
    exact strOp_ok xT h
  · split at h
    · cases he : eqVals E xT a b with
      | none => simp [he] at h
      | some q =>
        simp only [he, Option.map_some, Option.some.injEq] at h
        subst h
        obtain ⟨h1, h2, h3, h4⟩ := eqVals_ok (w := w) hT he ha hb .eql x y
        refine ⟨.bool q, ?_, by simp [VR]⟩
        rw [Sem.run_bind, h1]
        simp only [Result.andThen_ok]
        rw [binOp_eql _ _ _ h3 h4, h2]
        rfl
    · cases he : eqVals E xT a b with
      | none => simp [he] at h
      | some q =>
        simp only [he, Option.map_some, Option.some.injEq] at h
        subst h
        obtain ⟨h1, h2, h3, h4⟩ := eqVals_ok (w := w) hT he ha hb .neq x y
        refine ⟨.bool !q, ?_, by simp [VR]⟩
        rw [Sem.run_bind, h1]
        simp only [Result.andThen_ok]
        rw [binOp_neq _ _ _ h3 h4, h2]
        rfl
    · cases h

theorem un_ok {op : UnOp} {a r : AVal} {u : Value} (h : un op a = some r) (ha : VR Γ a u) : ∃ q, (Op.unary op u).run E.P w = .ok q w ∧ VR Γ r q := by
  unfold un at h
  split at h
  · simp only [Option.some.injEq] at h; subst h; simp only [VR] at ha; subst ha; exact ⟨_, by simp [Op.unary]; rfl, by simp [VR]⟩
  · simp only [Option.some.injEq] at h; subst h; simp only [VR] at ha; subst ha; exact ⟨_, by simp [Op.unary, Op.intArith]; rfl, by simp [VR]⟩
  · simp only [arith, Option.some.injEq] at h
    subst h; simp only [VR] at ha; subst ha; exact ⟨_, by simp [Op.unary, Op.intBits]; rfl, by simp [VR]⟩
  · cases h
end
end Go.V
end

section
/-
  Operations that call nothing and write nothing.
-/
namespace Go.V
section
variable {E : Env} {w : World} {Γ : Ctx} {m : Mem} {ρ : Operand → AVal} {σ : Operand → Value}

theorem fieldOf_ok (hT : TysOk E) {s : TypeId} {f : Nat} {vt : VT} {off : Nat} (h : fieldOf E s f = some (vt, off)) :
    ∃ gs : Array Field, E.P.underlying s = some (.struct gs) ∧ ∃ g, gs[f]? = some g ∧ g.offset = off ∧ ∃ i d z, TyOk E.P g.type vt i d z := by
  unfold fieldOf at h
  split at h
  · rename_i fs _ _ _ _ hg
    obtain ⟨i, d, z, ok⟩ := hT _ _ hg
    obtain ⟨gs, rfl, hfs⟩ := vdOf_struct ok.d.symm
    split at h
    · rename_i ft o hf
      cases hv : E.ty.get ft with
      | none => simp [hv] at h
      | some v =>
        simp only [hv, Option.map_some, Option.some.injEq, Prod.mk.injEq] at h
        obtain ⟨rfl, rfl⟩ := h
        rw [hfs] at hf
        simp only [List.getElem?_map, Option.map_eq_some_iff, Prod.mk.injEq] at hf
        obtain ⟨g, hg', rfl, rfl⟩ := hf
        exact ⟨gs, ok.und, g, by simpa using hg', rfl, hT _ _ hv⟩
    · cases h
  · cases h

theorem shift_ptr_ok {x r : AVal} {n : Nat} {v : Value} (h : shift x n = some r) (hv : VR Γ x v) : ∃ a, v = .pointer (some a) ∧ VR Γ r (.pointer (some (a.add n))) := by
  unfold shift at h
  split at h
  · simp only [Option.some.injEq] at h
    subst h
    simp only [VR] at hv ⊢
    obtain ⟨a, rfl, hb, hk⟩ := hv
    refine ⟨a, rfl, _, rfl, hb, fun i hi => ?_⟩
    obtain ⟨h1, h2⟩ := hk i hi
    exact ⟨h1, fun he => by rw [h2 he, Addr_add]⟩
  · simp only [Option.some.injEq] at h
    subst h
    simp only [VR] at hv ⊢
    obtain ⟨a, rfl, hs, hr⟩ := hv
    obtain ⟨ab, ao, as⟩ := a
    simp only at hs
    subst hs
    exact ⟨_, rfl, _, rfl, by rw [Addr_add], by rw [Addr_add]; exact roRel_drop n hr⟩
  · cases h

theorem light_field (hT : TysOk E) {o : Oper} {t : TypeId} {x : Operand} {f : Nat} {v : AVal} (ho : o.op = .field t x f) (hρ : ∀ x, VR Γ (ρ x) (σ x)) (h : light E m ρ o.op = some (.val v)) :
    ∃ q, (execOp σ o).run E.P w = .ok (.value q) w ∧ VR Γ v q := by
  rw [ho] at h
  simp only [light] at h
  split at h
  · rename_i cs vt off hx hf
    obtain ⟨gs, hu, g, hg, rfl, i, d, z, ok⟩ := fieldOf_ok hT hf
    have hv := hρ x
    rw [hx] at hv
    simp only [VR] at hv
    obtain ⟨us, hus, h1, h2⟩ := hv
    simp only [nblt, cond_eq_ite, decide_eq_true_eq] at h
    split at h
    case isFalse => cases h
    rename_i hpos
    cases hl : lget cs g.offset vt.size with
    | none => simp [hl] at h
    | some r =>
      simp only [hl, Option.bind_some, Option.map_eq_some_iff, Light.val.injEq] at h
      obtain ⟨v', hm, rfl⟩ := h
      obtain ⟨rfl, hlen⟩ := lget_eq hl
      have hr := (h1.drop g.offset).take vt.size
      have hl2 := hr.length
      have hp := run_part (P := E.P) (w := w) ok.und ok.cellsOf (fun hb => by obtain ⟨c, hc⟩ := mkVal_len ok hm hb; rw [hc] at hlen; simpa using hlen.symm) us g.offset (by simp at hl2 hlen; have := h1.length; simp at this; omega)
      refine ⟨_, ?_, mkVal_ok ok hm hr (fun u hu => h2 u (List.mem_of_mem_drop (List.mem_of_mem_take hu)))⟩
      simp [execOp, ho, Instr.field, run_underlying hu, hg, hus, asAgg, hp]
  · cases h

theorem run_fieldPlace {P : Program} {a : Addr} {g : Field} {n : Nat} (hs : (sizeOf g.type).run P w = .ok n w) (hn : 0 < n) : (fieldPlace a g).run P w = .ok (a.add g.offset) w := by
  unfold fieldPlace
  simp [hs, Nat.ne_of_gt hn]

theorem light_fieldAddr (hT : TysOk E) {o : Oper} {t : TypeId} {x : Operand} {f : Nat} {v : AVal} (ho : o.op = .fieldAddr t x f) (hρ : ∀ x, VR Γ (ρ x) (σ x)) (h : light E m ρ o.op = some (.val v)) :
    ∃ q, (execOp σ o).run E.P w = .ok (.value q) w ∧ VR Γ v q := by
  rw [ho] at h
  simp only [light] at h
  split at h
  · rename_i vt off hf
    obtain ⟨gs, hu, g, hg, rfl, i, d, z, ok⟩ := fieldOf_ok hT hf
    simp only [nblt, cond_eq_ite, decide_eq_true_eq] at h
    split at h
    · rename_i hpos
      simp only [Option.map_eq_some_iff, Light.val.injEq] at h
      obtain ⟨r, hs, rfl⟩ := h
      obtain ⟨a, ha, hr⟩ := shift_ptr_ok hs (hρ x)
      refine ⟨_, ?_, hr⟩
      simp [execOp, ho, Instr.fieldAt, run_underlying hu, hg, ha, Instr.sureAddr, run_fieldPlace ok.run_size hpos]
    · cases h
  · cases h

theorem elemAddr_ok (hT : TysOk E) {t : TypeId} {x r : AVal} {i : Nat} {v q : Value} (h : elemAddr E t x i = some r) (hv : VR Γ x v) {k : IntKind} (hq : q = .int k i) :
    ∃ u, (Instr.indexAt t v q).run E.P w = .ok u w ∧ VR Γ r u := by
  subst hq
  have hi0 : (0 : Int) ≤ (i : Int) := Int.natCast_nonneg i
  unfold elemAddr at h
  split at h
  · rename_i e _ _ _ _ hg
    obtain ⟨ti, d, z, ok⟩ := hT _ _ hg
    have hd := vdOf_slice ok.d.symm
    subst hd
    split at h
    · rename_i ve hve
      obtain ⟨ei, ed, ez, oke⟩ := hT _ _ hve
      split at h
      · rename_i b ext off n lo ex sz
        simp only [nblt, cond_eq_ite, decide_eq_true_eq] at h
        split at h
        · rename_i hlt
          simp only [Option.some.injEq] at h
          subst h
          simp only [VR] at hv
          obtain ⟨a, c, rfl, _, _, _, hb, hk⟩ := hv
          refine ⟨_, by simp [Instr.indexAt, asIntOf, ok.run_und, hlt, oke.run_size] <;> rfl, ?_⟩
          simp only [VR]
          refine ⟨_, rfl, hb, fun j hj => ?_⟩
          obtain ⟨h1, h2⟩ := hk j hj
          exact ⟨h1, fun he => by rw [(h2 he).1, Addr_add]⟩
        · cases h
      · rename_i cells n
        simp only [nblt, nble, cond_eq_ite, Bool.and_eq_true, decide_eq_true_eq] at h
        split at h
        · rename_i hc
          obtain ⟨⟨hlt, hle⟩, hpos⟩ := hc
          simp only [Option.some.injEq] at h
          subst h
          simp only [VR] at hv
          obtain ⟨a, c, rfl, _, hne⟩ := hv
          have hne' : cells ≠ [] := by
            intro e0
            subst e0
            simp at hle
            have : 0 < (i + 1) * ve.size := Nat.mul_pos (by omega) hpos
            omega
          obtain ⟨ad, rfl, hs, hr⟩ := hne hne'
          refine ⟨_, by simp [Instr.indexAt, asIntOf, ok.run_und, hlt, oke.run_size] <;> rfl, ?_⟩
          obtain ⟨ab, ao, as⟩ := ad
          simp only at hs
          subst hs
          simp only [VR]
          exact ⟨_, rfl, by rw [Addr_add], by rw [Addr_add]; exact roRel_drop _ hr⟩
        · cases h
      · cases h
    · cases h
  · rename_i n e _ _ _ _ hg
    obtain ⟨ti, d, z, ok⟩ := hT _ _ hg
    have hd := vdOf_array ok.d.symm
    subst hd
    split at h
    · rename_i ve hve
      obtain ⟨ei, ed, ez, oke⟩ := hT _ _ hve
      simp only [nblt, cond_eq_ite, decide_eq_true_eq] at h
      split at h
      · rename_i hlt
        obtain ⟨a, rfl, hr⟩ := shift_ptr_ok h hv
        exact ⟨_, by simp [Instr.indexAt, asIntOf, ok.run_und, Instr.sureAddr, hlt, oke.run_size] <;> rfl, hr⟩
      · cases h
    · cases h
  · cases h

theorem elemAt_ok (hT : TysOk E) {t : TypeId} {x r : AVal} {i : Nat} {v q : Value} (h : elemAt E t x i = some r) (hv : VR Γ x v) {k : IntKind} (hq : q = .int k i) :
    ∃ u, (Instr.index t v q).run E.P w = .ok u w ∧ VR Γ r u := by
  subst hq
  have hi0 : (0 : Int) ≤ (i : Int) := Int.natCast_nonneg i
  unfold elemAt at h
  split at h
  · rename_i s
    split at h
    · rename_i _ _ _ _ hg
      obtain ⟨ti, d, z, ok⟩ := hT _ _ hg
      have hd := vdOf_str ok.d.symm
      subst hd
      split at h
      · rename_i b hb
        simp only [Option.some.injEq] at h
        subst h
        simp only [VR] at hv
        subst hv
        have hb' : s[i]? = some b := by
          have : s.data[i]? = some b := by simpa using hb
          have hlt : i < s.size := by
            have := (Array.getElem?_eq_some_iff.1 this).1
            exact this
          have h2 := (Array.getElem?_eq_some_iff.1 this).2
          rw [getElem?_pos s i hlt]
          exact congrArg some h2
        exact ⟨_, by simp [Instr.index, asIntOf, ok.run_und, hb'] <;> rfl, by simp [VR]⟩
      · cases h
    · cases h
  · rename_i cs
    split at h
    · rename_i n e _ _ _ _ hg
      obtain ⟨ti, d, z, ok⟩ := hT _ _ hg
      have hd := vdOf_array ok.d.symm
      subst hd
      split at h
      · rename_i ve hve
        obtain ⟨ei, ed, ez, oke⟩ := hT _ _ hve
        simp only [nblt, cond_eq_ite, Bool.and_eq_true, decide_eq_true_eq] at h
        split at h
        · rename_i hlt0
          obtain ⟨hlt, hpos⟩ := hlt0
          simp only [VR] at hv
          obtain ⟨us, rfl, h1, h2⟩ := hv
          cases hl : lget cs (i * ve.size) ve.size with
          | none => simp [hl] at h
          | some r' =>
            simp only [hl, Option.bind_some] at h
            obtain ⟨rfl, hlen⟩ := lget_eq hl
            have hr := (h1.drop (i * ve.size)).take ve.size
            have hl2 := hr.length
            have hp := run_part (P := E.P) (w := w) oke.und oke.cellsOf (fun hb => by obtain ⟨c, hc⟩ := mkVal_len oke h hb; rw [hc] at hlen; simpa using hlen.symm) us (i * ve.size)
              (by simp at hl2 hlen; have := h1.length; simp at this; omega)
            exact ⟨_, by simp [Instr.index, asIntOf, ok.run_und, hlt, oke.run_size, hp] <;> rfl, mkVal_ok oke h hr (fun u hu => h2 u (List.mem_of_mem_drop (List.mem_of_mem_take hu)))⟩
        · cases h
      · cases h
    · cases h
  · cases h
end
end Go.V
end

section
/-
  Slices, composites, lengths.
-/
namespace Go.V
section
variable {E : Env} {w : World} {Γ : Ctx} {m : Mem} {ρ : Operand → AVal} {σ : Operand → Value}

/-- A bound of a slice expression, and its value. -/
def BRel (x : Option Nat) (v : Option Value) : Prop :=
  match x with
  | none => v = none
  | some n => ∃ k, v = some (.int k n)

theorem optNat_ok {x : Option Operand} {r : Option Nat} (hρ : ∀ x, VR Γ (ρ x) (σ x)) (h : optNat ρ x = some r) : BRel r (x.map σ) := by
  cases x with
  | none => simp [optNat] at h; subst h; rfl
  | some x =>
    simp only [optNat, Option.map_eq_some_iff] at h
    obtain ⟨n, hn, rfl⟩ := h
    obtain ⟨k, hk⟩ := natOf_ok hn (hρ x)
    exact ⟨k, by simp [hk]⟩

theorem run_sliceBound {P : Program} (k : IntKind) (n y : Nat) (code : BoundsCode) (h : n ≤ y) : (Instr.sliceBound (.int k n) y code).run P w = .ok n w := by
  simp [Instr.sliceBound, asIntOf, h]

theorem run_sliceBounds {P : Program} {b : Bool} {len cap : Nat} {lo hi mx : Option Nat} {vl vh vm : Option Value} (h1 : BRel lo vl) (h2 : BRel hi vh) (h3 : BRel mx vm)
    (hh : mx.isSome = true → hi.isSome = true) (a : lo.getD 0 ≤ hi.getD len) (c : hi.getD len ≤ mx.getD cap) (e : mx.getD cap ≤ cap) :
    (Instr.sliceBounds b len cap vl vh vm).run P w = .ok (lo.getD 0, hi.getD len, mx.getD cap) w := by
  cases mx with
  | none =>
    simp only [BRel] at h3; subst h3
    cases hi with
    | none =>
      simp only [BRel] at h2; subst h2
      cases lo with
      | none => simp only [BRel] at h1; subst h1; simp [Instr.sliceBounds]
      | some l =>
        obtain ⟨k, rfl⟩ := h1
        simp at a
        simp [Instr.sliceBounds, run_sliceBound _ _ _ _ a]
    | some hv =>
      obtain ⟨k2, rfl⟩ := h2
      simp at a c
      cases lo with
      | none => simp only [BRel] at h1; subst h1; simp [Instr.sliceBounds, run_sliceBound _ _ _ _ c]
      | some l =>
        obtain ⟨k, rfl⟩ := h1
        simp at a
        simp [Instr.sliceBounds, run_sliceBound _ _ _ _ a, run_sliceBound _ _ _ _ c]
  | some mv =>
    obtain ⟨k3, rfl⟩ := h3
    simp at e
    cases hi with
    | none => simp at hh
    | some hv =>
      obtain ⟨k2, rfl⟩ := h2
      simp at a c
      cases lo with
      | none => simp only [BRel] at h1; subst h1; simp [Instr.sliceBounds, run_sliceBound _ _ _ _ c, run_sliceBound _ _ _ _ e]
      | some l =>
        obtain ⟨k, rfl⟩ := h1
        simp at a
        simp [Instr.sliceBounds, run_sliceBound _ _ _ _ a, run_sliceBound _ _ _ _ c, run_sliceBound _ _ _ _ e]

theorem sliceAt_slice {P : Program} {t e : TypeId} {size : Nat} (hu : P.underlying t = some (.slice e)) (hs : (sizeOf e).run P w = .ok size w) {a : Option Addr} {len cap l h m : Nat} {vl vh vm : Option Value}
    (hb : (Instr.sliceBounds true len cap vl vh vm).run P w = .ok (l, h, m) w) :
    (Instr.sliceAt t (.slice a len cap) vl vh vm).run P w = .ok (.slice (if m = l then a else a.map (·.add (l * size))) (h - l) (m - l)) w := by
  simp [Instr.sliceAt, run_underlying hu, Instr.slice, hb, hs]

theorem sliceOp_ok (hT : TysOk E) {t : TypeId} {x r : AVal} {lo hi mx : Option Nat} {v : Value} {vl vh vm : Option Value} (h : sliceOp E t x lo hi mx = some r) (hv : VR Γ x v)
    (h1 : BRel lo vl) (h2 : BRel hi vh) (h3 : BRel mx vm) : ∃ u, (Instr.sliceAt t v vl vh vm).run E.P w = .ok u w ∧ VR Γ r u := by
  unfold sliceOp at h
  simp only [] at h
  split at h
  · rename_i _ _ _ _ hg
    obtain ⟨ti, d, z, ok⟩ := hT _ _ hg
    have hd := vdOf_str ok.d.symm
    subst hd
    split at h
    · rename_i s
      simp only [nble, cond_eq_ite, Bool.and_eq_true, decide_eq_true_eq] at h
      split at h
      · rename_i hc
        simp only [Option.some.injEq] at h
        subst h
        simp only [VR] at hv
        subst hv
        simp only [BRel] at h3
        subst h3
        have hb := run_sliceBounds (P := E.P) (w := w) (b := false) (len := s.size) (cap := s.size) h1 h2 (mx := none) (vm := none) rfl (by simp) hc.1 (by simpa using hc.2) (by simp)
        exact ⟨_, by simp [Instr.sliceAt, ok.run_und, Instr.slice, hb] <;> rfl, by simp [VR]⟩
      · cases h
    · cases h
  · rename_i e _ _ _ _ hg
    obtain ⟨ti, d, z, ok⟩ := hT _ _ hg
    have hd := vdOf_slice ok.d.symm
    subst hd
    split at h
    · rename_i ve hve
      obtain ⟨ei, ed, ez, oke⟩ := hT _ _ hve
      split at h
      · -- an immutable one
        rename_i cells n
        simp only [cutImm, nble, nbeq, cond_eq_ite, Bool.and_eq_true, decide_eq_true_eq] at h
        split at h
        · cases h
        · rename_i hmh
          split at h
          · rename_i hc
            obtain ⟨⟨⟨c1, c2⟩, c3⟩, c4⟩ := hc
            simp only [VR] at hv
            obtain ⟨a, c, rfl, hnc, hne⟩ := hv
            have hb := run_sliceBounds (P := E.P) (w := w) (b := true) (len := n) (cap := c) h1 h2 h3 (fun e1 => by cases hi <;> simp_all) c1 (by cases mx <;> simp at c2 c3 ⊢ <;> omega) (by cases mx <;> simp at c3 ⊢; omega)
            refine ⟨_, sliceAt_slice ok.und oke.run_size hb, ?_⟩
            split at h
            · rename_i hz
              split at h
              · rename_i hz2
                simp only [Option.some.injEq] at h
                subst h
                obtain ⟨hms, hz3⟩ := hz2
                cases mx with
                | none => simp at hms
                | some mv =>
                  simp at c2 c3 hz3 ⊢
                  have e1 : mv - lo.getD 0 = 0 := by omega
                  have e2 : hi.getD n - lo.getD 0 = 0 := hz
                  rw [e1, e2]
                  simp only [VR]
                  exact ⟨_, rfl, by simp⟩
              · simp only [Option.some.injEq] at h
                subst h
                rw [hz]
                simp only [VR]
                exact ⟨_, _, rfl, Nat.zero_le _, fun e => absurd rfl e⟩
            · rename_i hz
              simp only [Option.some.injEq] at h
              subst h
              have hml : mx.getD c ≠ lo.getD 0 := by cases mx <;> simp at c2 c3 ⊢ <;> omega
              rw [if_neg hml]
              simp only [VR]
              refine ⟨_, _, rfl, ?_, fun hnz => ?_⟩
              · have : hi.getD n ≤ mx.getD c := by cases mx <;> simp at c2 c3 ⊢ <;> omega
                omega
              · have hcne : cells ≠ [] := by intro e0; subst e0; simp at hnz
                obtain ⟨ad, rfl, hs, hr⟩ := hne hcne
                obtain ⟨ab, ao, as⟩ := ad
                simp only at hs
                subst hs
                exact ⟨_, rfl, by show ((⟨ab, ao, none⟩ : Addr).add _).spot = none; rw [Addr_add], by show roRel Γ _ ((⟨ab, ao, none⟩ : Addr).add _).block ((⟨ab, ao, none⟩ : Addr).add _).off; rw [Addr_add]; exact roRel_take _ (roRel_drop _ hr)⟩
          · cases h
      · -- a mutable one
        rename_i b ext off n lb exact sz
        simp only [cut, nble, nbeq, cond_eq_ite, Bool.and_eq_true, decide_eq_true_eq] at h
        split at h
        case isFalse => cases h
        rename_i hsz
        subst hsz
        split at h
        · cases h
        · rename_i hmh
          split at h
          · rename_i hc
            obtain ⟨⟨c1, c2⟩, c3⟩ := hc
            simp only [VR] at hv
            obtain ⟨a, c, rfl, hnl, hlc, hex, hbn, hk⟩ := hv
            have c2' : hi.getD n ≤ mx.getD c := by cases mx <;> simp at c2 c3 ⊢ <;> omega
            have c3' : mx.getD c ≤ c := by cases mx <;> simp at c3 ⊢; omega
            have hb := run_sliceBounds (P := E.P) (w := w) (b := true) (len := n) (cap := c) h1 h2 h3 (fun e1 => by cases hi <;> simp_all) c1 c2' c3'
            refine ⟨_, sliceAt_slice ok.und oke.run_size hb, ?_⟩
            split at h
            · rename_i hz
              have hh0 : hi.getD n - lo.getD 0 = 0 := by omega
              rw [hh0]
              split at h
              · rename_i hz2
                simp only [Option.some.injEq] at h
                subst h
                have hm0 : mx.getD c - lo.getD 0 = 0 := by
                  cases mx with
                  | none => simp at hz2 hz ⊢; have := hex hz2; omega
                  | some mv => simpa using hz
                rw [hm0]
                simp only [VR]
                exact ⟨_, rfl, by simp⟩
              · simp only [Option.some.injEq] at h
                subst h
                simp only [VR]
                exact ⟨_, _, rfl, Nat.zero_le _, fun e => absurd rfl e⟩
            · rename_i hz
              simp only [Option.some.injEq] at h
              subst h
              have hmle : mx.getD lb ≤ mx.getD c := by cases mx <;> simp; omega
              have hml : mx.getD c ≠ lo.getD 0 := by omega
              rw [if_neg hml]
              simp only [VR, Option.map_some]
              refine ⟨_, _, rfl, by omega, by omega, fun he => ?_, hbn, fun i hi' => ?_⟩
              · cases mx with
                | none => simp at he ⊢; have := hex he; omega
                | some mv => simp
              · obtain ⟨k1, k2⟩ := hk i hi'
                refine ⟨k1, fun e => ?_⟩
                obtain ⟨k3, k4⟩ := k2 e
                refine ⟨by rw [k3, Addr_add], ?_⟩
                have e1 : (mx.getD c - lo.getD 0) * ve.size ≤ (c - lo.getD 0) * ve.size := Nat.mul_le_mul_right _ (by omega)
                have e2 : lo.getD 0 * ve.size + (c - lo.getD 0) * ve.size = c * ve.size := by rw [← Nat.add_mul]; congr 1; omega
                omega
          · cases h
      · -- nil
        rename_i hni hnr
        unfold cut at h
        simp only [nble, nbeq, cond_eq_ite, Bool.and_eq_true, decide_eq_true_eq] at h
        split at h
        · cases h
        · rename_i hmh
          split at h
          · rename_i s
            split at h
            · rename_i hc
              obtain ⟨⟨c1, c2⟩, c3⟩ := hc
              simp only [Option.some.injEq] at h
              subst h
              simp only [VR] at hv
              obtain ⟨a, rfl, ha⟩ := hv
              have hb := run_sliceBounds (P := E.P) (w := w) (b := true) (len := 0) (cap := 0) h1 h2 h3 (fun e1 => by cases hi <;> simp_all) (by omega) (by omega) (by omega)
              refine ⟨_, sliceAt_slice ok.und oke.run_size hb, ?_⟩
              rw [c1, c2, c3]
              simp only [VR, if_true]
              exact ⟨_, rfl, ha⟩
            · cases h
          · exact absurd rfl (hnr _ _ _ _ _ _ _)
          · cases h
    · cases h
  · cases h

theorem lenOf_ok (hT : TysOk E) {t : TypeId} {x : AVal} {n : Nat} {v : Value} {ty : TypeId} (h : lenOf E t x = some n) (hv : VR Γ x v) : (Builtin.len_ #[t] ty #[v]).run E.P w = .ok (.int .i64 n) w := by
  unfold lenOf at h
  split at h
  · rename_i _ _ _ _ hg
    obtain ⟨ti, d, z, ok⟩ := hT _ _ hg
    have hd := vdOf_str ok.d.symm
    subst hd
    split at h
    · simp only [Option.some.injEq] at h
      subst h
      simp only [VR] at hv
      subst hv
      simp [Builtin.len_, ok.run_und, goInt]
    · cases h
  · rename_i e _ _ _ _ hg
    obtain ⟨ti, d, z, ok⟩ := hT _ _ hg
    have hd := vdOf_slice ok.d.symm
    subst hd
    obtain ⟨a, c, rfl, _⟩ := sliceLen_ok h hv
    simp [Builtin.len_, ok.run_und, goInt]
  · rename_i k e _ _ _ _ hg
    obtain ⟨ti, d, z, ok⟩ := hT _ _ hg
    have hd := vdOf_array ok.d.symm
    subst hd
    simp only [Option.some.injEq] at h
    subst h
    simp [Builtin.len_, ok.run_und, goInt]
  · rename_i e _ _ _ _ hg
    obtain ⟨ti, d, z, ok⟩ := hT _ _ hg
    have hd := vdOf_pointer ok.d.symm
    subst hd
    split at h
    · rename_i k e2 _ _ _ _ hg2
      obtain ⟨ti2, d2, z2, ok2⟩ := hT _ _ hg2
      have hd2 := vdOf_array ok2.d.symm
      subst hd2
      simp only [Option.some.injEq] at h
      subst h
      simp [Builtin.len_, ok.run_und, ok2.run_und, goInt]
    · cases h
  · cases h

theorem capOf_ok (hT : TysOk E) {t : TypeId} {x : AVal} {n : Nat} {v : Value} {ty : TypeId} (h : capOf E t x = some n) (hv : VR Γ x v) : (Builtin.cap_ #[t] ty #[v]).run E.P w = .ok (.int .i64 n) w := by
  unfold capOf at h
  split at h
  · rename_i e _ _ _ _ hg
    obtain ⟨ti, d, z, ok⟩ := hT _ _ hg
    have hd := vdOf_slice ok.d.symm
    subst hd
    split at h <;> simp only [Option.some.injEq, reduceCtorEq] at h
    · subst h
      simp only [VR] at hv
      obtain ⟨a, rfl, _⟩ := hv
      simp [Builtin.cap_, ok.run_und, goInt]
    · subst h
      simp only [VR] at hv
      obtain ⟨a, c, rfl, _, _, hc, _⟩ := hv
      have := hc trivial
      subst this
      simp [Builtin.cap_, ok.run_und, goInt]
  · cases h

theorem foldInt_go_ok (f : Int → Int → Int) (g : Value → Value → Sem Value) (hg : ∀ k x l y, g (.int k x) (.int l y) = pure (.int k (f x y))) (k : IntKind) :
    ∀ (as : List AVal) (vs : List Value) (x : Int) (r : AVal), foldInt.go f k x as = some r → VRs Γ as vs → ∃ u, (vs.foldlM g (.int k x)).run E.P w = .ok u w ∧ VR Γ r u
  | [], vs, x, r, h, hv => by
    simp only [foldInt.go, Option.some.injEq] at h
    subst h
    simp only [VRs] at hv
    subst hv
    exact ⟨_, by simp <;> rfl, by simp [VR]⟩
  | a :: as, l, x, r, h, hv => by
    simp only [VRs] at hv
    obtain ⟨v, vs, rfl, h1, h2⟩ := hv
    cases a <;> simp only [foldInt.go, reduceCtorEq] at h
    rename_i k' y
    simp only [VR] at h1
    subst h1
    obtain ⟨u, hu, hr⟩ := foldInt_go_ok f g hg k as vs (f x y) r h h2
    exact ⟨u, by simp [hg, hu], hr⟩

theorem foldInt_ok (f : Int → Int → Int) (g : Value → Value → Sem Value) (hg : ∀ k x l y, g (.int k x) (.int l y) = pure (.int k (f x y))) {as : List AVal} {vs : List Value} {r : AVal}
    (h : foldInt f as = some r) (hv : VRs Γ as vs) : ∃ v0 rest, vs = v0 :: rest ∧ ∃ u, (rest.foldlM g v0).run E.P w = .ok u w ∧ VR Γ r u := by
  unfold foldInt at h
  split at h
  · rename_i k x rest
    simp only [VRs] at hv
    obtain ⟨v, vs, rfl, h1, h2⟩ := hv
    simp only [VR] at h1
    subst h1
    exact ⟨_, _, rfl, foldInt_go_ok f g hg k rest vs x r h h2⟩
  · cases h

theorem VRs_map (l : List Operand) (hρ : ∀ x, VR Γ (ρ x) (σ x)) : VRs Γ (l.map ρ) (l.map σ) := by
  induction l with
  | nil => simp [VRs]
  | cons x l ih => simp only [List.map_cons, VRs]; exact ⟨_, _, rfl, hρ x, ih⟩

/-! ### Composites -/
theorem VRs.lput {Γ : Ctx} : ∀ {as : List AVal} {us : List Value} {off : Nat} {bs : List AVal} {vs : List Value}, VRs Γ as us → VRs Γ bs vs → VRs Γ (lput as off bs) (lput us off vs)
  | as, us, off, [], vs, h, k => by simp only [VRs] at k; subst k; cases as <;> cases us <;> simpa [V.lput] using h
  | [], us, off, b :: bs, l, h, k => by
    simp only [VRs] at h k
    obtain ⟨v, vs, rfl, _⟩ := k
    subst h
    simp [V.lput, VRs]
  | a :: as, l, 0, b :: bs, l', h, k => by
    simp only [VRs] at h k
    obtain ⟨u, us, rfl, h1, h2⟩ := h
    obtain ⟨v, vs, rfl, k1, k2⟩ := k
    simp only [V.lput, VRs]
    exact ⟨v, _, rfl, k1, VRs.lput h2 k2⟩
  | a :: as, l, n + 1, b :: bs, l', h, k => by
    simp only [VRs] at h
    obtain ⟨u, us, rfl, h1, h2⟩ := h
    have k' := k
    simp only [VRs] at k
    obtain ⟨v, vs, rfl, k1, k2⟩ := k
    simp only [V.lput, VRs]
    exact ⟨u, _, rfl, h1, VRs.lput h2 k'⟩

theorem lput_length {α : Type} : ∀ (as : List α) (off : Nat) (bs : List α), (lput as off bs).length = as.length
  | as, off, [] => by cases as <;> simp [lput]
  | [], off, b :: bs => by simp [lput]
  | a :: as, 0, b :: bs => by simp [lput, lput_length as 0 bs]
  | a :: as, n + 1, b :: bs => by simp [lput, lput_length as n (b :: bs)]

theorem mem_lput {α : Type} {x : α} : ∀ {as : List α} {off : Nat} {bs : List α}, x ∈ lput as off bs → x ∈ as ∨ x ∈ bs
  | as, off, [], h => by cases as <;> simp [lput] at h ⊢; exact h
  | [], off, b :: bs, h => by simp [lput] at h
  | a :: as, 0, b :: bs, h => by
    simp only [lput, List.mem_cons] at h
    rcases h with rfl | h
    · simp
    · rcases mem_lput h with h | h <;> simp [h]
  | a :: as, n + 1, b :: bs, h => by
    simp only [lput, List.mem_cons] at h
    rcases h with rfl | h
    · simp
    · rcases mem_lput h with h | h
      · simp [h]
      · right; exact h

theorem lput_get {α : Type} : ∀ (as : List α) (off : Nat) (bs : List α) (i : Nat), off + bs.length ≤ as.length → (lput as off bs)[i]? = if off ≤ i ∧ i < off + bs.length then bs[i - off]? else as[i]?
  | as, off, [], i, _ => by
    have : ¬ (off ≤ i ∧ i < off + ([] : List α).length) := by simp
    rw [if_neg this]; cases as <;> simp [lput]
  | [], off, b :: bs, i, h => by simp at h
  | a :: as, 0, b :: bs, i, h => by
    cases i with
    | zero => simp [lput]
    | succ i =>
      have := lput_get as 0 bs i (by simp at h ⊢; omega)
      simp only [lput, List.getElem?_cons_succ, this]
      by_cases hc : i < bs.length
      · rw [if_pos (by omega), if_pos (by simp; omega)]; simp
      · rw [if_neg (by omega), if_neg (by simp; omega)]
  | a :: as, n + 1, b :: bs, i, h => by
    cases i with
    | zero => simp [lput]
    | succ i =>
      have := lput_get as n (b :: bs) i (by simp at h ⊢; omega)
      simp only [lput, List.getElem?_cons_succ, this]
      by_cases hc : n ≤ i ∧ i < n + (b :: bs).length
      · rw [if_pos hc, if_pos (by omega)]; congr 1; omega
      · rw [if_neg hc, if_neg (by omega)]

/-- The model's way to lay cells is 'lput'. -/
theorem foldl_set (vs : List Value) : ∀ (k off : Nat) (cells : Array Value), off + k + vs.length ≤ cells.size →
    ((vs.zipIdx k).foldl (fun cs (x : Value × Nat) => cs.setIfInBounds (off + x.2) x.1) cells).toList = lput cells.toList (off + k) vs := by
  induction vs with
  | nil => intro k off cells _; cases hc : cells.toList <;> simp [lput, hc]
  | cons v vs ih =>
    intro k off cells h
    simp only [List.length_cons] at h
    simp only [List.zipIdx_cons, List.foldl_cons]
    rw [ih (k + 1) off _ (by simp; omega)]
    apply List.ext_getElem?
    intro i
    rw [lput_get _ _ _ _ (by simp; omega), lput_get _ _ _ _ (by simp; omega)]
    simp only [Array.toList_setIfInBounds, List.length_cons, List.getElem?_set]
    by_cases h1 : off + (k + 1) ≤ i ∧ i < off + (k + 1) + vs.length
    · rw [if_pos h1, if_pos (by omega)]
      rw [show i - (off + k) = (i - (off + (k + 1))) + 1 by omega, List.getElem?_cons_succ]
    · rw [if_neg h1]
      by_cases h2 : off + k = i
      · rw [if_pos h2, if_pos (by simp; omega), if_pos (by omega)]
        subst h2
        simp
      · rw [if_neg h2, if_neg (by omega)]

theorem fillA_ok (placeA place : Nat → Option (Nat × Nat)) (hp : ∀ i q, placeA i = some q → place i = some q) : ∀ (ps : List (Nat × AVal)) (qs : List (Nat × Value)) (cellsA r : List AVal) (cells : Array Value),
    fillA placeA cellsA ps = some r → ps.length = qs.length → (∀ (j : Nat) i a, ps[j]? = some (i, a) → ∃ v, qs[j]? = some (i, v) ∧ VR Γ a v) → VRs Γ cellsA cells.toList → (∀ u ∈ cells.toList, u.oneCell' = true) →
    ∃ r', Instr.fill place cells qs = some r' ∧ VRs Γ r r'.toList ∧ ∀ u ∈ r'.toList, u.oneCell' = true
  | [], qs, cellsA, r, cells, h, hl, _, hr, h1 => by
    simp only [fillA, Option.some.injEq] at h
    subst h
    have : qs = [] := List.eq_nil_of_length_eq_zero (by simpa using hl.symm)
    subst this
    exact ⟨cells, rfl, hr, h1⟩
  | (i, a) :: ps, qs, cellsA, r, cells, h, hl, hrel, hr, h1 => by
    cases qs with
    | nil => simp at hl
    | cons q qs =>
      obtain ⟨v, hq, hv⟩ := hrel 0 i a rfl
      simp at hq
      subst hq
      simp only [fillA] at h
      split at h
      · rename_i off size cs hpl hcs
        simp only [nbeq, nble, cond_eq_ite, Bool.and_eq_true, decide_eq_true_eq] at h
        split at h
        · rename_i hc
          obtain ⟨hc1, hc2⟩ := hc
          obtain ⟨hvr, hv1⟩ := cells_ok hcs hv
          have hlen := hvr.length
          have hlen2 := hr.length
          have hlc : v.cells.size = size := by simp at hlen; omega
          have hlf := foldl_set v.cells.toList 0 off cells (by simp at hlen2 ⊢; omega)
          simp only [Nat.add_zero] at hlf
          simp only [Instr.fill, hp _ _ hpl]
          rw [if_neg (by simp [hlc]; simp at hlen2; omega)]
          have hz : (Array.foldl (fun cs (x : Value × Nat) => match x with | (c, j) => cs.setIfInBounds (off + j) c) cells v.cells.zipIdx) =
              ((v.cells.toList.zipIdx 0).foldl (fun cs (x : Value × Nat) => cs.setIfInBounds (off + x.2) x.1) cells) := by
            rw [← Array.foldl_toList]
            simp [Array.toList_zipIdx]
          rw [hz]
          refine fillA_ok placeA place hp ps qs _ r _ h (by simpa using hl) (fun j i a hj => by have := hrel (j + 1) i a (by simpa using hj); simpa using this) ?_ ?_
          · rw [hlf]; exact hr.lput hvr
          · rw [hlf]
            intro u hu
            rcases mem_lput hu with hu | hu
            · exact h1 u hu
            · exact hv1 u hu
        · cases h
      · cases h

theorem run_mapM_list {α β : Type} {P : Program} (f : α → Sem β) (g : α → β) : ∀ (l : List α), (∀ x ∈ l, (f x).run P w = .ok (g x) w) → (l.mapM f).run P w = .ok (l.map g) w
  | [], _ => by simp
  | x :: l, h => by
    have ih := run_mapM_list f g l (fun y hy => h y (List.mem_cons_of_mem _ hy))
    simp [List.mapM_cons, h x (List.mem_cons_self ..), ih]

theorem run_mapM_array {α β : Type} {P : Program} (f : α → Sem β) (g : α → β) (a : Array α) (h : ∀ x ∈ a.toList, (f x).run P w = .ok (g x) w) : (a.mapM f).run P w = .ok (a.map g) w := by
  rw [Array.mapM_eq_mapM_toList]
  simp [run_mapM_list f g a.toList h, ← Array.toList_map]

theorem parts_rel (ps : Array (Nat × Operand)) (hρ : ∀ x, VR Γ (ρ x) (σ x)) (j i : Nat) (a : AVal) (h : ((ps.toList.map fun (i, x) => (i, ρ x)))[j]? = some (i, a)) :
    ∃ v, ((ps.map fun (i, x) => (i, σ x)).toList)[j]? = some (i, v) ∧ VR Γ a v := by
  simp only [List.getElem?_map, Option.map_eq_some_iff, Prod.mk.injEq] at h
  obtain ⟨⟨i', x⟩, h1, h2, h3⟩ := h
  simp only at h2 h3
  subst h2; subst h3
  refine ⟨σ x, ?_, hρ x⟩
  simp only [Array.toList_map, List.getElem?_map, h1, Option.map_some]

theorem buildVal_ok (hT : TysOk E) {t : TypeId} {ps : Array (Nat × Operand)} {r : AVal} (hρ : ∀ x, VR Γ (ρ x) (σ x)) (h : buildVal E t (ps.toList.map fun (i, x) => (i, ρ x)) = some r) :
    ∃ u, (Instr.build t (ps.map fun (i, x) => (i, σ x))).run E.P w = .ok u w ∧ VR Γ r u := by
  unfold buildVal at h
  split at h
  · rename_i vt hg
    obtain ⟨ti, d, z, ok⟩ := hT _ _ hg
    split at h
    · rename_i fs hd
      obtain ⟨gs, rfl, hfs⟩ := vdOf_struct (ok.d.symm.trans hd)
      simp only [Option.map_eq_some_iff] at h
      obtain ⟨cs, hf, rfl⟩ := h
      have hmap := run_mapM_array (P := E.P) (w := w) (fun f : Field => do pure (f.offset, ← sizeOf f.type)) (fun f => (f.offset, E.P.cellsOf f.type)) gs (fun g hgm => by
        obtain ⟨j, hj⟩ := ok.flds gs rfl g hgm
        simp [sizeOf, typeInfo, hj, Program.cellsOf])
      have hpl : ∀ i q, structPlace E fs i = some q → (gs.map fun f => (f.offset, E.P.cellsOf f.type))[i]? = some q := by
        intro i q hq
        unfold structPlace at hq
        rw [hfs] at hq
        split at hq
        · rename_i ft off hfo
          simp only [List.getElem?_map, Option.map_eq_some_iff, Prod.mk.injEq] at hfo
          obtain ⟨g, hg1, rfl, rfl⟩ := hfo
          cases hv : E.ty.get g.type with
          | none => simp [hv] at hq
          | some v =>
            simp only [hv, Option.map_some, Option.some.injEq] at hq
            subst hq
            obtain ⟨_, _, _, okg⟩ := hT _ _ hv
            have : gs[i]? = some g := by simpa using hg1
            simp [this, okg.cellsOf]
        · cases hq
      obtain ⟨r', hr1, hr2, hr3⟩ := fillA_ok (Γ := Γ) (structPlace E fs) _ hpl _ ((ps.map fun (i, x) => (i, σ x)).toList) vt.zero cs z.cells hf (by simp) (fun j i a hj => parts_rel ps hρ j i a hj) ok.zrel ok.cell
      refine ⟨.agg r', ?_, by simp only [VR]; exact ⟨_, rfl, hr2, hr3⟩⟩
      simp only [Instr.build, Sem.run_bind, ok.run_zero, Result.andThen_ok, ok.run_und, hmap, hr1, Sem.run_pure]
    · rename_i n e hd
      have hd' := vdOf_array (ok.d.symm.trans hd)
      subst hd'
      split at h
      · rename_i ve hve
        obtain ⟨_, _, _, oke⟩ := hT _ _ hve
        simp only [Option.map_eq_some_iff] at h
        obtain ⟨cs, hf, rfl⟩ := h
        obtain ⟨r', hr1, hr2, hr3⟩ := fillA_ok (Γ := Γ) _ (fun i => some (i * ve.size, ve.size)) (fun i q hq => hq) _ ((ps.map fun (i, x) => (i, σ x)).toList) vt.zero cs z.cells hf (by simp) (fun j i a hj => parts_rel ps hρ j i a hj) ok.zrel ok.cell
        refine ⟨.agg r', ?_, by simp only [VR]; exact ⟨_, rfl, hr2, hr3⟩⟩
        simp only [Instr.build, Sem.run_bind, ok.run_zero, Result.andThen_ok, ok.run_und, oke.run_size, hr1, Sem.run_pure]
      · cases h
    · cases h
  · cases h
end
end Go.V
end
