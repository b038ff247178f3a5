/-
  A deterministic abstract machine over the model's own code: values without addresses, memory of numbered blocks, an append that grows a block in place.
  Definitions only; what they are worth is proved in the texts that import this one.
-/
import Derived.Orders
import Derived.Tactics
namespace Go.V

/-! ### A map from numbers, as a binary tree -/
inductive T (α : Type) where
  | nil
  | node (l : T α) (v : Option α) (r : T α)

def T.get {α : Type} : T α → Nat → Option α
  | .nil, _ => none
  | .node l v r, n => bif Nat.beq n 0 then v else bif Nat.beq (n % 2) 1 then l.get (n / 2) else r.get (n / 2 - 1)

def T.set {α : Type} : Nat → T α → Nat → α → T α
  | 0, t, _, _ => t
  | f + 1, .nil, n, x => bif Nat.beq n 0 then .node .nil (some x) .nil else bif Nat.beq (n % 2) 1 then .node (T.set f .nil (n / 2) x) none .nil else .node .nil none (T.set f .nil (n / 2 - 1) x)
  | f + 1, .node l v r, n, x => bif Nat.beq n 0 then .node l (some x) r else bif Nat.beq (n % 2) 1 then .node (T.set f l (n / 2) x) v r else .node l v (T.set f r (n / 2 - 1) x)

def T.put {α : Type} (t : T α) (n : Nat) (x : α) : T α := T.set 40 t n x

/-! ### A map from few numbers: a full tree of a fixed height, four ways a level, the low digit first -/
structure Q4 (α : Type) where
  a : α
  b : α
  c : α
  d : α

def Lv (α : Type) : Nat → Type
  | 0 => α
  | k + 1 => Q4 (Lv α k)

def Q4.pick {α : Type} (x : Q4 α) : Nat → α
  | 0 => x.a
  | 1 => x.b
  | 2 => x.c
  | _ => x.d

def Q4.upd {α : Type} (x : Q4 α) (f : α → α) : Nat → Q4 α
  | 0 => ⟨f x.a, x.b, x.c, x.d⟩
  | 1 => ⟨x.a, f x.b, x.c, x.d⟩
  | 2 => ⟨x.a, x.b, f x.c, x.d⟩
  | _ => ⟨x.a, x.b, x.c, f x.d⟩

def Lv.rep {α : Type} (x : α) : (k : Nat) → Lv α k
  | 0 => x
  | k + 1 => ⟨Lv.rep x k, Lv.rep x k, Lv.rep x k, Lv.rep x k⟩

def Lv.at {α : Type} : (k : Nat) → Lv α k → Nat → α
  | 0, x, _ => x
  | k + 1, x, n => Lv.at k (Q4.pick x (n % 4)) (n / 4)

def Lv.set {α : Type} (v : α) : (k : Nat) → Lv α k → Nat → Lv α k
  | 0, _, _ => v
  | k + 1, x, n => Q4.upd x (fun y => Lv.set v k y (n / 4)) (n % 4)

/-! ### Values -/
inductive AVal where
  | any
  | bool (b : Bool)
  | int (k : IntKind) (n : Int)
  | str (s : ByteArray)
  | nilp
  | ptr (b ext off : Nat)
  | iptr (cells : List AVal)
  | nil (sure : Bool)
  | ref (b ext off n lo : Nat) (exact : Bool) (sz : Nat)
  | imm (cells : List AVal) (n : Nat)
  | nilf
  | fn (f : FuncId) (first captured : List AVal)
  | agg (cells : List AVal)
  | tup (vs : List AVal)
  | opq (k : Nat)
  deriving Inhabited

structure Block where
  ty : TypeId
  cells : List AVal
  fz : Nat
  deriving Inhabited

/-- A function's slots: 256 at most. -/
abbrev Slots := Lv AVal 4
def Slots.nil : Slots := Lv.rep .any 4
def Slots.get (s : Slots) (n : Nat) : Option AVal := bif Nat.blt n 256 then some (Lv.at 4 s n) else none
def Slots.put (s : Slots) (n : Nat) (x : AVal) : Slots := Lv.set x 4 s n

/-- Memory's blocks: 65536 at most. -/
abbrev Hp := Lv (Option Block) 8
def Hp.nil : Hp := Lv.rep none 8
def Hp.get (s : Hp) (n : Nat) : Option Block := bif Nat.blt n 65536 then Lv.at 8 s n else none
def Hp.put (s : Hp) (n : Nat) (x : Block) : Hp := Lv.set (some x) 8 s n

structure Mem where
  blocks : Hp
  next : Nat

def Mem.nil : Mem := ⟨Hp.nil, 0⟩

structure St where
  fn : FuncId
  nt : Nat
  slots : Slots
  mem : Mem

/-! ### Types -/
inductive VD where
  | bool | int (k : IntKind) | str
  | pointer (e : TypeId) | slice (e : TypeId) | array (n : Nat) (e : TypeId)
  | struct (fs : List (TypeId × Nat))
  | func
  | other

/-- What a cell holds, where values may be compared cell by cell. -/
inductive FK where
  | b | i | s
  deriving DecidableEq

structure VT where
  d : VD
  size : Nat
  bytes : Nat
  zero : List AVal
  eq : Option (List FK)

def VD.isAgg : VD → Bool
  | .array .. | .struct _ => true
  | _ => false

inductive RStep where
  | run (j : Nat)
  | chk (j : Nat)

structure Env where
  P : Program
  ty : T VT
  fns : T Func
  plans : T (List RStep)
  orc : FuncId → List AVal → Option AVal

def planKey (f id : Nat) : Nat := f * 4096 + id

/-! ### Small helpers -/
def ofConst1 : Value → AVal
  | .bool b => .bool b
  | .int k n => .int k n
  | .string s => .str s
  | .pointer none => .nilp
  | .slice none 0 0 => .nil true
  | .nilFunc => .nilf
  | _ => .any

def ofConst : Value → AVal
  | .agg cs => bif cs.toList.all (·.oneCell') then .agg (cs.toList.map ofConst1) else .any
  | v => ofConst1 v

def AVal.cells? : AVal → Option (List AVal)
  | .agg cs => some cs
  | .any | .tup _ => none
  | v => some [v]

def mkVal (vt : VT) (cells : List AVal) : Option AVal :=
  bif vt.d.isAgg then some (.agg cells) else match cells with
    | [c] => some c
    | _ => none

/-- The cells from 'off' on are replaced by 'vs'. -/
def lput {α : Type} : List α → Nat → List α → List α
  | cs, _, [] => cs
  | [], _, _ :: _ => []
  | _ :: cs, 0, v :: vs => v :: lput cs 0 vs
  | c :: cs, n + 1, vs => c :: lput cs n vs

/-- Just the 'n' cells from 'off' on, if there are so many. -/
def lget (cs : List AVal) (off n : Nat) : Option (List AVal) :=
  let r := (cs.drop off).take n
  bif Nat.beq r.length n then some r else none

def Mem.get (m : Mem) (b : Nat) : Option Block := Hp.get m.blocks b
def Mem.upd (m : Mem) (b : Nat) (blk : Block) : Mem := { m with blocks := Hp.put m.blocks b blk }
def Mem.add (m : Mem) (blk : Block) : Mem := ⟨Hp.put m.blocks m.next blk, m.next + 1⟩

/-- The cells that a pointer's variable of so many cells has. -/
def readCells (m : Mem) (a : AVal) (n : Nat) : Option (List AVal) :=
  match a with
  | .ptr b ext off => match m.get b with
    | some blk => bif Nat.beq blk.cells.length ext then lget blk.cells off n else none
    | none => none
  | .iptr cells => lget cells 0 n
  | _ => none

/-- The cells of a slice's first n elements. -/
def sliceCells (m : Mem) (a : AVal) (n size : Nat) : Option (List AVal) :=
  match a with
  | .nil _ => bif Nat.beq n 0 then some [] else none
  | .ref b ext off k _ _ _ => bif Nat.ble n k then (match m.get b with
      | some blk => bif Nat.beq blk.cells.length ext then lget blk.cells off (n * size) else none
      | none => none) else none
  | .imm cells k => bif Nat.ble n k then lget cells 0 (n * size) else none
  | _ => none

def sliceLen : AVal → Option Nat
  | .nil _ => some 0
  | .ref _ _ _ n _ _ _ => some n
  | .imm _ n => some n
  | _ => none

def bytesOf : List AVal → ByteArray → Option ByteArray
  | [], acc => some acc
  | .int .u8 n :: cs, acc => bytesOf cs (acc.push (UInt8.ofNat n.toNat))
  | _ :: _, _ => none

def natOf : AVal → Option Nat
  | .int _ n => match n with
    | .ofNat k => some k
    | .negSucc _ => none
  | _ => none

mutual
def AVal.same : AVal → AVal → Bool
  | .bool a, .bool b => a == b
  | .int k a, .int l b => decide (k = l) && decide (a = b)
  | .str a, .str b => decide (a.data.toList = b.data.toList)
  | .nilp, .nilp => true
  | .ptr a b c, .ptr x y z => Nat.beq a x && Nat.beq b y && Nat.beq c z
  | .iptr xs, .iptr ys => AVal.sames xs ys
  | .nil a, .nil b => a == b
  | .ref a b c d e f g, .ref a' b' c' d' e' f' g' => Nat.beq a a' && Nat.beq b b' && Nat.beq c c' && Nat.beq d d' && Nat.beq e e' && (f == f') && Nat.beq g g'
  | .imm xs n, .imm ys m => Nat.beq n m && AVal.sames xs ys
  | .nilf, .nilf => true
  | .fn f xs ys, .fn g us vs => Nat.beq f g && AVal.sames xs us && AVal.sames ys vs
  | .agg xs, .agg ys => AVal.sames xs ys
  | .tup xs, .tup ys => AVal.sames xs ys
  | _, _ => false
def AVal.sames : List AVal → List AVal → Bool
  | [], [] => true
  | x :: xs, y :: ys => AVal.same x y && AVal.sames xs ys
  | _, _ => false
end

/-! ### One operation that calls nothing and writes nothing that was there -/
inductive NewV where
  | ptr (ext : Nat)
  | ref (ext n lo sz : Nat)

def NewV.at (id : Nat) : NewV → AVal
  | .ptr ext => .ptr id ext 0
  | .ref ext n lo sz => .ref id ext 0 n lo true sz

inductive Light where
  | val (v : AVal)
  | new (blk : Block) (mk : NewV)

def cmpInt (op : BinOp) (x y : Int) : Option Bool :=
  match op with
  | .eql => some (decide (x = y))
  | .neq => some (!decide (x = y))
  | .lss => some (decide (x < y))
  | .leq => some (decide (x ≤ y))
  | .gtr => some (decide (y < x))
  | .geq => some (decide (y ≤ x))
  | _ => none

def arith (op : BinOp) (k : IntKind) (x y : Int) : Option AVal :=
  match op with
  | .add => some (.int k (k.wrap (x + y)))
  | .sub => some (.int k (k.wrap (x - y)))
  | .mul => some (.int k (k.wrap (x * y)))
  | .quo => if y = 0 then none else some (.int k (k.wrap (x.tdiv y)))
  | .rem => if y = 0 then none else some (.int k (x.tmod y))
  | .and => some (.int k (k.wrap (BitVec.ofInt k.bits x &&& BitVec.ofInt k.bits y).toNat))
  | .or => some (.int k (k.wrap (BitVec.ofInt k.bits x ||| BitVec.ofInt k.bits y).toNat))
  | .xor => some (.int k (k.wrap (BitVec.ofInt k.bits x ^^^ BitVec.ofInt k.bits y).toNat))
  | .andNot => some (.int k (k.wrap (BitVec.ofInt k.bits x &&& ~~~ BitVec.ofInt k.bits y).toNat))
  | _ => (cmpInt op x y).map .bool

def strOp (op : BinOp) (x y : ByteArray) : Option AVal :=
  match op with
  | .eql => some (.bool (x.toList == y.toList))
  | .neq => some (.bool !(x.toList == y.toList))
  | .lss => some (.bool (Op.bytesLess x.toList y.toList))
  | .leq => some (.bool (Op.bytesLess x.toList y.toList || x.toList == y.toList))
  | .gtr => some (.bool !(Op.bytesLess x.toList y.toList || x.toList == y.toList))
  | .geq => some (.bool !(Op.bytesLess x.toList y.toList))
  | _ => none

def eq1 : FK → AVal → AVal → Option Bool
  | .i, .int k a, .int l b => bif decide (k = l) then some (decide (a = b)) else none
  | .b, .bool a, .bool b => some (a == b)
  | .s, .str a, .str b => some (a.toList == b.toList)
  | _, _, _ => none

/-- Are two lists of numbers, texts and bools alike? none: they hold something else. -/
def eqCells : List FK → List AVal → List AVal → Option Bool
  | [], [], [] => some true
  | k :: ks, x :: xs, y :: ys => match eq1 k x y, eqCells ks xs ys with
    | some a, some b => some (a && b)
    | _, _ => none
  | _, _, _ => none

def eqVals (E : Env) (t : TypeId) (a b : AVal) : Option Bool :=
  match E.ty.get t with
  | none => none
  | some vt => match a, b with
    | .bool x, .bool y => (match vt.d with | .bool => some (x == y) | _ => none)
    | .nilp, .nilp => (match vt.d with | .pointer _ => some true | _ => none)
    | .nilp, .ptr .. | .nilp, .iptr _ | .ptr .., .nilp | .iptr _, .nilp => (match vt.d with | .pointer _ => some false | _ => none)
    | .nil true, .nil true => (match vt.d with | .slice _ => some true | _ => none)
    | .nil true, .ref .. | .ref .., .nil true => (match vt.d with | .slice _ => some false | _ => none)
    | .nil true, .imm (_ :: _) _ | .imm (_ :: _) _, .nil true => (match vt.d with | .slice _ => some false | _ => none)
    | .nilf, .nilf => (match vt.d with | .func => some true | _ => none)
    | .nilf, .fn .. | .fn .., .nilf => (match vt.d with | .func => some false | _ => none)
    | .agg xs, .agg ys => bif vt.d.isAgg then vt.eq.bind fun ks => eqCells ks xs ys else none
    | _, _ => none

def bin (E : Env) (op : BinOp) (xT : TypeId) (a b : AVal) : Option AVal :=
  match a, b with
  | .int k x, .int l y => match op with
    | .shl => if y < 0 then none else some (.int k (k.wrap (x * 2 ^ (min y.toNat k.bits))))
    | .shr => if y < 0 then none else some (.int k (x.fdiv (2 ^ (min y.toNat k.bits))))
    | _ => if k = l then arith op k x y else none
  | .str x, .str y => strOp op x y
  | _, _ => match op with
    | .eql => (eqVals E xT a b).map .bool
    | .neq => (eqVals E xT a b).map (fun r => .bool !r)
    | _ => none

def un (op : UnOp) (a : AVal) : Option AVal :=
  match op, a with
  | .not, .bool b => some (.bool !b)
  | .neg, .int k n => some (.int k (k.wrap (0 - n)))
  | .xor, .int k n => arith .xor k (if k.signed then -1 else k.max) n
  | _, _ => none

def shift (a : AVal) (n : Nat) : Option AVal :=
  match a with
  | .ptr b ext off => some (.ptr b ext (off + n))
  | .iptr cells => some (.iptr (cells.drop n))
  | _ => none

def fieldOf (E : Env) (s : TypeId) (f : Nat) : Option (VT × Nat) :=
  match E.ty.get s with
  | some { d := .struct fs, .. } => match fs[f]? with
    | some (ft, off) => (E.ty.get ft).map (·, off)
    | none => none
  | _ => none

/-- How many cells ahead of the i-th element, and its type: of a slice, or of an array behind a pointer. -/
def elemAddr (E : Env) (t : TypeId) (x : AVal) (i : Nat) : Option AVal :=
  match E.ty.get t with
  | some { d := .slice e, .. } => match E.ty.get e with
    | some ve => match x with
      | .ref b ext off n _ _ _ => bif Nat.blt i n then some (.ptr b ext (off + i * ve.size)) else none
      | .imm cells n => bif Nat.blt i n && Nat.ble ((i + 1) * ve.size) cells.length && Nat.blt 0 ve.size then some (.iptr (cells.drop (i * ve.size))) else none
      | _ => none
    | none => none
  | some { d := .array n e, .. } => match E.ty.get e with
    | some ve => bif Nat.blt i n then shift x (i * ve.size) else none
    | none => none
  | _ => none

def elemAt (E : Env) (t : TypeId) (x : AVal) (i : Nat) : Option AVal :=
  match x with
  | .str s => match E.ty.get t with
    | some { d := .str, .. } => match s.data.toList[i]? with
      | some b => some (.int .u8 b.toNat)
      | none => none
    | _ => none
  | .agg cs => match E.ty.get t with
    | some { d := .array n e, .. } => match E.ty.get e with
      | some ve => bif Nat.blt i n && Nat.blt 0 ve.size then (lget cs (i * ve.size) ve.size).bind (mkVal ve) else none
      | none => none
    | _ => none
  | _ => none

def optNat (ρ : Operand → AVal) : Option Operand → Option (Option Nat)
  | none => some none
  | some x => (natOf (ρ x)).map some

/-- A slice expression over a slice: low, high, max as numbers. -/
def cut (x : AVal) (l : Nat) (hi mx : Option Nat) : Option AVal :=
  bif mx.isSome && hi.isNone then none else
  match x with
  | .nil s => bif Nat.beq l 0 && Nat.beq (hi.getD 0) 0 && Nat.beq (mx.getD 0) 0 then some (.nil s) else none
  | .ref b ext off n lo exact sz =>
    let h := hi.getD n
    let m := mx.getD lo
    bif Nat.ble l h && Nat.ble h m && Nat.ble m lo then
      bif Nat.beq (m - l) 0 then (bif mx.isSome || exact then some (.nil false) else some (.imm [] 0))
      else some (.ref b ext (off + l * sz) (h - l) (m - l) (mx.isSome || exact) sz)
    else none
  | _ => none

def cutImm (sz : Nat) (x : AVal) (l : Nat) (hi mx : Option Nat) : Option AVal :=
  bif mx.isSome && hi.isNone then none else
  match x with
  | .imm cells n =>
    let h := hi.getD n
    let m := mx.getD n
    bif Nat.ble l h && Nat.ble h m && Nat.ble m n && Nat.beq cells.length (n * sz) then
      bif Nat.beq (h - l) 0 then (bif mx.isSome && Nat.beq (m - l) 0 then some (.nil false) else some (.imm [] 0))
      else some (.imm ((cells.drop (l * sz)).take ((h - l) * sz)) (h - l))
    else none
  | _ => none

def sliceOp (E : Env) (t : TypeId) (x : AVal) (lo hi mx : Option Nat) : Option AVal :=
  let l := lo.getD 0
  match E.ty.get t with
  | some { d := .str, .. } => match x, mx with
    | .str s, none =>
      let h := hi.getD s.size
      bif Nat.ble l h && Nat.ble h s.size then some (.str (s.extract l h)) else none
    | _, _ => none
  | some { d := .slice e, .. } => match E.ty.get e with
    | some ve => match x with
      | .imm .. => cutImm ve.size x l hi mx
      | .ref _ _ _ _ _ _ sz => bif Nat.beq sz ve.size then cut x l hi mx else none
      | _ => cut x l hi mx
    | none => none
  | _ => none

def lenOf (E : Env) (t : TypeId) (x : AVal) : Option Nat :=
  match E.ty.get t with
  | some { d := .str, .. } => (match x with | .str s => some s.size | _ => none)
  | some { d := .slice _, .. } => sliceLen x
  | some { d := .array n _, .. } => some n
  | some { d := .pointer a, .. } => (match E.ty.get a with | some { d := .array n _, .. } => some n | _ => none)
  | _ => none

def capOf (E : Env) (t : TypeId) (x : AVal) : Option Nat :=
  match E.ty.get t with
  | some { d := .slice _, .. } => (match x with
    | .nil _ => some 0
    | .ref _ _ _ _ lo true _ => some lo
    | _ => none)
  | _ => none

def foldInt (f : Int → Int → Int) : List AVal → Option AVal
  | .int k x :: rest => go k x rest
  | _ => none
where
  go (k : IntKind) (x : Int) : List AVal → Option AVal
    | [] => some (.int k x)
    | .int _ y :: rest => go k (f x y) rest
    | _ :: _ => none

/-- The parts of a composite laid into cells; 'place' i: where part i lies, and of how many cells it is. -/
def fillA (place : Nat → Option (Nat × Nat)) (cells : List AVal) : List (Nat × AVal) → Option (List AVal)
  | [] => some cells
  | (i, v) :: rest =>
    match place i, v.cells? with
    | some (off, size), some cs => bif Nat.beq cs.length size && Nat.ble (off + size) cells.length then fillA place (lput cells off cs) rest else none
    | _, _ => none

def structPlace (E : Env) (fs : List (TypeId × Nat)) (i : Nat) : Option (Nat × Nat) :=
  match fs[i]? with
  | some (ft, off) => (E.ty.get ft).map (fun vt => (off, vt.size))
  | none => none

def buildVal (E : Env) (t : TypeId) (parts : List (Nat × AVal)) : Option AVal :=
  match E.ty.get t with
  | some vt => match vt.d with
    | .struct fs => (fillA (structPlace E fs) vt.zero parts).map .agg
    | .array _ e => match E.ty.get e with
      | some ve => (fillA (fun i => some (i * ve.size, ve.size)) vt.zero parts).map .agg
      | none => none
    | _ => none
  | none => none

def zeros (z : List AVal) : Nat → List AVal
  | 0 => []
  | n + 1 => z ++ zeros z n

def light (E : Env) (m : Mem) (ρ : Operand → AVal) : Op → Option Light
  | .move x | .assign x => some (.val (ρ x))
  | .pick c a b => match ρ c with
    | .bool t => some (.val (bif t then ρ a else ρ b))
    | _ => none
  | .nilCheck x => match ρ x with
    | .ptr b ext off => some (.val (.ptr b ext off))
    | .iptr cs => some (.val (.iptr cs))
    | .fn f xs ys => some (.val (.fn f xs ys))
    | _ => none
  | .binOp op xT x y _ => (bin E op xT (ρ x) (ρ y)).map .val
  | .unOp op _ x => (un op (ρ x)).map .val
  | .convert src dst x => match E.ty.get src, E.ty.get dst with
    | some vs, some vd => match vd.d, ρ x with
      | .int k, .int _ n => some (.val (.int k (k.wrap n)))
      | .str, .str s => some (.val (.str s))
      | .str, x => (match vs.d with
        | .slice e => (match E.ty.get e with
          | some { d := .int .u8, size := 1, .. } => (sliceLen x).bind fun n => (sliceCells m x n 1).bind fun cs => (bytesOf cs ByteArray.empty).map fun s => .val (.str s)
          | _ => none)
        | _ => none)
      | _, _ => none
    | _, _ => none
  | .makeFunc (.func f) first captured => some (.val (.fn f (first.toList.map ρ) (captured.toList.map ρ)))
  | .field t x f => match ρ x, fieldOf E t f with
    | .agg cs, some (vt, off) => bif Nat.blt 0 vt.size then ((lget cs off vt.size).bind (mkVal vt)).map .val else none
    | _, _ => none
  | .fieldAddr t x f => match fieldOf E t f with
    | some (vt, off) => bif Nat.blt 0 vt.size then (shift (ρ x) off).map .val else none
    | none => none
  | .indexAddr t x ix => (natOf (ρ ix)).bind fun i => (elemAddr E t (ρ x) i).map .val
  | .index t x ix => (natOf (ρ ix)).bind fun i => (elemAt E t (ρ x) i).map .val
  | .slice t x lo hi mx => (optNat ρ lo).bind fun l => (optNat ρ hi).bind fun h => (optNat ρ mx).bind fun k => (sliceOp E t (ρ x) l h k).map .val
  | .extract x i => match ρ x with
    | .tup vs => (vs[i]?).map .val
    | _ => none
  | .build t parts => (buildVal E t (parts.toList.map fun (i, x) => (i, ρ x))).map .val
  | .load t x => match E.ty.get t with
    | some vt => ((readCells m (ρ x) vt.size).bind (mkVal vt)).map .val
    | none => none
  | .alloc t => match E.ty.get t with
    | some vt => some (.new ⟨t, vt.zero, 0⟩ (.ptr vt.zero.length))
    | none => none
  | .box t x => match (ρ x).cells? with
    | some cs => some (.new ⟨t, cs, 0⟩ (.ptr cs.length))
    | none => none
  | .buildSlice t len parts => match E.ty.get t with
    | some { d := .slice e, .. } => match E.ty.get e with
      | some ve => bif Nat.ble (len * ve.size) 10000 && Nat.blt 0 ve.size && Nat.beq ve.zero.length ve.size then
          (fillA (fun i => some (i * ve.size, ve.size)) (zeros ve.zero len) (parts.toList.map fun (i, x) => (i, ρ x))).map fun cs => .new ⟨e, cs, 0⟩ (.ref (len * ve.size) len len ve.size)
        else none
      | none => none
    | _ => none
  | .makeSlice t l c => match E.ty.get t with
    | some { d := .slice e, .. } => match E.ty.get e with
      | some ve => (natOf (ρ l)).bind fun l => (natOf (ρ c)).bind fun c =>
          bif Nat.ble l c && Nat.ble c 1048576 && Nat.ble ve.bytes 65536 && Nat.blt 0 ve.size && Nat.beq ve.zero.length ve.size then some (.new ⟨e, zeros ve.zero c, 0⟩ (.ref (c * ve.size) l c ve.size)) else none
      | none => none
    | _ => none
  | .call { callee := .builtin .len, args, argTypes } => match args.toList, argTypes.toList with
    | [x], [t] => (lenOf E t (ρ x)).map fun (n : Nat) => .val (.int .i64 (n : Int))
    | _, _ => none
  | .call { callee := .builtin .cap, args, argTypes } => match args.toList, argTypes.toList with
    | [x], [t] => (capOf E t (ρ x)).map fun (n : Nat) => .val (.int .i64 (n : Int))
    | _, _ => none
  | .call { callee := .builtin .max, args, .. } => (foldInt (fun x y => if y > x then y else x) (args.toList.map ρ)).map .val
  | .call { callee := .builtin .min, args, .. } => (foldInt (fun x y => if y < x then y else x) (args.toList.map ρ)).map .val
  | _ => none

/-! ### One operation that writes, or calls -/
def isHeavy : Op → Bool
  | .store .. => true
  | .call { callee := .builtin .append, .. } | .call { callee := .builtin .copy, .. } | .call { callee := .builtin .clear, .. } => true
  | .call { callee := .builtin _, .. } => false
  | .call _ => true
  | _ => false

/-- Cells are stored where a pointer points. -/
def writeCells (m : Mem) (b ext off : Nat) (cs : List AVal) : Option Mem :=
  match m.get b with
  | some blk => bif Nat.beq blk.cells.length ext && Nat.ble blk.fz off && Nat.ble (off + cs.length) ext then some (m.upd b { blk with cells := lput blk.cells off cs }) else none
  | none => none

/-- An append of so many elements' cells to a slice of elements of type e. -/
def appendTo (m : Mem) (e : TypeId) (ve : VT) (s : AVal) (k : Nat) (cs : List AVal) : Option (AVal × Mem) :=
  match s with
  | .nil sure => bif Nat.beq k 0 then some (.nil sure, m)
    else bif Nat.ble k 1048576 && Nat.blt m.next 65536 then some (.ref m.next (k * ve.size) 0 k k false ve.size, m.add ⟨e, cs, 0⟩) else none
  | .ref b ext off n lo exact sz =>
    bif Nat.beq k 0 then some (.ref b ext off n lo exact sz, m)
    else bif !Nat.beq sz ve.size || !Nat.ble (n + k) 1048576 then none
    else bif Nat.ble (n + k) lo then (writeCells m b ext (off + n * sz) cs).map fun m' => (.ref b ext off (n + k) lo exact sz, m')
    else match m.get b with
      | some blk => bif !Nat.beq blk.cells.length ext then none
        else bif exact then
          bif !Nat.blt m.next 65536 then none else (lget blk.cells off (n * sz)).map fun old => (.ref m.next ((n + k) * sz) 0 (n + k) (n + k) false sz, m.add ⟨e, old ++ cs, 0⟩)
        else bif Nat.beq off 0 && Nat.beq (n * sz) ext && Nat.beq blk.ty e && Nat.ble blk.fz ext then
          some (.ref b ((n + k) * sz) 0 (n + k) (n + k) false sz, m.upd b { blk with cells := blk.cells ++ cs })
        else none
      | none => none
  | _ => none

/-- What is appended: how many elements, and their cells. -/
def appended (E : Env) (m : Mem) (ve : VT) (t2 : Option TypeId) (x : AVal) : Option (Nat × List AVal) :=
  match t2 with
  | none => none
  | some t2 => match E.ty.get t2 with
    | some { d := .int _, .. } => (natOf x).bind fun k => bif Nat.ble k 1048576 then some (k, zeros ve.zero k) else none
    | some { d := .slice _, .. } => (sliceLen x).bind fun k => (sliceCells m x k ve.size).map fun cs => (k, cs)
    | some { d := .str, .. } => (match x with
      | .str s => bif Nat.beq ve.size 1 then some (s.size, s.data.toList.map fun b => .int .u8 b.toNat) else none
      | _ => none)
    | _ => none

def heavy (E : Env) (call : FuncId → List AVal → Mem → Option (AVal × Mem)) (m : Mem) (ρ : Operand → AVal) : Op → Option (AVal × Mem)
  | .store t a v => match E.ty.get t, ρ a, (ρ v).cells? with
    | some vt, .ptr b ext off, some cs => bif Nat.beq cs.length vt.size then (writeCells m b ext off cs).map fun m' => (.tup [], m') else none
    | _, _, _ => none
  | .call { callee := .builtin .append, args, argTypes } => match args.toList, argTypes.toList with
    | [s, x], t :: ts => match E.ty.get t with
      | some { d := .slice e, .. } => match E.ty.get e with
        | some ve => bif Nat.blt 0 ve.size && Nat.blt 0 ve.bytes && Nat.ble ve.bytes 65536 && Nat.beq ve.zero.length ve.size then
            (appended E m ve ts.head? (ρ x)).bind fun (k, cs) => appendTo m e ve (ρ s) k cs
          else none
        | none => none
      | _ => none
    | _, _ => none
  | .call { callee := .builtin .copy, args, argTypes } => match args.toList, argTypes.toList with
    | [d, s], t :: _ => match E.ty.get t with
      | some { d := .slice e, .. } => match E.ty.get e with
        | some ve => (sliceLen (ρ d)).bind fun dn => (sliceLen (ρ s)).bind fun sn =>
            let n := Nat.min sn dn
            (sliceCells m (ρ s) n ve.size).bind fun cs => match ρ d with
              | .ref b ext off _ _ _ _ => (writeCells m b ext off cs).map fun m' => (.int .i64 n, m')
              | .nil _ => bif Nat.beq n 0 then some (.int .i64 0, m) else none
              | _ => none
        | none => none
      | _ => none
    | _, _ => none
  | .call { callee := .builtin .clear, args, argTypes } => match args.toList, argTypes.toList with
    | [x], t :: _ => match E.ty.get t with
      | some { d := .slice e, .. } => match E.ty.get e with
        | some ve => match ρ x with
          | .ref b ext off n _ _ _ => bif Nat.beq n 0 then some (.tup [], m) else bif Nat.beq ve.zero.length ve.size then (writeCells m b ext off (zeros ve.zero n)).map fun m' => (.tup [], m') else none
          | .nil _ => some (.tup [], m)
          | .imm _ 0 => some (.tup [], m)
          | _ => none
        | none => none
      | _ => none
    | _, _ => none
  | .call { callee := .value f, args, .. } => match ρ f with
    | .fn g first captured => call g (first ++ args.toList.map ρ ++ captured) m
    | _ => none
  | _ => none

/-! ### Code -/
def St.slot (st : St) (d : Nat) : AVal := (Slots.get st.slots d).getD .any

def St.ev (st : St) : Operand → AVal
  | .tmp t => st.slot t
  | .const v => ofConst v
  | .global _ => .any
  | .func f => .fn f [] []

def St.put (st : St) (dst : Option Nat) (v : AVal) : Option St :=
  match dst with
  | none => some st
  | some d => bif Nat.blt d st.nt then some { st with slots := Slots.put st.slots d v } else none

/-- Is the operation to be carried out? none: it can't be told. -/
def wanted (ops : List Oper) (st : St) (o : Oper) : Option Bool :=
  match o.guard with
  | none => some true
  | some (j, want) => match ops[j]? with
    | some { dst := some d, .. } => (match st.slot d with
      | .bool b => some (b == want)
      | .tup _ => some false
      | _ => none)
    | _ => none

abbrev CallFn := FuncId → List AVal → Mem → Option (AVal × Mem)

def runOp (E : Env) (call : CallFn) (ops : List Oper) (st : St) (o : Oper) : Option St :=
  match wanted ops st o with
  | none => none
  | some false => st.put o.dst (.tup [])
  | some true =>
    bif isHeavy o.op then match heavy E call st.mem st.ev o.op with
      | some (v, m) => St.put { st with mem := m } o.dst v
      | none => none
    else match light E st.mem st.ev o.op with
      | some (.val v) => st.put o.dst v
      | some (.new blk mk) => bif Nat.blt st.mem.next 65536 then St.put { st with mem := st.mem.add blk } o.dst (mk.at st.mem.next) else none
      | none => none

def runSeq (E : Env) (call : CallFn) (ops : List Oper) : List Oper → St → Option St
  | [], st => some st
  | o :: rest, st => match runOp E call ops st o with
    | some st' => runSeq E call ops rest st'
    | none => none

def runPlan (E : Env) (call : CallFn) (ops : List Oper) : List RStep → St → Option St
  | [], st => some st
  | .run j :: rest, st => match ops[j]? with
    | some o => (match runOp E call ops st o with
      | some st' => runPlan E call ops rest st'
      | none => none)
    | none => none
  | .chk j :: rest, st => match ops[j]? with
    | some o => (match wanted ops st o with
      | some true => (match light E st.mem st.ev o.op, o.dst with
        | some (.val v), some d => bif AVal.same v (st.slot d) then runPlan E call ops rest st else none
        | _, _ => none)
      | some false => runPlan E call ops rest st
      | none => none)
    | none => none

inductive Ex where
  | normal
  | exit (id : Nat)
  | ret

def execF (E : Env) (call : CallFn) (ih : Code → St → Option (Ex × St)) (c : Code) (st : St) : Option (Ex × St) :=
  match c with
  | .skip => some (.normal, st)
  | .ret => some (.ret, st)
  | .exit id => some (.exit id, st)
  | .seq a b => match ih a st with
    | some (.normal, st') => ih b st'
    | r => r
  | .cond x a b => match st.ev x with
    | .bool t => ih (bif t then a else b) st
    | _ => none
  | .block id body => match ih body st with
    | some (.exit id', st') => some (bif Nat.beq id' id then .normal else .exit id', st')
    | r => r
  | .loop body => match ih body st with
    | some (.normal, st') => ih (.loop body) st'
    | r => r
  | .region _ ops false => (runSeq E call ops.toList ops.toList st).map fun st' => (.normal, st')
  | .region id ops true => match E.plans.get (planKey st.fn id) with
    | some plan => (runPlan E call ops.toList plan st).map fun st' => (.normal, st')
    | none => none
  | _ => none

def argSlots : Nat → List AVal → Slots → Slots
  | _, [], t => t
  | i, v :: vs, t => argSlots (i + 1) vs (Slots.put t i v)

def resultVals (E : Env) (st : St) : List ResultVar → Option (List AVal)
  | [] => some []
  | .tmp t :: rest => (resultVals E st rest).map (st.slot t :: ·)
  | .cell a t :: rest => match E.ty.get t with
    | some vt => ((readCells st.mem (st.slot a) vt.size).bind (mkVal vt)).bind fun v => (resultVals E st rest).map (v :: ·)
    | none => none

def oneOr : List AVal → AVal
  | [v] => v
  | vs => .tup vs

def callF (E : Env) (ih : Code → St → Option (Ex × St)) (f : FuncId) (args : List AVal) (m : Mem) : Option (AVal × Mem) :=
  match E.orc f args with
  | some v => some (v, m)
  | none => match E.fns.get f with
  | none => none
  | some fn => match fn.body with
    | none => none
    | some c =>
      bif Nat.ble args.length fn.ntmps && Nat.ble fn.ntmps 256 then
        match ih c ⟨f, fn.ntmps, argSlots 0 args Slots.nil, m⟩ with
        | some (.normal, st) | some (.ret, st) => (resultVals E st fn.results.toList).map fun vs => (oneOr vs, st.mem)
        | _ => none
      else none

/-- The machine: fuel counts how deep it goes. -/
def exec (E : Env) (n : Nat) : Code → St → Option (Ex × St) :=
  Nat.rec (motive := fun _ => Code → St → Option (Ex × St)) (fun _ _ => none) (fun _ ih => execF E (callF E ih) ih) n

def call (E : Env) (n : Nat) : CallFn := callF E (exec E n)

end Go.V
