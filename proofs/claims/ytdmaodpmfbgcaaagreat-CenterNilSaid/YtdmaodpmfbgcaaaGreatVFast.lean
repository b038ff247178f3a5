/-
  The abstract machine once more, made for the kernel: each operation of the text becomes a closure once, and is then only applied. Definitions only. Printed in part by a program.
-/
import Derived.Test.YtdmaodpmfbgcaaaGreatVFast0
namespace Go.V

inductive XR where
  | stuck
  | done (ex : Ex) (s : Slots) (m : Mem)
inductive CR where
  | stuck
  | ok (v : AVal) (m : Mem)
abbrev CF := FuncId → List AVal → Mem → CR
abbrev KT := Slots → Mem → XR
structure OC where
  run : CF → KT → Slots → Mem → XR
structure LC where
  l : Slots → Mem → Option AVal
structure DC where
  d : AVal → KT → Slots → Mem → XR
structure AC where
  a : Slots → List AVal
structure PK (β α : Type) where
  p : α → β → α
structure GK (β α : Type) where
  g : α → β

inductive IV where
  | no
  | yes (k : IntKind) (n : Int)
inductive GV where
  | no
  | bool (b : Bool)
  | tup
inductive PV where
  | no
  | ptr (b ext off : Nat)
  | iptr (cells : List AVal)
inductive RV where
  | no
  | nil
  | ref (b ext off n lo : Nat) (exact : Bool) (sz : Nat)
  | imm (cells : List AVal) (n : Nat)

noncomputable def asInt (v : AVal) : IV :=
  @AVal.rec (fun _ => IV) (fun _ => IV) (IV.no) (fun _ => IV.no) (fun k n => IV.yes k n) (fun _ => IV.no) (IV.no) (fun _ _ _ => IV.no) (fun _ _ => IV.no) (fun _ => IV.no) (fun _ _ _ _ _ _ _ => IV.no) (fun _ _ _ => IV.no) (IV.no) (fun _ _ _ _ _ => IV.no) (fun _ _ => IV.no) (fun _ _ => IV.no) (fun _ => IV.no) (IV.no) (fun _ _ _ _ => IV.no) v

noncomputable def asBool (v : AVal) : Option Bool :=
  @AVal.rec (fun _ => Option Bool) (fun _ => Option Bool) (none) (fun b => some b) (fun _ _ => none) (fun _ => none) (none) (fun _ _ _ => none) (fun _ _ => none) (fun _ => none) (fun _ _ _ _ _ _ _ => none) (fun _ _ _ => none) (none) (fun _ _ _ _ _ => none) (fun _ _ => none) (fun _ _ => none) (fun _ => none) (none) (fun _ _ _ _ => none) v

noncomputable def asStr (v : AVal) : Option ByteArray :=
  @AVal.rec (fun _ => Option ByteArray) (fun _ => Option ByteArray) (none) (fun _ => none) (fun _ _ => none) (fun s => some s) (none) (fun _ _ _ => none) (fun _ _ => none) (fun _ => none) (fun _ _ _ _ _ _ _ => none) (fun _ _ _ => none) (none) (fun _ _ _ _ _ => none) (fun _ _ => none) (fun _ _ => none) (fun _ => none) (none) (fun _ _ _ _ => none) v

noncomputable def asGuard (v : AVal) : GV :=
  @AVal.rec (fun _ => GV) (fun _ => GV) (GV.no) (fun b => GV.bool b) (fun _ _ => GV.no) (fun _ => GV.no) (GV.no) (fun _ _ _ => GV.no) (fun _ _ => GV.no) (fun _ => GV.no) (fun _ _ _ _ _ _ _ => GV.no) (fun _ _ _ => GV.no) (GV.no) (fun _ _ _ _ _ => GV.no) (fun _ _ => GV.no) (fun _ _ => GV.tup) (fun _ => GV.no) (GV.no) (fun _ _ _ _ => GV.no) v

noncomputable def asPtr (v : AVal) : PV :=
  @AVal.rec (fun _ => PV) (fun _ => PV) (PV.no) (fun _ => PV.no) (fun _ _ => PV.no) (fun _ => PV.no) (PV.no) (fun b ext off => PV.ptr b ext off) (fun cells _ => PV.iptr cells) (fun _ => PV.no) (fun _ _ _ _ _ _ _ => PV.no) (fun _ _ _ => PV.no) (PV.no) (fun _ _ _ _ _ => PV.no) (fun _ _ => PV.no) (fun _ _ => PV.no) (fun _ => PV.no) (PV.no) (fun _ _ _ _ => PV.no) v

noncomputable def asRef (v : AVal) : RV :=
  @AVal.rec (fun _ => RV) (fun _ => RV) (RV.no) (fun _ => RV.no) (fun _ _ => RV.no) (fun _ => RV.no) (RV.no) (fun _ _ _ => RV.no) (fun _ _ => RV.no) (fun _ => RV.nil) (fun b ext off n lo exact sz => RV.ref b ext off n lo exact sz) (fun cells n _ => RV.imm cells n) (RV.no) (fun _ _ _ _ _ => RV.no) (fun _ _ => RV.no) (fun _ _ => RV.no) (fun _ => RV.no) (RV.no) (fun _ _ _ _ => RV.no) v

noncomputable def asAgg (v : AVal) : Option (List AVal) :=
  @AVal.rec (fun _ => Option (List AVal)) (fun _ => Option (List AVal)) (none) (fun _ => none) (fun _ _ => none) (fun _ => none) (none) (fun _ _ _ => none) (fun _ _ => none) (fun _ => none) (fun _ _ _ _ _ _ _ => none) (fun _ _ _ => none) (none) (fun _ _ _ _ _ => none) (fun cs _ => some cs) (fun _ _ => none) (fun _ => none) (none) (fun _ _ _ _ => none) v

noncomputable def asTup (v : AVal) : Option (List AVal) :=
  @AVal.rec (fun _ => Option (List AVal)) (fun _ => Option (List AVal)) (none) (fun _ => none) (fun _ _ => none) (fun _ => none) (none) (fun _ _ _ => none) (fun _ _ => none) (fun _ => none) (fun _ _ _ _ _ _ _ => none) (fun _ _ _ => none) (none) (fun _ _ _ _ _ => none) (fun _ _ => none) (fun vs _ => some vs) (fun _ => none) (none) (fun _ _ _ _ => none) v

noncomputable def notNil (v : AVal) : Bool :=
  @AVal.rec (fun _ => Bool) (fun _ => Bool) (false) (fun _ => false) (fun _ _ => false) (fun _ => false) (false) (fun _ _ _ => true) (fun _ _ => true) (fun _ => false) (fun _ _ _ _ _ _ _ => false) (fun _ _ _ => false) (false) (fun _ _ _ _ _ => true) (fun _ _ => false) (fun _ _ => false) (fun _ => false) (false) (fun _ _ _ _ => false) v

noncomputable def cellsF (v : AVal) : Option (List AVal) :=
  @AVal.rec (fun _ => Option (List AVal)) (fun _ => Option (List AVal)) (none) (fun b => some [AVal.bool b]) (fun k n => some [AVal.int k n]) (fun s => some [AVal.str s]) (some [AVal.nilp]) (fun b ext off => some [AVal.ptr b ext off]) (fun cells _ => some [AVal.iptr cells]) (fun s => some [AVal.nil s]) (fun b ext off n lo exact sz => some [AVal.ref b ext off n lo exact sz]) (fun cells n _ => some [AVal.imm cells n]) (some [AVal.nilf]) (fun f xs ys _ _ => some [AVal.fn f xs ys]) (fun cs _ => some cs) (fun _ _ => none) (fun k => some [AVal.opq k]) (none) (fun _ _ _ _ => none) v

/-! ### Trees -/
section
variable {α β : Type}
noncomputable def uA (f : α → β → α) : Q4 α → β → Q4 α := fun s v => @Q4.rec α (fun _ => (α → β → α) → β → Q4 α) (fun a b c d f v => ⟨f a v, b, c, d⟩) s f v
noncomputable def uB (f : α → β → α) : Q4 α → β → Q4 α := fun s v => @Q4.rec α (fun _ => (α → β → α) → β → Q4 α) (fun a b c d f v => ⟨a, f b v, c, d⟩) s f v
noncomputable def uC (f : α → β → α) : Q4 α → β → Q4 α := fun s v => @Q4.rec α (fun _ => (α → β → α) → β → Q4 α) (fun a b c d f v => ⟨a, b, f c v, d⟩) s f v
noncomputable def uD (f : α → β → α) : Q4 α → β → Q4 α := fun s v => @Q4.rec α (fun _ => (α → β → α) → β → Q4 α) (fun a b c d f v => ⟨a, b, c, f d v⟩) s f v
end

noncomputable def pacc (β : Type) (k : Nat) : Nat → PK β (Lv β k) :=
  @Nat.rec (fun k => Nat → PK β (Lv β k)) (fun _ => ⟨fun _ v => v⟩)
    (fun k ih n => @Nat.rec (fun _ => PK β (Lv β (k + 1))) ⟨uA (α := Lv β k) (ih (Nat.div n 4)).p⟩
      (fun i _ => @Nat.rec (fun _ => PK β (Lv β (k + 1))) ⟨uB (α := Lv β k) (ih (Nat.div n 4)).p⟩
        (fun i _ => @Nat.rec (fun _ => PK β (Lv β (k + 1))) ⟨uC (α := Lv β k) (ih (Nat.div n 4)).p⟩ (fun _ _ => ⟨uD (α := Lv β k) (ih (Nat.div n 4)).p⟩) i) i) (Nat.mod n 4)) k

noncomputable def gacc (β : Type) (k : Nat) : Nat → GK β (Lv β k) :=
  @Nat.rec (fun k => Nat → GK β (Lv β k)) (fun _ => ⟨fun x => x⟩)
    (fun k ih n => @Nat.rec (fun _ => GK β (Lv β (k + 1))) ⟨fun x => (ih (Nat.div n 4)).g (Q4.a (α := Lv β k) x)⟩
      (fun i _ => @Nat.rec (fun _ => GK β (Lv β (k + 1))) ⟨fun x => (ih (Nat.div n 4)).g (Q4.b (α := Lv β k) x)⟩
        (fun i _ => @Nat.rec (fun _ => GK β (Lv β (k + 1))) ⟨fun x => (ih (Nat.div n 4)).g (Q4.c (α := Lv β k) x)⟩ (fun _ _ => ⟨fun x => (ih (Nat.div n 4)).g (Q4.d (α := Lv β k) x)⟩) i) i) (Nat.mod n 4)) k

noncomputable def hk (b : Nat) : GK (Option Block) Hp := bif Nat.blt b 65536 then gacc (Option Block) 8 b else ⟨fun _ => none⟩
noncomputable def hp (b : Nat) : PK (Option Block) Hp := pacc (Option Block) 8 b
noncomputable def sp (d : Nat) : SC := (ptab[d]?).getD ⟨fun s _ => s⟩
noncomputable def mget (m : Mem) (b : Nat) : Option Block := (hk b).g m.blocks
noncomputable def mupd (m : Mem) (b : Nat) (blk : Block) : Mem := @Mem.rec (fun _ => Nat → Block → Mem) (fun bl nx b blk => ⟨(hp b).p bl (some blk), nx⟩) m b blk

/-! ### Lists -/
noncomputable def lenF (l : List AVal) : Nat := @List.rec AVal (fun _ => Nat) 0 (fun _ _ ih => Nat.succ ih) l
noncomputable def nthF (l : List AVal) (i : Nat) : Option AVal :=
  @List.rec AVal (fun _ => Nat → Option AVal) (fun _ => none) (fun c _ ih i => @Nat.rec (fun _ => AVal → (Nat → Option AVal) → Option AVal) (fun c _ => some c) (fun i _ _ ih => ih i) i c ih) l i
noncomputable def tailF (l : List AVal) : List AVal := @List.rec AVal (fun _ => List AVal) [] (fun _ t _ => t) l
noncomputable def dropF (n : Nat) (l : List AVal) : List AVal := @Nat.rec (fun _ => List AVal → List AVal) (fun l => l) (fun _ ih l => ih (tailF l)) n l
noncomputable def takeF (n : Nat) (l : List AVal) : List AVal :=
  @Nat.rec (fun _ => List AVal → List AVal) (fun _ => []) (fun _ ih l => @List.rec AVal (fun _ => (List AVal → List AVal) → List AVal) (fun _ => []) (fun h t _ ih => h :: ih t) l ih) n l
noncomputable def lputF (l : List AVal) (off : Nat) (vs : List AVal) : List AVal :=
  @List.rec AVal (fun _ => Nat → List AVal → List AVal) (fun _ _ => [])
    (fun c t ih off vs => @List.rec AVal (fun _ => AVal → List AVal → (Nat → List AVal → List AVal) → Nat → List AVal) (fun c t _ _ => c :: t)
      (fun v vs _ c _ ih off => @Nat.rec (fun _ => AVal → List AVal → AVal → (Nat → List AVal → List AVal) → List AVal) (fun v vs _ ih => v :: ih 0 vs) (fun n _ v vs c ih => c :: ih n (v :: vs)) off v vs c ih) vs c t ih off) l off vs

/-! ### Numbers -/
noncomputable def xorF (a b : Bool) : Bool := @Bool.rec (fun _ => Bool → Bool) (fun b => b) (fun b => @Bool.rec (fun _ => Bool) true false b) a b
noncomputable def notB (b : Bool) : Bool := @Bool.rec (fun _ => Bool) true false b
noncomputable def kidx (k : IntKind) : Nat := @IntKind.rec (fun _ => Nat) 0 1 2 3 4 5 6 7 k
noncomputable def kmax (k : IntKind) : Nat := @IntKind.rec (fun _ => Nat) 127 32767 2147483647 9223372036854775807 255 65535 4294967295 18446744073709551615 k
noncomputable def kmin (k : IntKind) : Nat := @IntKind.rec (fun _ => Nat) 128 32768 2147483648 9223372036854775808 0 0 0 0 k
noncomputable def unsg (k : IntKind) : Bool := @IntKind.rec (fun _ => Bool) false false false false true true true true k
noncomputable def kbits (k : IntKind) : Nat := @IntKind.rec (fun _ => Nat) 8 16 32 64 8 16 32 64 k
noncomputable def wrapF (k : IntKind) (n : Int) : Int :=
  @Int.rec (fun _ => IntKind → Int) (fun a k => @Bool.rec (fun _ => Int) (@Bool.rec (fun _ => Int) (k.wrap (.ofNat a)) (.ofNat (Nat.mod a (Nat.succ (kmax k)))) (unsg k)) (.ofNat a) (Nat.ble a (kmax k))) (fun a k => @Bool.rec (fun _ => Int) (k.wrap (.negSucc a)) (.negSucc a) (Nat.blt a (kmin k))) n k
noncomputable def minF (a b : Nat) : Nat := @Bool.rec (fun _ => Nat) (b) (a) (Nat.ble a b)
noncomputable def addF (x y : Int) : Int :=
  @Int.rec (fun _ => Int → Int) (fun a y => @Int.rec (fun _ => Nat → Int) (fun b a => .ofNat (Nat.add a b)) (fun b a => Int.add (.ofNat a) (.negSucc b)) y a) (fun a y => Int.add (.negSucc a) y) x y
noncomputable def subF (x y : Int) : Int :=
  @Int.rec (fun _ => Int → Int) (fun a y => @Int.rec (fun _ => Nat → Int) (fun b a => @Bool.rec (fun _ => Int) (.negSucc (Nat.pred (Nat.sub b a))) (.ofNat (Nat.sub a b)) (Nat.ble b a)) (fun b a => Int.sub (.ofNat a) (.negSucc b)) y a) (fun a y => Int.sub (.negSucc a) y) x y
noncomputable def ltF (x y : Int) : Bool :=
  @Int.rec (fun _ => Int → Bool) (fun a y => @Int.rec (fun _ => Nat → Bool) (fun b a => Nat.blt a b) (fun _ _ => false) y a) (fun a y => @Int.rec (fun _ => Nat → Bool) (fun _ _ => true) (fun b a => Nat.blt b a) y a) x y
noncomputable def eqF (x y : Int) : Bool :=
  @Int.rec (fun _ => Int → Bool) (fun a y => @Int.rec (fun _ => Nat → Bool) (fun b a => Nat.beq a b) (fun _ _ => false) y a) (fun a y => @Int.rec (fun _ => Nat → Bool) (fun _ _ => false) (fun b a => Nat.beq a b) y a) x y

/-- Two numbers of one kind. -/
noncomputable def two (f : IntKind → Int → Int → AVal) (a b : AVal) : Option AVal :=
  @IV.rec (fun _ => (IntKind → Int → Int → AVal) → AVal → Option AVal) (fun _ _ => none)
    (fun k n f b => @IV.rec (fun _ => (IntKind → Int → Int → AVal) → IntKind → Int → Option AVal) (fun _ _ _ => none) (fun l y f k n => @Bool.rec (fun _ => Option AVal) (none) (some (f k n y)) (Nat.beq (kidx k) (kidx l))) (asInt b) f k n) (asInt a) f b
/-- Two numbers of one kind, neither below 0 nor above what the kind has; none else. -/
noncomputable def twoN (f : IntKind → Nat → Nat → AVal) (a b : AVal) : Option AVal :=
  @IV.rec (fun _ => (IntKind → Nat → Nat → AVal) → AVal → Option AVal) (fun _ _ => none)
    (fun k n f b => @IV.rec (fun _ => (IntKind → Nat → Nat → AVal) → IntKind → Int → Option AVal) (fun _ _ _ => none)
      (fun l y f k n => @Bool.rec (fun _ => Option AVal) (none) (@Int.rec (fun _ => Int → (IntKind → Nat → Nat → AVal) → IntKind → Option AVal)
        (fun n y f k => @Int.rec (fun _ => Nat → (IntKind → Nat → Nat → AVal) → IntKind → Option AVal) (fun y n f k => @Bool.rec (fun _ => Option AVal) (none) (some (f k n y)) (and (Nat.ble n (kmax k)) (Nat.ble y (kmax k)))) (fun _ _ _ _ => none) y n f k) (fun _ _ _ _ => none) n y f k) (Nat.beq (kidx k) (kidx l))) (asInt b) f k n) (asInt a) f b
/-- Two numbers not below 0, of whatever kinds. -/
noncomputable def twoS (f : IntKind → Nat → Nat → AVal) (a b : AVal) : Option AVal :=
  @IV.rec (fun _ => (IntKind → Nat → Nat → AVal) → AVal → Option AVal) (fun _ _ => none)
    (fun k n f b => @IV.rec (fun _ => (IntKind → Nat → Nat → AVal) → IntKind → Int → Option AVal) (fun _ _ _ => none)
      (fun _ y f k n => @Int.rec (fun _ => Int → (IntKind → Nat → Nat → AVal) → IntKind → Option AVal)
        (fun n y f k => @Int.rec (fun _ => Nat → (IntKind → Nat → Nat → AVal) → IntKind → Option AVal) (fun y n f k => some (f k n y)) (fun _ _ _ _ => none) y n f k) (fun _ _ _ _ => none) n y f k) (asInt b) f k n) (asInt a) f b
/-- Two texts. -/
noncomputable def bytesEq (x y : List UInt8) : Bool :=
  @List.rec UInt8 (fun _ => List UInt8 → Bool) (fun y => @List.rec UInt8 (fun _ => Bool) true (fun _ _ _ => false) y)
    (fun a _ ih y => @List.rec UInt8 (fun _ => UInt8 → (List UInt8 → Bool) → Bool) (fun _ _ => false) (fun b y _ a ih => @Bool.rec (fun _ => Bool) (false) (ih y) (Nat.beq a.toNat b.toNat)) y a ih) x y
noncomputable def natF (v : AVal) : Option Nat :=
  @IV.rec (fun _ => Option Nat) none (fun _ n => @Int.rec (fun _ => Option Nat) (fun a => some a) (fun _ => none) n) (asInt v)
noncomputable def orElse1 (r : Option AVal) (f : Unit → Option AVal) : Option AVal := @Option.rec AVal (fun _ => (Unit → Option AVal) → Option AVal) (fun f => f ()) (fun v _ => some v) r f

/-! ### Operands, and where a result goes -/
noncomputable def constC (v : AVal) : GC :=
  match v with
  | .any => ⟨fun _ => .any⟩
  | .bool true => ⟨fun _ => .bool true⟩
  | .bool false => ⟨fun _ => .bool false⟩
  | .int k (.ofNat n) => ⟨fun _ => .int k (.ofNat n)⟩
  | .int k (.negSucc n) => ⟨fun _ => .int k (.negSucc n)⟩
  | .str s => ⟨fun _ => .str s⟩
  | .nilp => ⟨fun _ => .nilp⟩
  | .nil b => ⟨fun _ => .nil b⟩
  | .agg cs => ⟨fun _ => .agg cs⟩
  | v => ⟨fun _ => v⟩
noncomputable def opn (x : Operand) : GC :=
  match x with
  | .tmp t => (gtab[t]?).getD ⟨fun _ => .any⟩
  | .const v => constC (ofConst v)
  | .global _ => ⟨fun _ => .any⟩
  | .func f => ⟨fun _ => .fn f [] []⟩
noncomputable def evF (s : Slots) (x : Operand) : AVal := (opn x).g s
noncomputable def dst (nt : Nat) (d : Option Nat) : DC :=
  match d with
  | none => ⟨fun _ k s m => k s m⟩
  | some d => bif Nat.blt d nt then ⟨fun v k s m => k ((sp d).p s v) m⟩ else ⟨fun _ _ _ _ => .stuck⟩
noncomputable def argsC (l : List Operand) : AC :=
  match l with
  | [] => ⟨fun _ => []⟩
  | x :: l => ⟨fun s => (opn x).g s :: (argsC l).a s⟩

/-! ### Operations that only answer a value -/
noncomputable def ld1b (o : Option Block) (ext off : Nat) : Option AVal :=
  @Option.rec Block (fun _ => Nat → Nat → Option AVal) (fun _ _ => none) (fun blk ext off => @Block.rec (fun _ => Nat → Nat → Option AVal) (fun _ cells _ ext off => @Bool.rec (fun _ => Option AVal) (none) (nthF cells off) (Nat.beq (lenF cells) ext)) blk ext off) o ext off
noncomputable def ld1 (v : AVal) (m : Mem) : Option AVal :=
  @PV.rec (fun _ => Mem → Option AVal) (fun _ => none) (fun b ext off m => ld1b (mget m b) ext off) (fun cells _ => nthF cells 0) (asPtr v) m
noncomputable def ldNb (o : Option Block) (n ext off : Nat) : Option AVal :=
  @Option.rec Block (fun _ => Nat → Nat → Nat → Option AVal) (fun _ _ _ => none)
    (fun blk n ext off => @Block.rec (fun _ => Nat → Nat → Nat → Option AVal) (fun _ cells _ n ext off => bif Nat.beq (lenF cells) ext then (bif Nat.ble (Nat.add off n) ext then some (.agg (takeF n (dropF off cells))) else none) else none) blk n ext off) o n ext off
noncomputable def ldN (n : Nat) (v : AVal) (m : Mem) : Option AVal :=
  @PV.rec (fun _ => Nat → Mem → Option AVal) (fun _ _ => none) (fun b ext off n m => ldNb (mget m b) n ext off) (fun cells n _ => bif Nat.ble n (lenF cells) then some (.agg (takeF n cells)) else none) (asPtr v) n m
noncomputable def loadC (E : Env) (t : TypeId) (x : GC) : LC :=
  match E.ty.get t with
  | some vt => bif vt.d.isAgg then ⟨fun s m => ldN vt.size (x.g s) m⟩ else bif Nat.beq vt.size 1 then ⟨fun s m => ld1 (x.g s) m⟩ else ⟨fun _ _ => none⟩
  | none => ⟨fun _ _ => none⟩
noncomputable def shiftF (v : AVal) (n : Nat) : Option AVal :=
  @PV.rec (fun _ => Nat → Option AVal) (fun _ => none) (fun b ext off n => some (.ptr b ext (Nat.add off n))) (fun cells n => some (.iptr (dropF n cells))) (asPtr v) n
noncomputable def shiftI (v : AVal) (n size : Nat) (o : Option Nat) : Option AVal :=
  @Option.rec Nat (fun _ => AVal → Nat → Nat → Option AVal) (fun _ _ _ => none) (fun i v n size => @Bool.rec (fun _ => Option AVal) (none) (shiftF v (Nat.mul i size)) (Nat.blt i n)) o v n size
noncomputable def sliceI (v : AVal) (size : Nat) (o : Option Nat) : Option AVal :=
  @Option.rec Nat (fun _ => AVal → Nat → Option AVal) (fun _ _ => none)
    (fun i v size => @RV.rec (fun _ => Nat → Nat → Option AVal) (fun _ _ => none) (fun _ _ => none) (fun b ext off n _ _ _ i size => @Bool.rec (fun _ => Option AVal) (none) (some (.ptr b ext (Nat.add off (Nat.mul i size)))) (Nat.blt i n))
      (fun cells n i size => bif Nat.blt i n && Nat.ble (Nat.mul (Nat.succ i) size) (lenF cells) && Nat.blt 0 size then some (.iptr (dropF (Nat.mul i size) cells)) else none) (asRef v) i size) o v size
noncomputable def indexAddrC (E : Env) (t : TypeId) (x ix : GC) : LC :=
  match E.ty.get t with
  | some { d := .slice e, .. } => (match E.ty.get e with
    | some ve => ⟨fun s _ => sliceI (x.g s) ve.size (natF (ix.g s))⟩
    | none => ⟨fun _ _ => none⟩)
  | some { d := .array n e, .. } => (match E.ty.get e with
    | some ve => ⟨fun s _ => shiftI (x.g s) n ve.size (natF (ix.g s))⟩
    | none => ⟨fun _ _ => none⟩)
  | _ => ⟨fun _ _ => none⟩
noncomputable def aggI (v : AVal) (n : Nat) (o : Option Nat) : Option AVal :=
  @Option.rec Nat (fun _ => AVal → Nat → Option AVal) (fun _ _ => none)
    (fun i v n => @Option.rec (List AVal) (fun _ => Nat → Nat → Option AVal) (fun _ _ => none) (fun cs i n => @Bool.rec (fun _ => Option AVal) (none) (nthF cs i) (Nat.blt i n)) (asAgg v) i n) o v n
noncomputable def indexC (E : Env) (t : TypeId) (x ix : GC) : LC :=
  match E.ty.get t with
  | some { d := .array n e, .. } => (match E.ty.get e with
    | some ve => bif !ve.d.isAgg && Nat.beq ve.size 1 then ⟨fun s _ => aggI (x.g s) n (natF (ix.g s))⟩ else ⟨fun s _ => (natOf (ix.g s)).bind fun i => elemAt E t (x.g s) i⟩
    | none => ⟨fun _ _ => none⟩)
  | _ => ⟨fun s _ => (natOf (ix.g s)).bind fun i => elemAt E t (x.g s) i⟩
noncomputable def fieldF (off size : Nat) (agg : Bool) (o : Option (List AVal)) : Option AVal :=
  @Option.rec (List AVal) (fun _ => Nat → Nat → Bool → Option AVal) (fun _ _ _ => none)
    (fun cs off size agg => @Bool.rec (fun _ => Option AVal) (nthF cs off) (@Bool.rec (fun _ => Option AVal) (none) (some (.agg (takeF size (dropF off cs)))) (Nat.ble (Nat.add off size) (lenF cs))) (agg)) o off size agg
noncomputable def fieldC (E : Env) (t : TypeId) (x : GC) (f : Nat) : LC :=
  match fieldOf E t f with
  | some (vt, off) => bif Nat.blt 0 vt.size && (vt.d.isAgg || Nat.beq vt.size 1) then ⟨fun s _ => fieldF off vt.size vt.d.isAgg (asAgg (x.g s))⟩ else ⟨fun _ _ => none⟩
  | none => ⟨fun _ _ => none⟩
noncomputable def eqSB (f : Unit → Option AVal) (neg : Bool) (a b : AVal) : Option AVal :=
  @Option.rec ByteArray (fun _ => (Unit → Option AVal) → Bool → AVal → Option AVal) (fun f _ _ => f ())
    (fun x _ neg b => @Option.rec ByteArray (fun _ => Bool → ByteArray → Option AVal) (fun _ _ => none) (fun y neg x => some (.bool (xorF neg (bytesEq x.data.toList y.data.toList)))) (asStr b) neg x) (asStr a) f neg b
noncomputable def eqIB (f : Unit → Option AVal) (neg : Bool) (a b : AVal) : Option AVal :=
  @IV.rec (fun _ => (Unit → Option AVal) → Bool → AVal → AVal → Option AVal) (fun f neg a b => eqSB f neg a b)
    (fun k n _ neg _ b => @IV.rec (fun _ => Bool → IntKind → Int → Option AVal) (fun _ _ _ => none) (fun l y neg k n => @Bool.rec (fun _ => Option AVal) (none) (some (.bool (xorF neg (eqF n y)))) (Nat.beq (kidx k) (kidx l))) (asInt b) neg k n) (asInt a) f neg a b
noncomputable def binC (E : Env) (op : BinOp) (xT : TypeId) (x y : GC) : LC :=
  match op with
  | .add => ⟨fun s _ => orElse1 (two (fun k n y => .int k (wrapF k (addF n y))) (x.g s) (y.g s)) fun _ => bin E .add xT (x.g s) (y.g s)⟩
  | .sub => ⟨fun s _ => two (fun k n y => .int k (wrapF k (subF n y))) (x.g s) (y.g s)⟩
  | .mul => ⟨fun s _ => orElse1 (twoN (fun k n y => .int k (wrapF k (.ofNat (Nat.mul n y)))) (x.g s) (y.g s)) fun _ => bin E .mul xT (x.g s) (y.g s)⟩
  | .and => ⟨fun s _ => orElse1 (twoN (fun k n y => .int k (.ofNat (Nat.land n y))) (x.g s) (y.g s)) fun _ => bin E .and xT (x.g s) (y.g s)⟩
  | .or => ⟨fun s _ => orElse1 (twoN (fun k n y => .int k (.ofNat (Nat.lor n y))) (x.g s) (y.g s)) fun _ => bin E .or xT (x.g s) (y.g s)⟩
  | .xor => ⟨fun s _ => orElse1 (twoN (fun k n y => .int k (.ofNat (Nat.xor n y))) (x.g s) (y.g s)) fun _ => bin E .xor xT (x.g s) (y.g s)⟩
  | .shl => ⟨fun s _ => orElse1 (twoS (fun k n y => .int k (wrapF k (.ofNat (Nat.mul n (Nat.pow 2 (minF y (kbits k))))))) (x.g s) (y.g s)) fun _ => bin E .shl xT (x.g s) (y.g s)⟩
  | .shr => ⟨fun s _ => orElse1 (twoS (fun k n y => .int k (.ofNat (Nat.div n (Nat.pow 2 (minF y (kbits k)))))) (x.g s) (y.g s)) fun _ => bin E .shr xT (x.g s) (y.g s)⟩
  | .lss => ⟨fun s _ => orElse1 (two (fun _ n y => .bool (ltF n y)) (x.g s) (y.g s)) fun _ => bin E .lss xT (x.g s) (y.g s)⟩
  | .leq => ⟨fun s _ => orElse1 (two (fun _ n y => .bool (notB (ltF y n))) (x.g s) (y.g s)) fun _ => bin E .leq xT (x.g s) (y.g s)⟩
  | .gtr => ⟨fun s _ => orElse1 (two (fun _ n y => .bool (ltF y n)) (x.g s) (y.g s)) fun _ => bin E .gtr xT (x.g s) (y.g s)⟩
  | .geq => ⟨fun s _ => orElse1 (two (fun _ n y => .bool (notB (ltF n y))) (x.g s) (y.g s)) fun _ => bin E .geq xT (x.g s) (y.g s)⟩
  | .eql => ⟨fun s _ => eqIB (fun _ => bin E .eql xT (x.g s) (y.g s)) false (x.g s) (y.g s)⟩
  | .neq => ⟨fun s _ => eqIB (fun _ => bin E .neq xT (x.g s) (y.g s)) true (x.g s) (y.g s)⟩
  | op => ⟨fun s _ => bin E op xT (x.g s) (y.g s)⟩
noncomputable def notF (o : Option Bool) : Option AVal := @Option.rec Bool (fun _ => Option AVal) none (fun b => some (.bool (notB b))) o
noncomputable def pickF (o : Option Bool) (a b : AVal) : Option AVal := @Option.rec Bool (fun _ => AVal → AVal → Option AVal) (fun _ _ => none) (fun t a b => some (@Bool.rec (fun _ => AVal) (b) (a) (t))) o a b
noncomputable def extF (o : Option (List AVal)) (i : Nat) : Option AVal := @Option.rec (List AVal) (fun _ => Nat → Option AVal) (fun _ => none) (fun vs i => nthF vs i) o i
noncomputable def slenF (v : AVal) : Option AVal :=
  @RV.rec (fun _ => Option AVal) none (some (.int .i64 (.ofNat 0))) (fun _ _ _ n _ _ _ => some (.int .i64 (.ofNat n))) (fun _ n => some (.int .i64 (.ofNat n))) (asRef v)
noncomputable def lenC (E : Env) (t : TypeId) (x : GC) : LC :=
  match E.ty.get t with
  | some { d := .slice _, .. } => ⟨fun s _ => slenF (x.g s)⟩
  | _ => ⟨fun s _ => (lenOf E t (x.g s)).map fun n => .int .i64 (.ofNat n)⟩
def lightV (E : Env) (m : Mem) (ρ : Operand → AVal) (op : Op) : Option AVal :=
  match light E m ρ op with
  | some (.val v) => some v
  | _ => none

noncomputable def lc (E : Env) (op : Op) : LC :=
  match op with
  | .move x | .assign x => ⟨fun s _ => some ((opn x).g s)⟩
  | .pick c a b => ⟨fun s _ => pickF (asBool ((opn c).g s)) ((opn a).g s) ((opn b).g s)⟩
  | .nilCheck x => ⟨fun s _ => @Bool.rec (fun _ => Option AVal) (none) (some ((opn x).g s)) (notNil ((opn x).g s))⟩
  | .binOp op xT x y _ => binC E op xT (opn x) (opn y)
  | .unOp .not _ x => ⟨fun s _ => notF (asBool ((opn x).g s))⟩
  | .unOp op _ x => ⟨fun s _ => un op ((opn x).g s)⟩
  | .field t x f => fieldC E t (opn x) f
  | .fieldAddr t x f => (match fieldOf E t f with
    | some (vt, off) => bif Nat.blt 0 vt.size then ⟨fun s _ => shiftF ((opn x).g s) off⟩ else ⟨fun _ _ => none⟩
    | none => ⟨fun _ _ => none⟩)
  | .indexAddr t x ix => indexAddrC E t (opn x) (opn ix)
  | .index t x ix => indexC E t (opn x) (opn ix)
  | .extract x i => ⟨fun s _ => extF (asTup ((opn x).g s)) i⟩
  | .load t x => loadC E t (opn x)
  | .call { callee := .builtin .len, args, argTypes } => (match args.toList, argTypes.toList with
    | [x], [t] => lenC E t (opn x)
    | _, _ => ⟨fun _ _ => none⟩)
  | .build t parts => ⟨fun s _ => buildVal E t (parts.toList.map fun (i, x) => (i, evF s x))⟩
  | .slice t x lo hi mx => ⟨fun s _ => (optNat (evF s) lo).bind fun l => (optNat (evF s) hi).bind fun h => (optNat (evF s) mx).bind fun k => sliceOp E t ((opn x).g s) l h k⟩
  | op => ⟨fun s m => lightV E m (evF s) op⟩

/-! ### Operations of all kinds -/
noncomputable def fin (dc : DC) (r : Option AVal) (k : KT) (s : Slots) (m : Mem) : XR :=
  @Option.rec AVal (fun _ => DC → KT → Slots → Mem → XR) (fun _ _ _ _ => .stuck) (fun v dc k s m => dc.d v k s m) r dc k s m
noncomputable def forceN (n : Nat) (k : Nat → XR) : XR := @Nat.rec (fun _ => (Nat → XR) → XR) (fun k => k 0) (fun n _ k => k (Nat.succ n)) n k
noncomputable def mkAt (id : Nat) (mk : NewV) : AVal := @NewV.rec (fun _ => Nat → AVal) (fun ext id => .ptr id ext 0) (fun ext n lo sz id => .ref id ext 0 n lo true sz) mk id
noncomputable def newF (blk : Block) (mk : NewV) (dc : DC) (k : KT) (s : Slots) (m : Mem) : XR :=
  @Mem.rec (fun _ => Block → NewV → DC → KT → Slots → XR) (fun bl nx blk mk dc k s => @Bool.rec (fun _ => XR) (.stuck) (forceN nx (fun id => dc.d (mkAt id mk) k s ⟨(hp id).p bl (some blk), Nat.succ id⟩)) (Nat.blt nx 65536)) m blk mk dc k s
noncomputable def boxF (t : TypeId) (o : Option (List AVal)) (dc : DC) (k : KT) (s : Slots) (m : Mem) : XR :=
  @Option.rec (List AVal) (fun _ => TypeId → DC → KT → Slots → Mem → XR) (fun _ _ _ _ _ => .stuck) (fun cs t dc k s m => newF ⟨t, cs, 0⟩ (.ptr (lenF cs)) dc k s m) o t dc k s m
def newOf (E : Env) (m : Mem) (ρ : Operand → AVal) (op : Op) : Option (Block × NewV) :=
  match light E m ρ op with
  | some (.new blk mk) => some (blk, mk)
  | _ => none
noncomputable def newG (r : Option (Block × NewV)) (dc : DC) (k : KT) (s : Slots) (m : Mem) : XR :=
  match r with
  | some (blk, mk) => newF blk mk dc k s m
  | none => .stuck
noncomputable def wrF (o : Option Block) (b ext off size : Nat) (cs : List AVal) (dc : DC) (k : KT) (s : Slots) (m : Mem) : XR :=
  @Option.rec Block (fun _ => Nat → Nat → Nat → Nat → List AVal → DC → KT → Slots → Mem → XR) (fun _ _ _ _ _ _ _ _ _ => .stuck)
    (fun blk b ext off size cs dc k s m => @Block.rec (fun _ => Nat → Nat → Nat → Nat → List AVal → DC → KT → Slots → Mem → XR)
      (fun ty cells fz b ext off size cs dc k s m => @Bool.rec (fun _ => XR) (.stuck) (@Bool.rec (fun _ => XR) (.stuck) (@Bool.rec (fun _ => XR) (.stuck) (@Bool.rec (fun _ => XR) (.stuck) (dc.d (.tup []) k s (mupd m b ⟨ty, lputF cells off cs, fz⟩)) (Nat.ble (Nat.add off size) ext)) (Nat.ble fz off)) (Nat.beq (lenF cells) ext)) (Nat.beq (lenF cs) size)) blk b ext off size cs dc k s m) o b ext off size cs dc k s m
noncomputable def storeF (size : Nat) (a : AVal) (o : Option (List AVal)) (dc : DC) (k : KT) (s : Slots) (m : Mem) : XR :=
  @Option.rec (List AVal) (fun _ => Nat → AVal → DC → KT → Slots → Mem → XR) (fun _ _ _ _ _ _ => .stuck)
    (fun cs size a dc k s m => @PV.rec (fun _ => Nat → List AVal → DC → KT → Slots → Mem → XR) (fun _ _ _ _ _ _ => .stuck) (fun b ext off size cs dc k s m => wrF (mget m b) b ext off size cs dc k s m) (fun _ _ _ _ _ _ _ => .stuck) (asPtr a) size cs dc k s m) o size a dc k s m
noncomputable def callF1 (r : CR) (dc : DC) (k : KT) (s : Slots) : XR :=
  @CR.rec (fun _ => DC → KT → Slots → XR) (fun _ _ _ => .stuck) (fun v m dc k s => dc.d v k s m) r dc k s
noncomputable def heavyG (r : Option (AVal × Mem)) (dc : DC) (k : KT) (s : Slots) : XR :=
  match r with
  | some (v, m) => dc.d v k s m
  | none => .stuck
noncomputable def callG (v : AVal) (args : List AVal) (cf : CF) (dc : DC) (k : KT) (s : Slots) (m : Mem) : XR :=
  match v with
  | .fn g first captured => callF1 (cf g (first ++ args ++ captured) m) dc k s
  | _ => .stuck

noncomputable def heavyC (E : Env) (op : Op) (dc : DC) : OC :=
  match op with
  | .store t a v => (match E.ty.get t with
    | some vt => ⟨fun _ k s m => storeF vt.size ((opn a).g s) (cellsF ((opn v).g s)) dc k s m⟩
    | none => ⟨fun _ _ _ _ => .stuck⟩)
  | .call { callee := .value (.func g), args, .. } => ⟨fun cf k s m => callF1 (cf g ((argsC args.toList).a s) m) dc k s⟩
  | .call { callee := .value x, args, .. } => ⟨fun cf k s m => callG ((opn x).g s) ((argsC args.toList).a s) cf dc k s m⟩
  | op => ⟨fun _ k s m => heavyG (heavy E (fun _ _ _ => none) m (evF s) op) dc k s⟩

noncomputable def lightC (E : Env) (op : Op) (dc : DC) : OC :=
  match op with
  | .alloc t => (match E.ty.get t with
    | some vt => ⟨fun _ k s m => newF ⟨t, vt.zero, 0⟩ (.ptr (lenF vt.zero)) dc k s m⟩
    | none => ⟨fun _ _ _ _ => .stuck⟩)
  | .box t x => ⟨fun _ k s m => boxF t (cellsF ((opn x).g s)) dc k s m⟩
  | .buildSlice .. | .makeSlice .. => ⟨fun _ k s m => newG (newOf E m (evF s) op) dc k s m⟩
  | op => ⟨fun _ k s m => fin dc ((lc E op).l s m) k s m⟩

noncomputable def plainC (E : Env) (nt : Nat) (o : Oper) : OC :=
  bif isHeavy o.op then heavyC E o.op (dst nt o.dst) else match o.op, o.dst with
    | .move x, some d => bif Nat.blt d nt then ⟨fun _ k s m => k ((sp d).p s ((opn x).g s)) m⟩ else ⟨fun _ _ _ _ => .stuck⟩
    | .assign x, some d => bif Nat.blt d nt then ⟨fun _ k s m => k ((sp d).p s ((opn x).g s)) m⟩ else ⟨fun _ _ _ _ => .stuck⟩
    | op, _ => lightC E op (dst nt o.dst)

noncomputable def guardF (v : GV) (want : Bool) (oc : OC) (dc : DC) (cf : CF) (k : KT) (s : Slots) (m : Mem) : XR :=
  @GV.rec (fun _ => Bool → OC → DC → CF → KT → Slots → Mem → XR) (fun _ _ _ _ _ _ _ => .stuck) (fun b want oc dc cf k s m => @Bool.rec (fun _ => XR) (oc.run cf k s m) (dc.d (.tup []) k s m) (xorF b want)) (fun _ _ dc _ k s m => dc.d (.tup []) k s m) v want oc dc cf k s m
noncomputable def opC (E : Env) (nt : Nat) (ops : List Oper) (o : Oper) : OC :=
  match o.guard with
  | none => plainC E nt o
  | some (j, want) => (match ops[j]? with
    | some { dst := some d, .. } => ⟨fun cf k s m => guardF (asGuard ((opn (.tmp d)).g s)) want (plainC E nt o) (dst nt o.dst) cf k s m⟩
    | _ => ⟨fun _ _ _ _ => .stuck⟩)

noncomputable def seqC (E : Env) (nt : Nat) (ops l : List Oper) : OC :=
  match l with
  | [] => ⟨fun _ k s m => k s m⟩
  | o :: l => ⟨fun cf k s m => (opC E nt ops o).run cf ((seqC E nt ops l).run cf k) s m⟩

noncomputable def chkF (r : Option AVal) (v : AVal) (k : KT) (s : Slots) (m : Mem) : XR :=
  match r with
  | some u => bif AVal.same u v then k s m else .stuck
  | none => .stuck
noncomputable def chkG (g : GV) (want : Bool) (r : Option AVal) (v : AVal) (k : KT) (s : Slots) (m : Mem) : XR :=
  match g with
  | .bool b => bif xorF b want then k s m else chkF r v k s m
  | .tup => k s m
  | .no => .stuck
noncomputable def planC (E : Env) (nt : Nat) (ops : List Oper) (l : List RStep) : OC :=
  match l with
  | [] => ⟨fun _ k s m => k s m⟩
  | .run j :: l => (match ops[j]? with
    | some o => ⟨fun cf k s m => (opC E nt ops o).run cf ((planC E nt ops l).run cf k) s m⟩
    | none => ⟨fun _ _ _ _ => .stuck⟩)
  | .chk j :: l => (match ops[j]? with
    | some o => (match o.dst with
      | some d => (match o.guard with
        | none => ⟨fun cf k s m => chkF ((lc E o.op).l s m) ((opn (.tmp d)).g s) ((planC E nt ops l).run cf k) s m⟩
        | some (i, want) => (match ops[i]? with
          | some { dst := some e, .. } => ⟨fun cf k s m => chkG (asGuard ((opn (.tmp e)).g s)) want ((lc E o.op).l s m) ((opn (.tmp d)).g s) ((planC E nt ops l).run cf k) s m⟩
          | _ => ⟨fun _ _ _ _ => .stuck⟩))
      | none => ⟨fun _ _ _ _ => .stuck⟩)
    | none => ⟨fun _ _ _ _ => .stuck⟩)

/-! ### Code -/
def kdone : KT := fun s m => .done .normal s m
noncomputable def condF (o : Option Bool) (a b : OC) (cf : CF) (k : KT) (s : Slots) (m : Mem) : XR :=
  @Option.rec Bool (fun _ => OC → OC → CF → KT → Slots → Mem → XR) (fun _ _ _ _ _ _ => .stuck) (fun t a b cf k s m => @Bool.rec (fun _ => OC → OC → CF → KT → Slots → Mem → XR) (fun _ b cf k s m => b.run cf k s m) (fun a _ cf k s m => a.run cf k s m) t a b cf k s m) o a b cf k s m
noncomputable def blockF (id : Nat) (k : KT) (r : XR) : XR :=
  @XR.rec (fun _ => Nat → KT → XR) (fun _ _ => .stuck)
    (fun ex s m id k => @Ex.rec (fun _ => Slots → Mem → Nat → KT → XR) (fun s m _ k => k s m) (fun i s m id k => @Bool.rec (fun _ => XR) (.done (.exit i) s m) (k s m) (Nat.beq i id)) (fun s m _ _ => .done .ret s m) ex s m id k) r id k
noncomputable def loopF (n : Nat) (body : OC) (cf : CF) (s : Slots) (m : Mem) : XR :=
  @Nat.rec (fun _ => OC → CF → Slots → Mem → XR) (fun _ _ _ _ => .stuck)
    (fun _ ih body cf s m => @XR.rec (fun _ => OC → CF → (OC → CF → Slots → Mem → XR) → XR) (fun _ _ _ => .stuck)
      (fun ex s m body cf ih => @Ex.rec (fun _ => OC → CF → (OC → CF → Slots → Mem → XR) → Slots → Mem → XR) (fun body cf ih s m => ih body cf s m) (fun i _ _ _ s m => .done (.exit i) s m) (fun _ _ _ s m => .done .ret s m) ex body cf ih s m) (body.run cf kdone s m) body cf ih) n body cf s m

noncomputable def cc (E : Env) (f : FuncId) (nt : Nat) (c : Code) : OC :=
  match c with
  | .skip => ⟨fun _ k s m => k s m⟩
  | .ret => ⟨fun _ _ s m => .done .ret s m⟩
  | .exit id => ⟨fun _ _ s m => .done (.exit id) s m⟩
  | .seq a b => ⟨fun cf k s m => (cc E f nt a).run cf ((cc E f nt b).run cf k) s m⟩
  | .cond x a b => ⟨fun cf k s m => condF (asBool ((opn x).g s)) (cc E f nt a) (cc E f nt b) cf k s m⟩
  | .block id body => ⟨fun cf k s m => blockF id k ((cc E f nt body).run cf kdone s m)⟩
  | .loop body => ⟨fun cf _ s m => loopF 1000000 (cc E f nt body) cf s m⟩
  | .region _ ops false => seqC E nt ops.toList ops.toList
  | .region id ops true => (match E.plans.get (planKey f id) with
    | some plan => planC E nt ops.toList plan
    | none => ⟨fun _ _ _ _ => .stuck⟩)
  | _ => ⟨fun _ _ _ _ => .stuck⟩

noncomputable def argsF (l : List AVal) (i : Nat) (t : Slots) : Slots :=
  @List.rec AVal (fun _ => Nat → Slots → Slots) (fun _ t => t) (fun v _ ih i t => ih (Nat.succ i) ((sp i).p t v)) l i t

structure RC where
  r : Slots → Mem → CR
def resG (o : Option (List AVal)) (m : Mem) : CR := match o with
  | some vs => .ok (oneOr vs) m
  | none => .stuck
/-- The results' slots, if all are slots. -/
def resTmps : List ResultVar → Option (List Operand)
  | [] => some []
  | .tmp t :: l => (resTmps l).map (.tmp t :: ·)
  | .cell .. :: _ => none
noncomputable def resG1 (o : Option AVal) (m : Mem) : CR := @Option.rec AVal (fun _ => Mem → CR) (fun _ => .stuck) (fun v m => .ok v m) o m
noncomputable def resC (E : Env) (f nt : Nat) (l : List ResultVar) : RC :=
  match l with
  | [.tmp t] => ⟨fun s m => .ok ((opn (.tmp t)).g s) m⟩
  | [.cell a t] => (match (loadC E t (opn (.tmp a))) with
    | lc => ⟨fun s m => resG1 (lc.l s m) m⟩)
  | l => match resTmps l with
    | some xs => ⟨fun s m => .ok (oneOr ((argsC xs).a s)) m⟩
    | none => ⟨fun s m => resG (resultVals E ⟨f, nt, s, m⟩ l) m⟩
noncomputable def finC (rc : RC) (r : XR) : CR :=
  @XR.rec (fun _ => RC → CR) (fun _ => .stuck) (fun ex s m rc => @Ex.rec (fun _ => RC → Slots → Mem → CR) (fun rc s m => rc.r s m) (fun _ _ _ _ => .stuck) (fun rc s m => rc.r s m) ex rc s m) r rc
structure FC where
  run : CF → List AVal → Mem → CR
noncomputable def fnC (E : Env) (f : FuncId) : FC :=
  match E.fns.get f with
  | none => ⟨fun _ _ _ => .stuck⟩
  | some fn => match fn.body with
    | none => ⟨fun _ _ _ => .stuck⟩
    | some c => bif Nat.ble fn.ntmps 256 then ⟨fun cf args m => @Bool.rec (fun _ => CR) (.stuck) (finC (resC E f fn.ntmps fn.results.toList) ((cc E f fn.ntmps c).run cf kdone (argsF args 0 Slots.nil) m)) (Nat.ble (lenF args) fn.ntmps)⟩ else ⟨fun _ _ _ => .stuck⟩
noncomputable def orcF (o : Option AVal) (fc : FC) (cf : CF) (args : List AVal) (m : Mem) : CR :=
  @Option.rec AVal (fun _ => FC → CF → List AVal → Mem → CR) (fun fc cf args m => fc.run cf args m) (fun v _ _ _ m => .ok v m) o fc cf args m
noncomputable def fcall (E : Env) (n : Nat) : CF := fun f args m =>
  @Nat.rec (fun _ => CF) (fun _ _ _ => .stuck) (fun _ ih f args m => orcF (E.orc f args) (fnC E f) ih args m) n f args m
end Go.V

