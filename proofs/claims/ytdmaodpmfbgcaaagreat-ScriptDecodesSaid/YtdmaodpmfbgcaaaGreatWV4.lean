import Derived.Test.YtdmaodpmfbgcaaaGreatWV3
import Derived.IntWalk
import Derived.Laws.BitsAllLaws

section
/-
  The abstract machine once more, made for the kernel: each operation of the text becomes a closure once, and is then only applied. Definitions only. Printed in part by a program.
-/
namespace Go.V

inductive XR where
  | stuck
  | done (ex : Ex) (s : Slots) (m : Mem)
inductive CR where
  | stuck
  | ok (v : AVal) (m : Mem)
abbrev CF := FuncId → List AVal → Mem → CR
abbrev KT := Slots → Mem → XR
structure OC where
  run : CF → KT → Slots → Mem → XR
structure LC where
  l : Slots → Mem → Option AVal
structure DC where
  d : AVal → KT → Slots → Mem → XR
structure AC where
  a : Slots → List AVal
structure PK (β α : Type) where
  p : α → β → α
structure GK (β α : Type) where
  g : α → β

inductive IV where
  | no
  | yes (k : IntKind) (n : Int)
inductive GV where
  | no
  | bool (b : Bool)
  | tup
inductive PV where
  | no
  | ptr (b ext off : Nat)
  | iptr (cells : List AVal)
inductive RV where
  | no
  | nil
  | ref (b ext off n lo : Nat) (exact : Bool) (sz : Nat)
  | imm (cells : List AVal) (n : Nat)

noncomputable def asInt (v : AVal) : IV :=
  @AVal.rec (fun _ => IV) (fun _ => IV) (IV.no) (fun _ => IV.no) (fun k n => IV.yes k n) (fun _ => IV.no) (IV.no) (fun _ _ _ => IV.no) (fun _ _ => IV.no) (fun _ => IV.no) (fun _ _ _ _ _ _ _ => IV.no) (fun _ _ _ => IV.no) (IV.no) (fun _ _ _ _ _ => IV.no) (fun _ _ => IV.no) (fun _ _ => IV.no) (fun _ => IV.no) (IV.no) (fun _ => IV.no) (IV.no) (fun _ _ _ _ => IV.no) v

noncomputable def asBool (v : AVal) : Option Bool :=
  @AVal.rec (fun _ => Option Bool) (fun _ => Option Bool) (none) (fun b => some b) (fun _ _ => none) (fun _ => none) (none) (fun _ _ _ => none) (fun _ _ => none) (fun _ => none) (fun _ _ _ _ _ _ _ => none) (fun _ _ _ => none) (none) (fun _ _ _ _ _ => none) (fun _ _ => none) (fun _ _ => none) (fun _ => none) (none) (fun _ => none) (none) (fun _ _ _ _ => none) v

noncomputable def asStr (v : AVal) : Option ByteArray :=
  @AVal.rec (fun _ => Option ByteArray) (fun _ => Option ByteArray) (none) (fun _ => none) (fun _ _ => none) (fun s => some s) (none) (fun _ _ _ => none) (fun _ _ => none) (fun _ => none) (fun _ _ _ _ _ _ _ => none) (fun _ _ _ => none) (none) (fun _ _ _ _ _ => none) (fun _ _ => none) (fun _ _ => none) (fun _ => none) (none) (fun _ => none) (none) (fun _ _ _ _ => none) v

noncomputable def asGuard (v : AVal) : GV :=
  @AVal.rec (fun _ => GV) (fun _ => GV) (GV.no) (fun b => GV.bool b) (fun _ _ => GV.no) (fun _ => GV.no) (GV.no) (fun _ _ _ => GV.no) (fun _ _ => GV.no) (fun _ => GV.no) (fun _ _ _ _ _ _ _ => GV.no) (fun _ _ _ => GV.no) (GV.no) (fun _ _ _ _ _ => GV.no) (fun _ _ => GV.no) (fun _ _ => GV.tup) (fun _ => GV.no) (GV.no) (fun _ => GV.no) (GV.no) (fun _ _ _ _ => GV.no) v

noncomputable def asPtr (v : AVal) : PV :=
  @AVal.rec (fun _ => PV) (fun _ => PV) (PV.no) (fun _ => PV.no) (fun _ _ => PV.no) (fun _ => PV.no) (PV.no) (fun b ext off => PV.ptr b ext off) (fun cells _ => PV.iptr cells) (fun _ => PV.no) (fun _ _ _ _ _ _ _ => PV.no) (fun _ _ _ => PV.no) (PV.no) (fun _ _ _ _ _ => PV.no) (fun _ _ => PV.no) (fun _ _ => PV.no) (fun _ => PV.no) (PV.no) (fun _ => PV.no) (PV.no) (fun _ _ _ _ => PV.no) v

noncomputable def asRef (v : AVal) : RV :=
  @AVal.rec (fun _ => RV) (fun _ => RV) (RV.no) (fun _ => RV.no) (fun _ _ => RV.no) (fun _ => RV.no) (RV.no) (fun _ _ _ => RV.no) (fun _ _ => RV.no) (fun _ => RV.nil) (fun b ext off n lo exact sz => RV.ref b ext off n lo exact sz) (fun cells n _ => RV.imm cells n) (RV.no) (fun _ _ _ _ _ => RV.no) (fun _ _ => RV.no) (fun _ _ => RV.no) (fun _ => RV.no) (RV.no) (fun _ => RV.no) (RV.no) (fun _ _ _ _ => RV.no) v

noncomputable def asAgg (v : AVal) : Option (List AVal) :=
  @AVal.rec (fun _ => Option (List AVal)) (fun _ => Option (List AVal)) (none) (fun _ => none) (fun _ _ => none) (fun _ => none) (none) (fun _ _ _ => none) (fun _ _ => none) (fun _ => none) (fun _ _ _ _ _ _ _ => none) (fun _ _ _ => none) (none) (fun _ _ _ _ _ => none) (fun cs _ => some cs) (fun _ _ => none) (fun _ => none) (none) (fun _ => none) (none) (fun _ _ _ _ => none) v

noncomputable def asTup (v : AVal) : Option (List AVal) :=
  @AVal.rec (fun _ => Option (List AVal)) (fun _ => Option (List AVal)) (none) (fun _ => none) (fun _ _ => none) (fun _ => none) (none) (fun _ _ _ => none) (fun _ _ => none) (fun _ => none) (fun _ _ _ _ _ _ _ => none) (fun _ _ _ => none) (none) (fun _ _ _ _ _ => none) (fun _ _ => none) (fun vs _ => some vs) (fun _ => none) (none) (fun _ => none) (none) (fun _ _ _ _ => none) v

noncomputable def notNil (v : AVal) : Bool :=
  @AVal.rec (fun _ => Bool) (fun _ => Bool) (false) (fun _ => false) (fun _ _ => false) (fun _ => false) (false) (fun _ _ _ => true) (fun _ _ => true) (fun _ => false) (fun _ _ _ _ _ _ _ => false) (fun _ _ _ => false) (false) (fun _ _ _ _ _ => true) (fun _ _ => false) (fun _ _ => false) (fun _ => false) (false) (fun _ => false) (false) (fun _ _ _ _ => false) v

noncomputable def cellsF (v : AVal) : Option (List AVal) :=
  @AVal.rec (fun _ => Option (List AVal)) (fun _ => Option (List AVal)) (none) (fun b => some [AVal.bool b]) (fun k n => some [AVal.int k n]) (fun s => some [AVal.str s]) (some [AVal.nilp]) (fun b ext off => some [AVal.ptr b ext off]) (fun cells _ => some [AVal.iptr cells]) (fun s => some [AVal.nil s]) (fun b ext off n lo exact sz => some [AVal.ref b ext off n lo exact sz]) (fun cells n _ => some [AVal.imm cells n]) (some [AVal.nilf]) (fun f xs ys _ _ => some [AVal.fn f xs ys]) (fun cs _ => some cs) (fun _ _ => none) (fun k => some [AVal.opq k]) (some [AVal.one]) (fun b => some [AVal.chan b]) (none) (fun _ _ _ _ => none) v

/-! ### Trees -/
section
variable {α β : Type}
noncomputable def uA (f : α → β → α) : Q4 α → β → Q4 α := fun s v => @Q4.rec α (fun _ => (α → β → α) → β → Q4 α) (fun a b c d f v => ⟨f a v, b, c, d⟩) s f v
noncomputable def uB (f : α → β → α) : Q4 α → β → Q4 α := fun s v => @Q4.rec α (fun _ => (α → β → α) → β → Q4 α) (fun a b c d f v => ⟨a, f b v, c, d⟩) s f v
noncomputable def uC (f : α → β → α) : Q4 α → β → Q4 α := fun s v => @Q4.rec α (fun _ => (α → β → α) → β → Q4 α) (fun a b c d f v => ⟨a, b, f c v, d⟩) s f v
noncomputable def uD (f : α → β → α) : Q4 α → β → Q4 α := fun s v => @Q4.rec α (fun _ => (α → β → α) → β → Q4 α) (fun a b c d f v => ⟨a, b, c, f d v⟩) s f v
end

noncomputable def pacc (β : Type) (k : Nat) : Nat → PK β (Lv β k) :=
  @Nat.rec (fun k => Nat → PK β (Lv β k)) (fun _ => ⟨fun _ v => v⟩)
    (fun k ih n => @Nat.rec (fun _ => PK β (Lv β (k + 1))) ⟨uA (α := Lv β k) (ih (Nat.div n 4)).p⟩
      (fun i _ => @Nat.rec (fun _ => PK β (Lv β (k + 1))) ⟨uB (α := Lv β k) (ih (Nat.div n 4)).p⟩
        (fun i _ => @Nat.rec (fun _ => PK β (Lv β (k + 1))) ⟨uC (α := Lv β k) (ih (Nat.div n 4)).p⟩ (fun _ _ => ⟨uD (α := Lv β k) (ih (Nat.div n 4)).p⟩) i) i) (Nat.mod n 4)) k

noncomputable def gacc (β : Type) (k : Nat) : Nat → GK β (Lv β k) :=
  @Nat.rec (fun k => Nat → GK β (Lv β k)) (fun _ => ⟨fun x => x⟩)
    (fun k ih n => @Nat.rec (fun _ => GK β (Lv β (k + 1))) ⟨fun x => (ih (Nat.div n 4)).g (Q4.a (α := Lv β k) x)⟩
      (fun i _ => @Nat.rec (fun _ => GK β (Lv β (k + 1))) ⟨fun x => (ih (Nat.div n 4)).g (Q4.b (α := Lv β k) x)⟩
        (fun i _ => @Nat.rec (fun _ => GK β (Lv β (k + 1))) ⟨fun x => (ih (Nat.div n 4)).g (Q4.c (α := Lv β k) x)⟩ (fun _ _ => ⟨fun x => (ih (Nat.div n 4)).g (Q4.d (α := Lv β k) x)⟩) i) i) (Nat.mod n 4)) k

/-! Memory: 256 blocks to a leaf -/
section
variable {β α L : Type}
noncomputable def vA (g : (L → β → L) → α → β → α) : (L → β → L) → Q4 α → β → Q4 α := fun f s v => @Q4.rec α (fun _ => ((L → β → L) → α → β → α) → (L → β → L) → β → Q4 α) (fun a b c d g f v => ⟨g f a v, b, c, d⟩) s g f v
noncomputable def vB (g : (L → β → L) → α → β → α) : (L → β → L) → Q4 α → β → Q4 α := fun f s v => @Q4.rec α (fun _ => ((L → β → L) → α → β → α) → (L → β → L) → β → Q4 α) (fun a b c d g f v => ⟨a, g f b v, c, d⟩) s g f v
noncomputable def vC (g : (L → β → L) → α → β → α) : (L → β → L) → Q4 α → β → Q4 α := fun f s v => @Q4.rec α (fun _ => ((L → β → L) → α → β → α) → (L → β → L) → β → Q4 α) (fun a b c d g f v => ⟨a, b, g f c v, d⟩) s g f v
noncomputable def vD (g : (L → β → L) → α → β → α) : (L → β → L) → Q4 α → β → Q4 α := fun f s v => @Q4.rec α (fun _ => ((L → β → L) → α → β → α) → (L → β → L) → β → Q4 α) (fun a b c d g f v => ⟨a, b, c, g f d v⟩) s g f v
end
structure UK (L β α : Type) where
  u : (L → β → L) → α → β → α
noncomputable def uacc (L β : Type) (k : Nat) : Nat → UK L β (Lv L k) :=
  @Nat.rec (fun k => Nat → UK L β (Lv L k)) (fun _ => ⟨fun f x v => f x v⟩)
    (fun k ih n => @Nat.rec (fun _ => UK L β (Lv L (k + 1))) ⟨vA (α := Lv L k) (ih (Nat.div n 4)).u⟩
      (fun i _ => @Nat.rec (fun _ => UK L β (Lv L (k + 1))) ⟨vB (α := Lv L k) (ih (Nat.div n 4)).u⟩
        (fun i _ => @Nat.rec (fun _ => UK L β (Lv L (k + 1))) ⟨vC (α := Lv L k) (ih (Nat.div n 4)).u⟩ (fun _ _ => ⟨vD (α := Lv L k) (ih (Nat.div n 4)).u⟩) i) i) (Nat.mod n 4)) k
/-- A number is reckoned, and handed on. -/
noncomputable def forceG {γ : Type} (n : Nat) (k : Nat → γ) : γ := @Nat.rec (fun _ => (Nat → γ) → γ) (fun k => k 0) (fun n _ k => k (Nat.succ n)) n k
noncomputable def hkM (q r : Nat) : GK (Option Cel) Hp := ⟨fun x => (gacc (Option Cel) 4 r).g ((gacc Hp4 6 q).g x)⟩
noncomputable def hpM (q r : Nat) : PK (Option Cel) Hp := ⟨fun x v => (uacc Hp4 (Option Cel) 6 q).u (pacc (Option Cel) 4 r).p x v⟩
noncomputable def hk (b : Nat) : GK (Option Cel) Hp := bif Nat.blt b 1048576 then forceG (Nat.mod b 256) (fun r => forceG (Nat.div b 256) (fun q => hkM q r)) else ⟨fun _ => none⟩
noncomputable def hp (b : Nat) : PK (Option Cel) Hp := forceG (Nat.mod b 256) (fun r => forceG (Nat.div b 256) (fun q => hpM q r))
noncomputable def sp (d : Nat) : SC := (ptab[d]?).getD ⟨fun s _ => s⟩
noncomputable def asBlk (c : Option Cel) : Option Block := @Option.rec Cel (fun _ => Option Block) none (fun c => @Cel.rec (fun _ => Option Block) (fun B => some B) (fun _ _ => none) c) c
noncomputable def mget (m : Mem) (b : Nat) : Option Block := asBlk ((hk b).g m.blocks)
noncomputable def mupd (m : Mem) (b : Nat) (blk : Block) : Mem := @Mem.rec (fun _ => Nat → Block → Mem) (fun bl nx b blk => ⟨(hp b).p bl (some (.blk blk)), nx⟩) m b blk

/-! ### Lists -/
noncomputable def lenF (l : List AVal) : Nat := @List.rec AVal (fun _ => Nat) 0 (fun _ _ ih => Nat.succ ih) l
noncomputable def nthF (l : List AVal) (i : Nat) : Option AVal :=
  @List.rec AVal (fun _ => Nat → Option AVal) (fun _ => none) (fun c _ ih i => @Nat.rec (fun _ => AVal → (Nat → Option AVal) → Option AVal) (fun c _ => some c) (fun i _ _ ih => ih i) i c ih) l i
noncomputable def tailF (l : List AVal) : List AVal := @List.rec AVal (fun _ => List AVal) [] (fun _ t _ => t) l
noncomputable def dropF (n : Nat) (l : List AVal) : List AVal := @Nat.rec (fun _ => List AVal → List AVal) (fun l => l) (fun _ ih l => ih (tailF l)) n l
noncomputable def takeF (n : Nat) (l : List AVal) : List AVal :=
  @Nat.rec (fun _ => List AVal → List AVal) (fun _ => []) (fun _ ih l => @List.rec AVal (fun _ => (List AVal → List AVal) → List AVal) (fun _ => []) (fun h t _ ih => h :: ih t) l ih) n l
noncomputable def lputF (l : List AVal) (off : Nat) (vs : List AVal) : List AVal :=
  @List.rec AVal (fun _ => Nat → List AVal → List AVal) (fun _ _ => [])
    (fun c t ih off vs => @List.rec AVal (fun _ => AVal → List AVal → (Nat → List AVal → List AVal) → Nat → List AVal) (fun c t _ _ => c :: t)
      (fun v vs _ c _ ih off => @Nat.rec (fun _ => AVal → List AVal → AVal → (Nat → List AVal → List AVal) → List AVal) (fun v vs _ ih => v :: ih 0 vs) (fun n _ v vs c ih => c :: ih n (v :: vs)) off v vs c ih) vs c t ih off) l off vs

/-! ### Numbers -/
noncomputable def xorF (a b : Bool) : Bool := @Bool.rec (fun _ => Bool → Bool) (fun b => b) (fun b => @Bool.rec (fun _ => Bool) true false b) a b
noncomputable def notB (b : Bool) : Bool := @Bool.rec (fun _ => Bool) true false b
noncomputable def kidx (k : IntKind) : Nat := @IntKind.rec (fun _ => Nat) 0 1 2 3 4 5 6 7 k
noncomputable def kmax (k : IntKind) : Nat := @IntKind.rec (fun _ => Nat) 127 32767 2147483647 9223372036854775807 255 65535 4294967295 18446744073709551615 k
noncomputable def kmin (k : IntKind) : Nat := @IntKind.rec (fun _ => Nat) 128 32768 2147483648 9223372036854775808 0 0 0 0 k
noncomputable def unsg (k : IntKind) : Bool := @IntKind.rec (fun _ => Bool) false false false false true true true true k
noncomputable def kbits (k : IntKind) : Nat := @IntKind.rec (fun _ => Nat) 8 16 32 64 8 16 32 64 k
noncomputable def wrapF (k : IntKind) (n : Int) : Int :=
  @Int.rec (fun _ => IntKind → Int) (fun a k => @Bool.rec (fun _ => Int) (@Bool.rec (fun _ => Int) (k.wrap (.ofNat a)) (.ofNat (Nat.mod a (Nat.succ (kmax k)))) (unsg k)) (.ofNat a) (Nat.ble a (kmax k))) (fun a k => @Bool.rec (fun _ => Int) (k.wrap (.negSucc a)) (.negSucc a) (Nat.blt a (kmin k))) n k
noncomputable def minF (a b : Nat) : Nat := @Bool.rec (fun _ => Nat) (b) (a) (Nat.ble a b)
noncomputable def addF (x y : Int) : Int :=
  @Int.rec (fun _ => Int → Int) (fun a y => @Int.rec (fun _ => Nat → Int) (fun b a => .ofNat (Nat.add a b)) (fun b a => Int.add (.ofNat a) (.negSucc b)) y a) (fun a y => Int.add (.negSucc a) y) x y
noncomputable def subF (x y : Int) : Int :=
  @Int.rec (fun _ => Int → Int) (fun a y => @Int.rec (fun _ => Nat → Int) (fun b a => @Bool.rec (fun _ => Int) (.negSucc (Nat.pred (Nat.sub b a))) (.ofNat (Nat.sub a b)) (Nat.ble b a)) (fun b a => Int.sub (.ofNat a) (.negSucc b)) y a) (fun a y => Int.sub (.negSucc a) y) x y
noncomputable def ltF (x y : Int) : Bool :=
  @Int.rec (fun _ => Int → Bool) (fun a y => @Int.rec (fun _ => Nat → Bool) (fun b a => Nat.blt a b) (fun _ _ => false) y a) (fun a y => @Int.rec (fun _ => Nat → Bool) (fun _ _ => true) (fun b a => Nat.blt b a) y a) x y
noncomputable def eqF (x y : Int) : Bool :=
  @Int.rec (fun _ => Int → Bool) (fun a y => @Int.rec (fun _ => Nat → Bool) (fun b a => Nat.beq a b) (fun _ _ => false) y a) (fun a y => @Int.rec (fun _ => Nat → Bool) (fun _ _ => false) (fun b a => Nat.beq a b) y a) x y

/-- Two numbers of one kind. -/
noncomputable def two (f : IntKind → Int → Int → AVal) (a b : AVal) : Option AVal :=
  @IV.rec (fun _ => (IntKind → Int → Int → AVal) → AVal → Option AVal) (fun _ _ => none)
    (fun k n f b => @IV.rec (fun _ => (IntKind → Int → Int → AVal) → IntKind → Int → Option AVal) (fun _ _ _ => none) (fun l y f k n => @Bool.rec (fun _ => Option AVal) (none) (some (f k n y)) (Nat.beq (kidx k) (kidx l))) (asInt b) f k n) (asInt a) f b
/-- Two numbers of one kind, neither below 0 nor above what the kind has; none else. -/
noncomputable def twoN (f : IntKind → Nat → Nat → AVal) (a b : AVal) : Option AVal :=
  @IV.rec (fun _ => (IntKind → Nat → Nat → AVal) → AVal → Option AVal) (fun _ _ => none)
    (fun k n f b => @IV.rec (fun _ => (IntKind → Nat → Nat → AVal) → IntKind → Int → Option AVal) (fun _ _ _ => none)
      (fun l y f k n => @Bool.rec (fun _ => Option AVal) (none) (@Int.rec (fun _ => Int → (IntKind → Nat → Nat → AVal) → IntKind → Option AVal)
        (fun n y f k => @Int.rec (fun _ => Nat → (IntKind → Nat → Nat → AVal) → IntKind → Option AVal) (fun y n f k => @Bool.rec (fun _ => Option AVal) (none) (some (f k n y)) (and (Nat.ble n (kmax k)) (Nat.ble y (kmax k)))) (fun _ _ _ _ => none) y n f k) (fun _ _ _ _ => none) n y f k) (Nat.beq (kidx k) (kidx l))) (asInt b) f k n) (asInt a) f b
/-- Two numbers not below 0, of whatever kinds. -/
noncomputable def twoS (f : IntKind → Nat → Nat → AVal) (a b : AVal) : Option AVal :=
  @IV.rec (fun _ => (IntKind → Nat → Nat → AVal) → AVal → Option AVal) (fun _ _ => none)
    (fun k n f b => @IV.rec (fun _ => (IntKind → Nat → Nat → AVal) → IntKind → Int → Option AVal) (fun _ _ _ => none)
      (fun _ y f k n => @Int.rec (fun _ => Int → (IntKind → Nat → Nat → AVal) → IntKind → Option AVal)
        (fun n y f k => @Int.rec (fun _ => Nat → (IntKind → Nat → Nat → AVal) → IntKind → Option AVal) (fun y n f k => some (f k n y)) (fun _ _ _ _ => none) y n f k) (fun _ _ _ _ => none) n y f k) (asInt b) f k n) (asInt a) f b
/-- Two texts. -/
noncomputable def bytesEq (x y : List UInt8) : Bool :=
  @List.rec UInt8 (fun _ => List UInt8 → Bool) (fun y => @List.rec UInt8 (fun _ => Bool) true (fun _ _ _ => false) y)
    (fun a _ ih y => @List.rec UInt8 (fun _ => UInt8 → (List UInt8 → Bool) → Bool) (fun _ _ => false) (fun b y _ a ih => @Bool.rec (fun _ => Bool) (false) (ih y) (Nat.beq a.toNat b.toNat)) y a ih) x y
noncomputable def natF (v : AVal) : Option Nat :=
  @IV.rec (fun _ => Option Nat) none (fun _ n => @Int.rec (fun _ => Option Nat) (fun a => some a) (fun _ => none) n) (asInt v)
noncomputable def orElse1 (r : Option AVal) (f : Unit → Option AVal) : Option AVal := @Option.rec AVal (fun _ => (Unit → Option AVal) → Option AVal) (fun f => f ()) (fun v _ => some v) r f

/-! ### Operands, and where a result goes -/
noncomputable def constC (v : AVal) : GC :=
  match v with
  | .any => ⟨fun _ => .any⟩
  | .bool true => ⟨fun _ => .bool true⟩
  | .bool false => ⟨fun _ => .bool false⟩
  | .int k (.ofNat n) => ⟨fun _ => .int k (.ofNat n)⟩
  | .int k (.negSucc n) => ⟨fun _ => .int k (.negSucc n)⟩
  | .str s => ⟨fun _ => .str s⟩
  | .nilp => ⟨fun _ => .nilp⟩
  | .nil b => ⟨fun _ => .nil b⟩
  | .agg cs => ⟨fun _ => .agg cs⟩
  | v => ⟨fun _ => v⟩
noncomputable def opn (x : Operand) : GC :=
  match x with
  | .tmp t => (gtab[t]?).getD ⟨fun _ => .any⟩
  | .const v => constC (ofConst v)
  | .global _ => ⟨fun _ => .any⟩
  | .func f => ⟨fun _ => .fn f [] []⟩
noncomputable def evF (s : Slots) (x : Operand) : AVal := (opn x).g s
noncomputable def dst (nt : Nat) (d : Option Nat) : DC :=
  match d with
  | none => ⟨fun _ k s m => k s m⟩
  | some d => bif Nat.blt d nt then ⟨fun v k s m => k ((sp d).p s v) m⟩ else ⟨fun _ _ _ _ => .stuck⟩
noncomputable def argsC (l : List Operand) : AC :=
  match l with
  | [] => ⟨fun _ => []⟩
  | x :: l => ⟨fun s => (opn x).g s :: (argsC l).a s⟩

/-! ### Operations that only answer a value -/
noncomputable def ld1b (o : Option Block) (ext off : Nat) : Option AVal :=
  @Option.rec Block (fun _ => Nat → Nat → Option AVal) (fun _ _ => none) (fun blk ext off => @Block.rec (fun _ => Nat → Nat → Option AVal) (fun _ cells _ ext off => @Bool.rec (fun _ => Option AVal) (none) (nthF cells off) (Nat.beq (lenF cells) ext)) blk ext off) o ext off
noncomputable def ld1 (v : AVal) (m : Mem) : Option AVal :=
  @PV.rec (fun _ => Mem → Option AVal) (fun _ => none) (fun b ext off m => ld1b (mget m b) ext off) (fun cells _ => nthF cells 0) (asPtr v) m
noncomputable def ldNb (o : Option Block) (n ext off : Nat) : Option AVal :=
  @Option.rec Block (fun _ => Nat → Nat → Nat → Option AVal) (fun _ _ _ => none)
    (fun blk n ext off => @Block.rec (fun _ => Nat → Nat → Nat → Option AVal) (fun _ cells _ n ext off => bif Nat.beq (lenF cells) ext then (bif Nat.ble (Nat.add off n) ext then some (.agg (takeF n (dropF off cells))) else none) else none) blk n ext off) o n ext off
noncomputable def ldN (n : Nat) (v : AVal) (m : Mem) : Option AVal :=
  @PV.rec (fun _ => Nat → Mem → Option AVal) (fun _ _ => none) (fun b ext off n m => ldNb (mget m b) n ext off) (fun cells n _ => bif Nat.ble n (lenF cells) then some (.agg (takeF n cells)) else none) (asPtr v) n m
noncomputable def loadC (E : Env) (t : TypeId) (x : GC) : LC :=
  match E.ty.get t with
  | some vt => bif vt.d.isAgg then ⟨fun s m => ldN vt.size (x.g s) m⟩ else bif Nat.beq vt.size 1 then ⟨fun s m => ld1 (x.g s) m⟩ else ⟨fun _ _ => none⟩
  | none => ⟨fun _ _ => none⟩
noncomputable def shiftF (v : AVal) (n : Nat) : Option AVal :=
  @PV.rec (fun _ => Nat → Option AVal) (fun _ => none) (fun b ext off n => some (.ptr b ext (Nat.add off n))) (fun cells n => some (.iptr (dropF n cells))) (asPtr v) n
noncomputable def shiftI (v : AVal) (n size : Nat) (o : Option Nat) : Option AVal :=
  @Option.rec Nat (fun _ => AVal → Nat → Nat → Option AVal) (fun _ _ _ => none) (fun i v n size => @Bool.rec (fun _ => Option AVal) (none) (shiftF v (Nat.mul i size)) (Nat.blt i n)) o v n size
noncomputable def sliceI (v : AVal) (size : Nat) (o : Option Nat) : Option AVal :=
  @Option.rec Nat (fun _ => AVal → Nat → Option AVal) (fun _ _ => none)
    (fun i v size => @RV.rec (fun _ => Nat → Nat → Option AVal) (fun _ _ => none) (fun _ _ => none) (fun b ext off n _ _ _ i size => @Bool.rec (fun _ => Option AVal) (none) (some (.ptr b ext (Nat.add off (Nat.mul i size)))) (Nat.blt i n))
      (fun cells n i size => bif Nat.blt i n && Nat.ble (Nat.mul (Nat.succ i) size) (lenF cells) && Nat.blt 0 size then some (.iptr (dropF (Nat.mul i size) cells)) else none) (asRef v) i size) o v size
noncomputable def indexAddrC (E : Env) (t : TypeId) (x ix : GC) : LC :=
  match E.ty.get t with
  | some { d := .slice e, .. } => (match E.ty.get e with
    | some ve => ⟨fun s _ => sliceI (x.g s) ve.size (natF (ix.g s))⟩
    | none => ⟨fun _ _ => none⟩)
  | some { d := .array n e, .. } => (match E.ty.get e with
    | some ve => ⟨fun s _ => shiftI (x.g s) n ve.size (natF (ix.g s))⟩
    | none => ⟨fun _ _ => none⟩)
  | _ => ⟨fun _ _ => none⟩
noncomputable def aggI (v : AVal) (n : Nat) (o : Option Nat) : Option AVal :=
  @Option.rec Nat (fun _ => AVal → Nat → Option AVal) (fun _ _ => none)
    (fun i v n => @Option.rec (List AVal) (fun _ => Nat → Nat → Option AVal) (fun _ _ => none) (fun cs i n => @Bool.rec (fun _ => Option AVal) (none) (nthF cs i) (Nat.blt i n)) (asAgg v) i n) o v n
noncomputable def indexC (E : Env) (t : TypeId) (x ix : GC) : LC :=
  match E.ty.get t with
  | some { d := .array n e, .. } => (match E.ty.get e with
    | some ve => bif !ve.d.isAgg && Nat.beq ve.size 1 then ⟨fun s _ => aggI (x.g s) n (natF (ix.g s))⟩ else ⟨fun s _ => (natOf (ix.g s)).bind fun i => elemAt E t (x.g s) i⟩
    | none => ⟨fun _ _ => none⟩)
  | _ => ⟨fun s _ => (natOf (ix.g s)).bind fun i => elemAt E t (x.g s) i⟩
noncomputable def fieldF (off size : Nat) (agg : Bool) (o : Option (List AVal)) : Option AVal :=
  @Option.rec (List AVal) (fun _ => Nat → Nat → Bool → Option AVal) (fun _ _ _ => none)
    (fun cs off size agg => @Bool.rec (fun _ => Option AVal) (nthF cs off) (@Bool.rec (fun _ => Option AVal) (none) (some (.agg (takeF size (dropF off cs)))) (Nat.ble (Nat.add off size) (lenF cs))) (agg)) o off size agg
noncomputable def fieldC (E : Env) (t : TypeId) (x : GC) (f : Nat) : LC :=
  match fieldOf E t f with
  | some (vt, off) => bif Nat.blt 0 vt.size && (vt.d.isAgg || Nat.beq vt.size 1) then ⟨fun s _ => fieldF off vt.size vt.d.isAgg (asAgg (x.g s))⟩ else ⟨fun _ _ => none⟩
  | none => ⟨fun _ _ => none⟩
noncomputable def eqSB (f : Unit → Option AVal) (neg : Bool) (a b : AVal) : Option AVal :=
  @Option.rec ByteArray (fun _ => (Unit → Option AVal) → Bool → AVal → Option AVal) (fun f _ _ => f ())
    (fun x _ neg b => @Option.rec ByteArray (fun _ => Bool → ByteArray → Option AVal) (fun _ _ => none) (fun y neg x => some (.bool (xorF neg (bytesEq x.data.toList y.data.toList)))) (asStr b) neg x) (asStr a) f neg b
noncomputable def eqIB (f : Unit → Option AVal) (neg : Bool) (a b : AVal) : Option AVal :=
  @IV.rec (fun _ => (Unit → Option AVal) → Bool → AVal → AVal → Option AVal) (fun f neg a b => eqSB f neg a b)
    (fun k n _ neg _ b => @IV.rec (fun _ => Bool → IntKind → Int → Option AVal) (fun _ _ _ => none) (fun l y neg k n => @Bool.rec (fun _ => Option AVal) (none) (some (.bool (xorF neg (eqF n y)))) (Nat.beq (kidx k) (kidx l))) (asInt b) neg k n) (asInt a) f neg a b
noncomputable def binC (E : Env) (op : BinOp) (xT : TypeId) (x y : GC) : LC :=
  match op with
  | .add => ⟨fun s _ => orElse1 (two (fun k n y => .int k (wrapF k (addF n y))) (x.g s) (y.g s)) fun _ => bin E .add xT (x.g s) (y.g s)⟩
  | .sub => ⟨fun s _ => two (fun k n y => .int k (wrapF k (subF n y))) (x.g s) (y.g s)⟩
  | .mul => ⟨fun s _ => orElse1 (twoN (fun k n y => .int k (wrapF k (.ofNat (Nat.mul n y)))) (x.g s) (y.g s)) fun _ => bin E .mul xT (x.g s) (y.g s)⟩
  | .and => ⟨fun s _ => orElse1 (twoN (fun k n y => .int k (.ofNat (Nat.land n y))) (x.g s) (y.g s)) fun _ => bin E .and xT (x.g s) (y.g s)⟩
  | .or => ⟨fun s _ => orElse1 (twoN (fun k n y => .int k (.ofNat (Nat.lor n y))) (x.g s) (y.g s)) fun _ => bin E .or xT (x.g s) (y.g s)⟩
  | .xor => ⟨fun s _ => orElse1 (twoN (fun k n y => .int k (.ofNat (Nat.xor n y))) (x.g s) (y.g s)) fun _ => bin E .xor xT (x.g s) (y.g s)⟩
  | .shl => ⟨fun s _ => orElse1 (twoS (fun k n y => .int k (wrapF k (.ofNat (Nat.mul n (Nat.pow 2 (minF y (kbits k))))))) (x.g s) (y.g s)) fun _ => bin E .shl xT (x.g s) (y.g s)⟩
  | .shr => ⟨fun s _ => orElse1 (twoS (fun k n y => .int k (.ofNat (Nat.div n (Nat.pow 2 (minF y (kbits k)))))) (x.g s) (y.g s)) fun _ => bin E .shr xT (x.g s) (y.g s)⟩
  | .lss => ⟨fun s _ => orElse1 (two (fun _ n y => .bool (ltF n y)) (x.g s) (y.g s)) fun _ => bin E .lss xT (x.g s) (y.g s)⟩
  | .leq => ⟨fun s _ => orElse1 (two (fun _ n y => .bool (notB (ltF y n))) (x.g s) (y.g s)) fun _ => bin E .leq xT (x.g s) (y.g s)⟩
  | .gtr => ⟨fun s _ => orElse1 (two (fun _ n y => .bool (ltF y n)) (x.g s) (y.g s)) fun _ => bin E .gtr xT (x.g s) (y.g s)⟩
  | .geq => ⟨fun s _ => orElse1 (two (fun _ n y => .bool (notB (ltF n y))) (x.g s) (y.g s)) fun _ => bin E .geq xT (x.g s) (y.g s)⟩
  | .eql => ⟨fun s _ => eqIB (fun _ => bin E .eql xT (x.g s) (y.g s)) false (x.g s) (y.g s)⟩
  | .neq => ⟨fun s _ => eqIB (fun _ => bin E .neq xT (x.g s) (y.g s)) true (x.g s) (y.g s)⟩
  | op => ⟨fun s _ => bin E op xT (x.g s) (y.g s)⟩
noncomputable def notF (o : Option Bool) : Option AVal := @Option.rec Bool (fun _ => Option AVal) none (fun b => some (.bool (notB b))) o
noncomputable def pickF (o : Option Bool) (a b : AVal) : Option AVal := @Option.rec Bool (fun _ => AVal → AVal → Option AVal) (fun _ _ => none) (fun t a b => some (@Bool.rec (fun _ => AVal) (b) (a) (t))) o a b
noncomputable def extF (o : Option (List AVal)) (i : Nat) : Option AVal := @Option.rec (List AVal) (fun _ => Nat → Option AVal) (fun _ => none) (fun vs i => nthF vs i) o i
noncomputable def slenF (v : AVal) : Option AVal :=
  @RV.rec (fun _ => Option AVal) none (some (.int .i64 (.ofNat 0))) (fun _ _ _ n _ _ _ => some (.int .i64 (.ofNat n))) (fun _ n => some (.int .i64 (.ofNat n))) (asRef v)
noncomputable def lenC (E : Env) (t : TypeId) (x : GC) : LC :=
  match E.ty.get t with
  | some { d := .slice _, .. } => ⟨fun s _ => slenF (x.g s)⟩
  | _ => ⟨fun s _ => (lenOf E t (x.g s)).map fun n => .int .i64 (.ofNat n)⟩
def lightV (E : Env) (m : Mem) (ρ : Operand → AVal) (op : Op) : Option AVal :=
  match light E m ρ op with
  | some (.val v) => some v
  | _ => none

noncomputable def lc (E : Env) (op : Op) : LC :=
  match op with
  | .move x | .assign x => ⟨fun s _ => some ((opn x).g s)⟩
  | .pick c a b => ⟨fun s _ => pickF (asBool ((opn c).g s)) ((opn a).g s) ((opn b).g s)⟩
  | .nilCheck x => ⟨fun s _ => @Bool.rec (fun _ => Option AVal) (none) (some ((opn x).g s)) (notNil ((opn x).g s))⟩
  | .binOp op xT x y _ => binC E op xT (opn x) (opn y)
  | .unOp .not _ x => ⟨fun s _ => notF (asBool ((opn x).g s))⟩
  | .unOp op _ x => ⟨fun s _ => un op ((opn x).g s)⟩
  | .field t x f => fieldC E t (opn x) f
  | .fieldAddr t x f => (match fieldOf E t f with
    | some (vt, off) => bif Nat.blt 0 vt.size then ⟨fun s _ => shiftF ((opn x).g s) off⟩ else ⟨fun _ _ => none⟩
    | none => ⟨fun _ _ => none⟩)
  | .indexAddr t x ix => indexAddrC E t (opn x) (opn ix)
  | .index t x ix => indexC E t (opn x) (opn ix)
  | .extract x i => ⟨fun s _ => extF (asTup ((opn x).g s)) i⟩
  | .load t x => loadC E t (opn x)
  | .call { callee := .builtin .len, args, argTypes } => (match args.toList, argTypes.toList with
    | [x], [t] => lenC E t (opn x)
    | _, _ => ⟨fun _ _ => none⟩)
  | .build t parts => ⟨fun s _ => buildVal E t (parts.toList.map fun (i, x) => (i, evF s x))⟩
  | .slice t x lo hi mx => ⟨fun s _ => (optNat (evF s) lo).bind fun l => (optNat (evF s) hi).bind fun h => (optNat (evF s) mx).bind fun k => sliceOp E t ((opn x).g s) l h k⟩
  | op => ⟨fun s m => lightV E m (evF s) op⟩

/-! ### Operations of all kinds -/
noncomputable def fin (dc : DC) (r : Option AVal) (k : KT) (s : Slots) (m : Mem) : XR :=
  @Option.rec AVal (fun _ => DC → KT → Slots → Mem → XR) (fun _ _ _ _ => .stuck) (fun v dc k s m => dc.d v k s m) r dc k s m
noncomputable def forceN (n : Nat) (k : Nat → XR) : XR := @Nat.rec (fun _ => (Nat → XR) → XR) (fun k => k 0) (fun n _ k => k (Nat.succ n)) n k
noncomputable def mkAt (id : Nat) (mk : NewV) : AVal := @NewV.rec (fun _ => Nat → AVal) (fun ext id => .ptr id ext 0) (fun ext n lo sz id => .ref id ext 0 n lo true sz) mk id
noncomputable def newF (blk : Block) (mk : NewV) (dc : DC) (k : KT) (s : Slots) (m : Mem) : XR :=
  @Mem.rec (fun _ => Block → NewV → DC → KT → Slots → XR) (fun bl nx blk mk dc k s => @Bool.rec (fun _ => XR) (.stuck) (forceN nx (fun id => dc.d (mkAt id mk) k s ⟨(hp id).p bl (some (.blk blk)), Nat.succ id⟩)) (Nat.blt nx 1048576)) m blk mk dc k s
noncomputable def boxF (t : TypeId) (o : Option (List AVal)) (dc : DC) (k : KT) (s : Slots) (m : Mem) : XR :=
  @Option.rec (List AVal) (fun _ => TypeId → DC → KT → Slots → Mem → XR) (fun _ _ _ _ _ => .stuck) (fun cs t dc k s m => newF ⟨t, cs, 0⟩ (.ptr (lenF cs)) dc k s m) o t dc k s m
def newOf (E : Env) (m : Mem) (ρ : Operand → AVal) (op : Op) : Option (Block × NewV) :=
  match light E m ρ op with
  | some (.new blk mk) => some (blk, mk)
  | _ => none
noncomputable def newG (r : Option (Block × NewV)) (dc : DC) (k : KT) (s : Slots) (m : Mem) : XR :=
  match r with
  | some (blk, mk) => newF blk mk dc k s m
  | none => .stuck
noncomputable def wrF (o : Option Block) (b ext off size : Nat) (cs : List AVal) (dc : DC) (k : KT) (s : Slots) (m : Mem) : XR :=
  @Option.rec Block (fun _ => Nat → Nat → Nat → Nat → List AVal → DC → KT → Slots → Mem → XR) (fun _ _ _ _ _ _ _ _ _ => .stuck)
    (fun blk b ext off size cs dc k s m => @Block.rec (fun _ => Nat → Nat → Nat → Nat → List AVal → DC → KT → Slots → Mem → XR)
      (fun ty cells fz b ext off size cs dc k s m => @Bool.rec (fun _ => XR) (.stuck) (@Bool.rec (fun _ => XR) (.stuck) (@Bool.rec (fun _ => XR) (.stuck) (@Bool.rec (fun _ => XR) (.stuck) (dc.d (.tup []) k s (mupd m b ⟨ty, lputF cells off cs, fz⟩)) (Nat.ble (Nat.add off size) ext)) (Nat.ble fz off)) (Nat.beq (lenF cells) ext)) (Nat.beq (lenF cs) size)) blk b ext off size cs dc k s m) o b ext off size cs dc k s m
noncomputable def storeF (size : Nat) (a : AVal) (o : Option (List AVal)) (dc : DC) (k : KT) (s : Slots) (m : Mem) : XR :=
  @Option.rec (List AVal) (fun _ => Nat → AVal → DC → KT → Slots → Mem → XR) (fun _ _ _ _ _ _ => .stuck)
    (fun cs size a dc k s m => @PV.rec (fun _ => Nat → List AVal → DC → KT → Slots → Mem → XR) (fun _ _ _ _ _ _ => .stuck) (fun b ext off size cs dc k s m => wrF (mget m b) b ext off size cs dc k s m) (fun _ _ _ _ _ _ _ => .stuck) (asPtr a) size cs dc k s m) o size a dc k s m
noncomputable def callF1 (r : CR) (dc : DC) (k : KT) (s : Slots) : XR :=
  @CR.rec (fun _ => DC → KT → Slots → XR) (fun _ _ _ => .stuck) (fun v m dc k s => dc.d v k s m) r dc k s
noncomputable def heavyG (r : Option (AVal × Mem)) (dc : DC) (k : KT) (s : Slots) : XR :=
  match r with
  | some (v, m) => dc.d v k s m
  | none => .stuck
noncomputable def callG (v : AVal) (args : List AVal) (cf : CF) (dc : DC) (k : KT) (s : Slots) (m : Mem) : XR :=
  match v with
  | .fn g first captured => callF1 (cf g (first ++ args ++ captured) m) dc k s
  | _ => .stuck

noncomputable def heavyC (E : Env) (op : Op) (dc : DC) : OC :=
  match op with
  | .store t a v => (match E.ty.get t with
    | some vt => ⟨fun _ k s m => storeF vt.size ((opn a).g s) (cellsF ((opn v).g s)) dc k s m⟩
    | none => ⟨fun _ _ _ _ => .stuck⟩)
  | .call { callee := .value (.func g), args, .. } => ⟨fun cf k s m => callF1 (cf g ((argsC args.toList).a s) m) dc k s⟩
  | .call { callee := .value x, args, .. } => ⟨fun cf k s m => callG ((opn x).g s) ((argsC args.toList).a s) cf dc k s m⟩
  | op => ⟨fun _ k s m => heavyG (heavy E (fun _ _ _ => none) m (evF s) op) dc k s⟩

noncomputable def lightC (E : Env) (op : Op) (dc : DC) : OC :=
  match op with
  | .alloc t => (match E.ty.get t with
    | some vt => ⟨fun _ k s m => newF ⟨t, vt.zero, 0⟩ (.ptr (lenF vt.zero)) dc k s m⟩
    | none => ⟨fun _ _ _ _ => .stuck⟩)
  | .box t x => ⟨fun _ k s m => boxF t (cellsF ((opn x).g s)) dc k s m⟩
  | .buildSlice .. | .makeSlice .. => ⟨fun _ k s m => newG (newOf E m (evF s) op) dc k s m⟩
  | op => ⟨fun _ k s m => fin dc ((lc E op).l s m) k s m⟩

noncomputable def plainC (E : Env) (nt : Nat) (o : Oper) : OC :=
  bif isHeavy o.op then heavyC E o.op (dst nt o.dst) else match o.op, o.dst with
    | .move x, some d => bif Nat.blt d nt then ⟨fun _ k s m => k ((sp d).p s ((opn x).g s)) m⟩ else ⟨fun _ _ _ _ => .stuck⟩
    | .assign x, some d => bif Nat.blt d nt then ⟨fun _ k s m => k ((sp d).p s ((opn x).g s)) m⟩ else ⟨fun _ _ _ _ => .stuck⟩
    | op, _ => lightC E op (dst nt o.dst)

noncomputable def guardF (v : GV) (want : Bool) (oc : OC) (dc : DC) (cf : CF) (k : KT) (s : Slots) (m : Mem) : XR :=
  @GV.rec (fun _ => Bool → OC → DC → CF → KT → Slots → Mem → XR) (fun _ _ _ _ _ _ _ => .stuck) (fun b want oc dc cf k s m => @Bool.rec (fun _ => XR) (oc.run cf k s m) (dc.d (.tup []) k s m) (xorF b want)) (fun _ _ dc _ k s m => dc.d (.tup []) k s m) v want oc dc cf k s m
noncomputable def opC (E : Env) (nt : Nat) (ops : List Oper) (o : Oper) : OC :=
  match o.guard with
  | none => plainC E nt o
  | some (j, want) => (match ops[j]? with
    | some { dst := some d, .. } => ⟨fun cf k s m => guardF (asGuard ((opn (.tmp d)).g s)) want (plainC E nt o) (dst nt o.dst) cf k s m⟩
    | _ => ⟨fun _ _ _ _ => .stuck⟩)

noncomputable def commC (E : Env) (nt : Nat) (o : Oper) : OC :=
  match o.guard with
  | none => ⟨fun _ k s m => heavyG (commOp E m (evF s) o.op) (dst nt o.dst) k s⟩
  | some _ => ⟨fun _ _ _ _ => .stuck⟩
/-- 'len' of a channel. -/
def lenOther (E : Env) (o : Oper) : Bool :=
  match o.guard with
  | some _ => false
  | none => match o.op with
    | .call { callee := .builtin .len, args, argTypes } => (match args.toList, argTypes.toList with
      | [_], [t] => (match E.ty.get t with
        | some { d := .other, .. } => true
        | _ => false)
      | _, _ => false)
    | _ => false
def lenChV (P : Program) (t : TypeId) (v : AVal) (m : Mem) : Option AVal :=
  match v with
  | .chan b => match m.getC b with
    | some (_, q) => bif chanTyB P t then some (.int .i64 (q.length : Nat)) else none
    | none => none
  | _ => none
noncomputable def lenChC (E : Env) (nt : Nat) (o : Oper) : OC :=
  match o.op with
  | .call { callee := .builtin .len, args, argTypes } => (match args.toList, argTypes.toList with
    | [x], [t] => ⟨fun _ k s m => fin (dst nt o.dst) (lenChV E.P t ((opn x).g s) m) k s m⟩
    | _, _ => ⟨fun _ _ _ _ => .stuck⟩)
  | _ => ⟨fun _ _ _ _ => .stuck⟩
noncomputable def oneC (E : Env) (nt : Nat) (ops : List Oper) (o : Oper) : OC :=
  bif isComm o.op then commC E nt o else bif lenOther E o then lenChC E nt o else opC E nt ops o

noncomputable def seqC (E : Env) (nt : Nat) (ops l : List Oper) : OC :=
  match l with
  | [] => ⟨fun _ k s m => k s m⟩
  | o :: l => ⟨fun cf k s m => (oneC E nt ops o).run cf ((seqC E nt ops l).run cf k) s m⟩

noncomputable def chkF (r : Option AVal) (v : AVal) (k : KT) (s : Slots) (m : Mem) : XR :=
  match r with
  | some u => bif AVal.same u v then k s m else .stuck
  | none => .stuck
noncomputable def chkG (g : GV) (want : Bool) (r : Option AVal) (v : AVal) (k : KT) (s : Slots) (m : Mem) : XR :=
  match g with
  | .bool b => bif xorF b want then k s m else chkF r v k s m
  | .tup => k s m
  | .no => .stuck
noncomputable def planC (E : Env) (nt : Nat) (ops : List Oper) (l : List RStep) : OC :=
  match l with
  | [] => ⟨fun _ k s m => k s m⟩
  | .run j :: l => (match ops[j]? with
    | some o => ⟨fun cf k s m => (opC E nt ops o).run cf ((planC E nt ops l).run cf k) s m⟩
    | none => ⟨fun _ _ _ _ => .stuck⟩)
  | .chk j :: l => (match ops[j]? with
    | some o => (match o.dst with
      | some d => (match o.guard with
        | none => ⟨fun cf k s m => chkF ((lc E o.op).l s m) ((opn (.tmp d)).g s) ((planC E nt ops l).run cf k) s m⟩
        | some (i, want) => (match ops[i]? with
          | some { dst := some e, .. } => ⟨fun cf k s m => chkG (asGuard ((opn (.tmp e)).g s)) want ((lc E o.op).l s m) ((opn (.tmp d)).g s) ((planC E nt ops l).run cf k) s m⟩
          | _ => ⟨fun _ _ _ _ => .stuck⟩))
      | none => ⟨fun _ _ _ _ => .stuck⟩)
    | none => ⟨fun _ _ _ _ => .stuck⟩)

noncomputable def drawnC (E : Env) (nt : Nat) (ops : List Oper) (plan : List RStep) : OC :=
  bif lastComm ops then (match ops.getLast? with
    | some o => ⟨fun cf k s m => (planC E nt ops.dropLast plan).run cf ((oneC E nt ops o).run cf k) s m⟩
    | none => ⟨fun _ _ _ _ => .stuck⟩)
  else planC E nt ops plan

/-! ### Code -/
def kdone : KT := fun s m => .done .normal s m
noncomputable def condF (o : Option Bool) (a b : OC) (cf : CF) (k : KT) (s : Slots) (m : Mem) : XR :=
  @Option.rec Bool (fun _ => OC → OC → CF → KT → Slots → Mem → XR) (fun _ _ _ _ _ _ => .stuck) (fun t a b cf k s m => @Bool.rec (fun _ => OC → OC → CF → KT → Slots → Mem → XR) (fun _ b cf k s m => b.run cf k s m) (fun a _ cf k s m => a.run cf k s m) t a b cf k s m) o a b cf k s m
noncomputable def blockF (id : Nat) (k : KT) (r : XR) : XR :=
  @XR.rec (fun _ => Nat → KT → XR) (fun _ _ => .stuck)
    (fun ex s m id k => @Ex.rec (fun _ => Slots → Mem → Nat → KT → XR) (fun s m _ k => k s m) (fun i s m id k => @Bool.rec (fun _ => XR) (.done (.exit i) s m) (k s m) (Nat.beq i id)) (fun s m _ _ => .done .ret s m) ex s m id k) r id k
noncomputable def loopF (n : Nat) (body : OC) (cf : CF) (s : Slots) (m : Mem) : XR :=
  @Nat.rec (fun _ => OC → CF → Slots → Mem → XR) (fun _ _ _ _ => .stuck)
    (fun _ ih body cf s m => @XR.rec (fun _ => OC → CF → (OC → CF → Slots → Mem → XR) → XR) (fun _ _ _ => .stuck)
      (fun ex s m body cf ih => @Ex.rec (fun _ => OC → CF → (OC → CF → Slots → Mem → XR) → Slots → Mem → XR) (fun body cf ih s m => ih body cf s m) (fun i _ _ _ s m => .done (.exit i) s m) (fun _ _ _ s m => .done .ret s m) ex body cf ih s m) (body.run cf kdone s m) body cf ih) n body cf s m

noncomputable def cc (E : Env) (f : FuncId) (nt : Nat) (c : Code) : OC :=
  match c with
  | .skip => ⟨fun _ k s m => k s m⟩
  | .ret => ⟨fun _ _ s m => .done .ret s m⟩
  | .exit id => ⟨fun _ _ s m => .done (.exit id) s m⟩
  | .seq a b => ⟨fun cf k s m => (cc E f nt a).run cf ((cc E f nt b).run cf k) s m⟩
  | .cond x a b => ⟨fun cf k s m => condF (asBool ((opn x).g s)) (cc E f nt a) (cc E f nt b) cf k s m⟩
  | .block id body => ⟨fun cf k s m => blockF id k ((cc E f nt body).run cf kdone s m)⟩
  | .loop body => ⟨fun cf _ s m => loopF 1000000 (cc E f nt body) cf s m⟩
  | .region _ ops false => seqC E nt ops.toList ops.toList
  | .region id ops true => (match E.plans.get (planKey f id) with
    | some plan => drawnC E nt ops.toList plan
    | none => ⟨fun _ _ _ _ => .stuck⟩)
  | _ => ⟨fun _ _ _ _ => .stuck⟩

noncomputable def argsF (l : List AVal) (i : Nat) (t : Slots) : Slots :=
  @List.rec AVal (fun _ => Nat → Slots → Slots) (fun _ t => t) (fun v _ ih i t => ih (Nat.succ i) ((sp i).p t v)) l i t

structure RC where
  r : Slots → Mem → CR
def resG (o : Option (List AVal)) (m : Mem) : CR := match o with
  | some vs => .ok (oneOr vs) m
  | none => .stuck
/-- The results' slots, if all are slots. -/
def resTmps : List ResultVar → Option (List Operand)
  | [] => some []
  | .tmp t :: l => (resTmps l).map (.tmp t :: ·)
  | .cell .. :: _ => none
noncomputable def resG1 (o : Option AVal) (m : Mem) : CR := @Option.rec AVal (fun _ => Mem → CR) (fun _ => .stuck) (fun v m => .ok v m) o m
noncomputable def resC (E : Env) (f nt : Nat) (l : List ResultVar) : RC :=
  match l with
  | [.tmp t] => ⟨fun s m => .ok ((opn (.tmp t)).g s) m⟩
  | [.cell a t] => (match (loadC E t (opn (.tmp a))) with
    | lc => ⟨fun s m => resG1 (lc.l s m) m⟩)
  | l => match resTmps l with
    | some xs => ⟨fun s m => .ok (oneOr ((argsC xs).a s)) m⟩
    | none => ⟨fun s m => resG (resultVals E ⟨f, nt, s, m⟩ l) m⟩
noncomputable def finC (rc : RC) (r : XR) : CR :=
  @XR.rec (fun _ => RC → CR) (fun _ => .stuck) (fun ex s m rc => @Ex.rec (fun _ => RC → Slots → Mem → CR) (fun rc s m => rc.r s m) (fun _ _ _ _ => .stuck) (fun rc s m => rc.r s m) ex rc s m) r rc
structure FC where
  run : CF → List AVal → Mem → CR
noncomputable def fnC (E : Env) (f : FuncId) : FC :=
  match E.fns.get f with
  | none => ⟨fun _ _ _ => .stuck⟩
  | some fn => match fn.body with
    | none => ⟨fun _ _ _ => .stuck⟩
    | some c => bif Nat.ble fn.ntmps 256 then ⟨fun cf args m => @Bool.rec (fun _ => CR) (.stuck) (finC (resC E f fn.ntmps fn.results.toList) ((cc E f fn.ntmps c).run cf kdone (argsF args 0 Slots.nil) m)) (Nat.ble (lenF args) fn.ntmps)⟩ else ⟨fun _ _ _ => .stuck⟩
noncomputable def orcF (o : Option AVal) (fc : FC) (cf : CF) (args : List AVal) (m : Mem) : CR :=
  @Option.rec AVal (fun _ => FC → CF → List AVal → Mem → CR) (fun fc cf args m => fc.run cf args m) (fun v _ _ _ m => .ok v m) o fc cf args m
noncomputable def fcall (E : Env) (n : Nat) : CF := fun f args m =>
  @Nat.rec (fun _ => CF) (fun _ _ _ => .stuck) (fun _ ih f args m => orcF (E.orc f args) (fnC E f) ih args m) n f args m
end Go.V
end

section
/-
  What the machine made for the kernel answers is what the abstract machine answers.
-/
namespace Go.V

/-! ### Trees, slots, memory -/
theorem opn_ok (x : Operand) (f nt : Nat) (s : Slots) (m : Mem) : (opn x).g s = St.ev ⟨f, nt, s, m⟩ x := by
  cases x with
  | tmp t =>
    simp only [opn, St.ev, St.slot, Slots.get, gtab_ok, List.getElem?_map, nblt, cond_eq_ite, decide_eq_true_eq]
    by_cases h : t < 256
    · rw [List.getElem?_range h, if_pos h]; rfl
    · rw [List.getElem?_eq_none (by simpa using h), if_neg h]; rfl
  | const v =>
    simp only [opn, St.ev]
    unfold constC
    split <;> simp_all
  | global g => rfl
  | func f => rfl

theorem evF_ok (f nt : Nat) (s : Slots) (m : Mem) : evF s = St.ev ⟨f, nt, s, m⟩ := funext fun x => opn_ok x f nt s m

theorem sp_ok (d : Nat) (h : d < 256) (s : Slots) (v : AVal) : (sp d).p s v = Slots.put s d v := by
  simp only [sp, ptab_ok, List.getElem?_map, List.getElem?_range h, Option.map_some, Option.getD_some]
  rfl

theorem pacc_ok {β : Type} (v : β) : ∀ (k : Nat) (x : Lv β k) (n : Nat), (pacc β k n).p x v = Lv.set v k x n
  | 0, _, _ => rfl
  | k + 1, x, n => by
    obtain ⟨a, b, c, d⟩ := x
    have hm : n % 4 < 4 := Nat.mod_lt _ (by decide)
    have ih := pacc_ok v k
    show ((@Nat.rec (fun _ => PK β (Lv β (k + 1))) ⟨uA (α := Lv β k) (pacc β k (Nat.div n 4)).p⟩
      (fun i _ => @Nat.rec (fun _ => PK β (Lv β (k + 1))) ⟨uB (α := Lv β k) (pacc β k (Nat.div n 4)).p⟩
        (fun i _ => @Nat.rec (fun _ => PK β (Lv β (k + 1))) ⟨uC (α := Lv β k) (pacc β k (Nat.div n 4)).p⟩ (fun _ _ => ⟨uD (α := Lv β k) (pacc β k (Nat.div n 4)).p⟩) i) i) (n % 4) : PK β (Lv β (k + 1))).p ⟨a, b, c, d⟩ v
        = Q4.upd (α := Lv β k) ⟨a, b, c, d⟩ (fun y => Lv.set v k y (n / 4)) (n % 4))
    have : n % 4 = 0 ∨ n % 4 = 1 ∨ n % 4 = 2 ∨ n % 4 = 3 := by omega
    rcases this with h | h | h | h <;> rw [h]
    · exact congrArg (fun z => (⟨z, b, c, d⟩ : Q4 (Lv β k))) (ih a (n / 4))
    · exact congrArg (fun z => (⟨a, z, c, d⟩ : Q4 (Lv β k))) (ih b (n / 4))
    · exact congrArg (fun z => (⟨a, b, z, d⟩ : Q4 (Lv β k))) (ih c (n / 4))
    · exact congrArg (fun z => (⟨a, b, c, z⟩ : Q4 (Lv β k))) (ih d (n / 4))

theorem gacc_ok {β : Type} : ∀ (k : Nat) (x : Lv β k) (n : Nat), (gacc β k n).g x = Lv.at k x n
  | 0, _, _ => rfl
  | k + 1, x, n => by
    obtain ⟨a, b, c, d⟩ := x
    have hm : n % 4 < 4 := Nat.mod_lt _ (by decide)
    have ih := gacc_ok (β := β) k
    show ((@Nat.rec (fun _ => GK β (Lv β (k + 1))) ⟨fun x => (gacc β k (Nat.div n 4)).g (Q4.a (α := Lv β k) x)⟩
      (fun i _ => @Nat.rec (fun _ => GK β (Lv β (k + 1))) ⟨fun x => (gacc β k (Nat.div n 4)).g (Q4.b (α := Lv β k) x)⟩
        (fun i _ => @Nat.rec (fun _ => GK β (Lv β (k + 1))) ⟨fun x => (gacc β k (Nat.div n 4)).g (Q4.c (α := Lv β k) x)⟩ (fun _ _ => ⟨fun x => (gacc β k (Nat.div n 4)).g (Q4.d (α := Lv β k) x)⟩) i) i) (n % 4) : GK β (Lv β (k + 1))).g ⟨a, b, c, d⟩
        = Lv.at k (Q4.pick (α := Lv β k) ⟨a, b, c, d⟩ (n % 4)) (n / 4))
    have : n % 4 = 0 ∨ n % 4 = 1 ∨ n % 4 = 2 ∨ n % 4 = 3 := by omega
    rcases this with h | h | h | h <;> rw [h]
    · exact ih a (n / 4)
    · exact ih b (n / 4)
    · exact ih c (n / 4)
    · exact ih d (n / 4)

theorem uacc_ok {L β : Type} (f : L → β → L) (v : β) : ∀ (k : Nat) (x : Lv L k) (n : Nat), (uacc L β k n).u f x v = Lv.mod (fun y => f y v) k x n
  | 0, _, _ => rfl
  | k + 1, x, n => by
    obtain ⟨a, b, c, d⟩ := x
    have ih := uacc_ok f v k
    show ((@Nat.rec (fun _ => UK L β (Lv L (k + 1))) ⟨vA (α := Lv L k) (uacc L β k (Nat.div n 4)).u⟩
      (fun i _ => @Nat.rec (fun _ => UK L β (Lv L (k + 1))) ⟨vB (α := Lv L k) (uacc L β k (Nat.div n 4)).u⟩
        (fun i _ => @Nat.rec (fun _ => UK L β (Lv L (k + 1))) ⟨vC (α := Lv L k) (uacc L β k (Nat.div n 4)).u⟩ (fun _ _ => ⟨vD (α := Lv L k) (uacc L β k (Nat.div n 4)).u⟩) i) i) (n % 4) : UK L β (Lv L (k + 1))).u f ⟨a, b, c, d⟩ v
        = Q4.upd (α := Lv L k) ⟨a, b, c, d⟩ (fun y => Lv.mod (fun y => f y v) k y (n / 4)) (n % 4))
    have : n % 4 = 0 ∨ n % 4 = 1 ∨ n % 4 = 2 ∨ n % 4 = 3 := by omega
    rcases this with h | h | h | h <;> rw [h]
    · exact congrArg (fun z => (⟨z, b, c, d⟩ : Q4 (Lv L k))) (ih a (n / 4))
    · exact congrArg (fun z => (⟨a, z, c, d⟩ : Q4 (Lv L k))) (ih b (n / 4))
    · exact congrArg (fun z => (⟨a, b, z, d⟩ : Q4 (Lv L k))) (ih c (n / 4))
    · exact congrArg (fun z => (⟨a, b, c, z⟩ : Q4 (Lv L k))) (ih d (n / 4))

theorem forceG_ok {γ : Type} (n : Nat) (k : Nat → γ) : forceG n k = k n := by cases n <;> rfl
theorem hp_ok (b : Nat) (x : Hp) (v : Cel) : (hp b).p x (some v) = Hp.put x b v := by
  unfold hp Hp.put
  rw [forceG_ok, forceG_ok]
  refine (uacc_ok (L := Hp4) (pacc (Option Cel) 4 (Nat.mod b 256)).p (some v) 6 x (Nat.div b 256)).trans ?_
  have e : (fun y : Hp4 => (pacc (Option Cel) 4 (Nat.mod b 256)).p y (some v)) = fun l : Hp4 => Lv.set (some v) 4 l (b % 256) := funext fun l => pacc_ok (some v) 4 l (b % 256)
  exact congrArg (fun f => Lv.mod f 6 x (b / 256)) e
theorem hk_ok (b : Nat) (x : Hp) : (hk b).g x = Hp.get x b := by
  unfold hk Hp.get
  cases h : Nat.blt b 1048576 with
  | true =>
    simp only [cond_true, forceG_ok]
    refine (gacc_ok 4 _ (b % 256)).trans ?_
    exact congrArg (fun l : Hp4 => Lv.at 4 l (b % 256)) (gacc_ok 6 x (b / 256))
  | false => simp only [cond_false]
theorem mget_ok (m : Mem) (b : Nat) : mget m b = m.get b := by
  unfold mget Mem.get
  rw [hk_ok]
  cases Hp.get m.blocks b with
  | none => rfl
  | some c => cases c <;> rfl
theorem mupd_ok (m : Mem) (b : Nat) (blk : Block) : mupd m b blk = m.upd b blk := by
  obtain ⟨bl, nx⟩ := m
  unfold Mem.upd
  exact congrArg (fun z => (⟨z, nx⟩ : Mem)) (hp_ok b bl (.blk blk))

/-! ### Lists -/
theorem lenF_ok : ∀ l : List AVal, lenF l = l.length
  | [] => rfl
  | _ :: l => congrArg Nat.succ (lenF_ok l)
theorem nthF_ok : ∀ (l : List AVal) (i : Nat), nthF l i = l[i]?
  | [], _ => rfl
  | _ :: _, 0 => rfl
  | _ :: l, i + 1 => by rw [List.getElem?_cons_succ]; exact nthF_ok l i
theorem dropF_ok : ∀ (n : Nat) (l : List AVal), dropF n l = l.drop n
  | 0, _ => rfl
  | n + 1, [] => by rw [List.drop_nil]; exact (dropF_ok n []).trans List.drop_nil
  | n + 1, _ :: l => dropF_ok n l
theorem takeF_ok : ∀ (n : Nat) (l : List AVal), takeF n l = l.take n
  | 0, l => by cases l <;> rfl
  | n + 1, [] => rfl
  | n + 1, a :: l => congrArg (a :: ·) (takeF_ok n l)
theorem lputF_ok : ∀ (l : List AVal) (off : Nat) (vs : List AVal), lputF l off vs = lput l off vs
  | [], off, vs => by cases vs <;> rfl
  | c :: l, off, [] => by simp only [lput]; rfl
  | c :: l, 0, v :: vs => congrArg (v :: ·) (lputF_ok l 0 vs)
  | c :: l, n + 1, v :: vs => congrArg (c :: ·) (lputF_ok l n (v :: vs))
theorem take_drop_len {l : List AVal} {off n : Nat} (h : off + n ≤ l.length) : ((l.drop off).take n).length = n := by
  rw [List.length_take, List.length_drop]; omega
theorem lget_of_le {l : List AVal} {off n : Nat} (h : off + n ≤ l.length) : lget l off n = some ((l.drop off).take n) := by
  simp only [lget, nbeq, take_drop_len h, decide_true, cond_true]
theorem lget_one {l : List AVal} {off : Nat} {v : AVal} (h : l[off]? = some v) : lget l off 1 = some [v] := by
  have hlt : off < l.length := by
    by_cases hc : off < l.length
    · exact hc
    · rw [List.getElem?_eq_none (by omega)] at h; cases h
  rw [lget_of_le (by omega)]
  congr 1
  have : l.drop off = v :: l.drop (off + 1) := by
    rw [List.drop_eq_getElem_cons hlt]
    rw [List.getElem?_eq_getElem hlt] at h
    cases h; rfl
  rw [this]; rfl
end Go.V
end

section
/-
  The numbers and the views of the machine made for the kernel.
-/
namespace Go.V

theorem asInt_yes {v : AVal} {k : IntKind} {n : Int} (h : asInt v = .yes k n) : v = .int k n := by
  cases v <;> first | (cases h; rfl) | (cases h)
theorem asStr_some {v : AVal} {s : ByteArray} (h : asStr v = some s) : v = .str s := by
  cases v <;> first | (cases h; rfl) | (cases h)
theorem asBool_some {v : AVal} {b : Bool} (h : asBool v = some b) : v = .bool b := by
  cases v <;> first | (cases h; rfl) | (cases h)
theorem asAgg_some {v : AVal} {cs : List AVal} (h : asAgg v = some cs) : v = .agg cs := by
  cases v <;> first | (cases h; rfl) | (cases h)
theorem asTup_some {v : AVal} {cs : List AVal} (h : asTup v = some cs) : v = .tup cs := by
  cases v <;> first | (cases h; rfl) | (cases h)
theorem asPtr_ptr {v : AVal} {b e o : Nat} (h : asPtr v = .ptr b e o) : v = .ptr b e o := by
  cases v <;> first | (cases h; rfl) | (cases h)
theorem asPtr_iptr {v : AVal} {cs : List AVal} (h : asPtr v = .iptr cs) : v = .iptr cs := by
  cases v <;> first | (cases h; rfl) | (cases h)
theorem asRef_nil {v : AVal} (h : asRef v = .nil) : ∃ s, v = .nil s := by
  cases v <;> first | (cases h; exact ⟨_, rfl⟩) | (cases h)
theorem asRef_ref {v : AVal} {b ext off n lo : Nat} {exact_ : Bool} {sz : Nat} (h : asRef v = .ref b ext off n lo exact_ sz) : v = .ref b ext off n lo exact_ sz := by
  cases v <;> first | (cases h; rfl) | (cases h)
theorem asRef_imm {v : AVal} {cs : List AVal} {n : Nat} (h : asRef v = .imm cs n) : v = .imm cs n := by
  cases v <;> first | (cases h; rfl) | (cases h)
theorem cellsF_ok (v : AVal) : cellsF v = v.cells? := by cases v <;> rfl
theorem asGuard_bool {v : AVal} {b : Bool} (h : asGuard v = .bool b) : v = .bool b := by
  cases v <;> first | (cases h; rfl) | (cases h)
theorem asGuard_tup {v : AVal} (h : asGuard v = .tup) : ∃ vs, v = .tup vs := by
  cases v <;> first | (cases h; exact ⟨_, rfl⟩) | (cases h)
theorem notNil_ok {v : AVal} (h : notNil v = true) : (∃ b e o, v = .ptr b e o) ∨ (∃ cs, v = .iptr cs) ∨ ∃ f xs ys, v = .fn f xs ys := by
  cases v <;> first | exact .inl ⟨_, _, _, rfl⟩ | exact .inr (.inl ⟨_, rfl⟩) | exact .inr (.inr ⟨_, _, _, rfl⟩) | (cases h; done)

theorem notB_ok (b : Bool) : notB b = !b := by cases b <;> rfl
theorem xorF_ok (a b : Bool) : xorF a b = (a != b) := by cases a <;> cases b <;> rfl

theorem kidx_inj {k l : IntKind} (h : Nat.beq (kidx k) (kidx l) = true) : k = l := by
  cases k <;> cases l <;> first | rfl | cases h

theorem kmax_lt (k : IntKind) : kmax k < 2 ^ k.bits := by cases k <;> decide
/-- How many bits the numbers have that are not below 0. -/
def kp : IntKind → Nat
  | .i8 => 7 | .i16 => 15 | .i32 => 31 | .i64 => 63 | .u8 => 8 | .u16 => 16 | .u32 => 32 | .u64 => 64
theorem kmax_eq (k : IntKind) : kmax k = 2 ^ kp k - 1 := by cases k <;> rfl
theorem kmax_kp (k : IntKind) (a : Nat) : a ≤ kmax k ↔ a < 2 ^ kp k := by
  rw [kmax_eq]
  have : 0 < 2 ^ kp k := Nat.two_pow_pos _
  omega
theorem wrap_in (k : IntKind) {n : Int} (h0 : -(kmin k : Int) ≤ n) (h1 : n ≤ (kmax k : Int)) : k.wrap n = n := by
  cases k
  · exact IntWalk.i8_in n ⟨h0, h1⟩
  · exact IntWalk.i16_in n ⟨h0, h1⟩
  · exact IntWalk.i32_in n ⟨h0, h1⟩
  · exact IntWalk.i64_in n ⟨h0, h1⟩
  · exact IntWalk.u8_in n ⟨h0, h1⟩
  · exact IntWalk.u16_in n ⟨h0, h1⟩
  · exact IntWalk.u32_in n ⟨h0, h1⟩
  · exact IntWalk.u64_in n ⟨h0, h1⟩
theorem wrap_nat (k : IntKind) {a : Nat} (h : a ≤ kmax k) : k.wrap (a : Int) = a := wrap_in k (by omega) (by omega)
theorem wrap_unsg (k : IntKind) (h : unsg k = true) (n : Int) : k.wrap n = n % ((kmax k + 1 : Nat) : Int) := by
  cases k
  · cases h
  · cases h
  · cases h
  · cases h
  · exact IntKind.wrap_u8 n
  · exact IntKind.wrap_u16 n
  · exact IntKind.wrap_u32' n
  · exact IntKind.wrap_u64 n
theorem wrapF_ok (k : IntKind) (n : Int) : wrapF k n = k.wrap n := by
  cases n with
  | ofNat a =>
    show (@Bool.rec (fun _ => Int) (@Bool.rec (fun _ => Int) (k.wrap (.ofNat a)) (.ofNat (Nat.mod a (Nat.succ (kmax k)))) (unsg k)) (.ofNat a) (Nat.ble a (kmax k))) = _
    cases h : Nat.ble a (kmax k) with
    | true =>
      rw [nble, decide_eq_true_eq] at h
      exact (wrap_nat k h).symm
    | false =>
      cases hu : unsg k with
      | false => rfl
      | true =>
        rw [wrap_unsg k hu]
        rfl
  | negSucc a =>
    show (@Bool.rec (fun _ => Int) (k.wrap (.negSucc a)) (.negSucc a) (Nat.blt a (kmin k))) = _
    cases h : Nat.blt a (kmin k) with
    | false => rfl
    | true =>
      rw [nblt, decide_eq_true_eq] at h
      have e : Int.negSucc a = -((a : Int) + 1) := by omega
      exact (wrap_in k (n := Int.negSucc a) (by rw [e]; omega) (by rw [e]; omega)).symm
theorem addF_ok (x y : Int) : addF x y = x + y := by cases x <;> cases y <;> rfl
theorem subF_ok (x y : Int) : subF x y = x - y := by
  cases x with
  | negSucc a => cases y <;> rfl
  | ofNat a =>
    cases y with
    | negSucc b => rfl
    | ofNat b =>
      show (@Bool.rec (fun _ => Int) (.negSucc (Nat.pred (Nat.sub b a))) (.ofNat (Nat.sub a b)) (Nat.ble b a)) = _
      cases h : Nat.ble b a with
      | true =>
        rw [nble, decide_eq_true_eq] at h
        show Int.ofNat (a - b) = Int.ofNat a - Int.ofNat b
        simp only [Int.ofNat_eq_natCast]; omega
      | false =>
        rw [nble, decide_eq_false_iff_not] at h
        show Int.negSucc ((b - a).pred) = Int.ofNat a - Int.ofNat b
        simp only [Int.ofNat_eq_natCast, Nat.pred_eq_sub_one]; omega
theorem ltF_ok (x y : Int) : ltF x y = decide (x < y) := by
  cases x <;> cases y
  · show Nat.blt _ _ = _
    rw [nblt]; simp
  · show false = _
    rw [eq_comm, decide_eq_false_iff_not, Int.ofNat_eq_natCast]; omega
  · show true = _
    rw [eq_comm, decide_eq_true_eq, Int.ofNat_eq_natCast]; omega
  · rename_i a b
    show Nat.blt _ _ = _
    rw [nblt]
    exact decide_eq_decide.2 (by omega)
theorem eqF_ok (x y : Int) : eqF x y = decide (x = y) := by
  cases x <;> cases y
  · show Nat.beq _ _ = _
    rw [nbeq]
    exact decide_eq_decide.2 (by simp only [Int.ofNat_eq_natCast]; omega)
  · rfl
  · rfl
  · show Nat.beq _ _ = _
    rw [nbeq]; simp
theorem minF_ok (a b : Nat) : minF a b = min a b := by
  show (@Bool.rec (fun _ => Nat) b a (Nat.ble a b)) = _
  cases h : Nat.ble a b with
  | true => rw [nble, decide_eq_true_eq] at h; exact (Nat.min_eq_left h).symm
  | false => rw [nble, decide_eq_false_iff_not] at h; exact (Nat.min_eq_right (a := a) (b := b) (by omega)).symm
theorem kbits_ok (k : IntKind) : kbits k = k.bits := by cases k <;> rfl

theorem ofInt_toNat (k : IntKind) {n : Nat} (h : n ≤ kmax k) : (BitVec.ofInt k.bits (n : Int)).toNat = n := by
  have hl : n < 2 ^ k.bits := Nat.lt_of_le_of_lt h (kmax_lt k)
  rw [BitVec.ofInt_natCast, BitVec.toNat_ofNat]
  exact Nat.mod_eq_of_lt hl

theorem two_some {g : IntKind → Int → Int → AVal} {a b v : AVal} (h : two g a b = some v) : ∃ k n y, a = .int k n ∧ b = .int k y ∧ v = g k n y := by
  unfold two at h
  cases ha : asInt a with
  | no => rw [ha] at h; cases h
  | yes k n =>
    rw [ha] at h
    cases hb : asInt b with
    | no => simp only [hb] at h; cases h
    | yes l y =>
      simp only [hb] at h
      cases hk : Nat.beq (kidx k) (kidx l) with
      | false => simp only [hk] at h; cases h
      | true =>
        simp only [hk] at h
        cases h
        cases kidx_inj hk
        exact ⟨k, n, y, asInt_yes ha, asInt_yes hb, rfl⟩

theorem twoN_some {g : IntKind → Nat → Nat → AVal} {a b v : AVal} (h : twoN g a b = some v) : ∃ (k : IntKind) (n y : Nat), a = .int k n ∧ b = .int k y ∧ n ≤ kmax k ∧ y ≤ kmax k ∧ v = g k n y := by
  unfold twoN at h
  cases ha : asInt a with
  | no => rw [ha] at h; cases h
  | yes k n =>
    rw [ha] at h
    cases hb : asInt b with
    | no => simp only [hb] at h; cases h
    | yes l y =>
      simp only [hb] at h
      cases hk : Nat.beq (kidx k) (kidx l) with
      | false => simp only [hk] at h; cases h
      | true =>
        simp only [hk] at h
        cases kidx_inj hk
        cases n with
        | negSucc n => cases h
        | ofNat n =>
          cases y with
          | negSucc y => cases h
          | ofNat y =>
            simp only at h
            cases hc : (and (Nat.ble n (kmax k)) (Nat.ble y (kmax k))) with
            | false => simp only [hc] at h; cases h
            | true =>
              simp only [hc] at h
              cases h
              rw [Bool.and_eq_true, nble, nble, decide_eq_true_eq, decide_eq_true_eq] at hc
              exact ⟨k, n, y, asInt_yes ha, asInt_yes hb, hc.1, hc.2, rfl⟩

theorem twoS_some {g : IntKind → Nat → Nat → AVal} {a b v : AVal} (h : twoS g a b = some v) : ∃ (k l : IntKind) (n y : Nat), a = .int k n ∧ b = .int l y ∧ v = g k n y := by
  unfold twoS at h
  cases ha : asInt a with
  | no => rw [ha] at h; cases h
  | yes k n =>
    rw [ha] at h
    cases hb : asInt b with
    | no => simp only [hb] at h; cases h
    | yes l y =>
      simp only [hb] at h
      cases n with
      | negSucc n => cases h
      | ofNat n =>
        cases y with
        | negSucc y => cases h
        | ofNat y => cases h; exact ⟨k, l, n, y, asInt_yes ha, asInt_yes hb, rfl⟩

theorem orElse1_some {r : Option AVal} {f : Unit → Option AVal} {v : AVal} (h : orElse1 r f = some v) : r = some v ∨ f () = some v := by
  cases r with
  | none => exact .inr h
  | some u => exact .inl h
end Go.V
end

section
/-
  The operations that only answer a value, of the machine made for the kernel.
-/
namespace Go.V
set_option linter.unusedSimpArgs false

section
variable {E : Env} {s : Slots} {m : Mem} {v : AVal}

/-- The value that a light operation answers. -/
abbrev LV (E : Env) (m : Mem) (s : Slots) (op : Op) (v : AVal) : Prop := light E m (evF s) op = some (.val v)

theorem bytes_toList (b : ByteArray) : b.toList = b.data.toList := by
  have : ∀ (n i : Nat) (r : List UInt8), b.size - i = n → ByteArray.toList.loop b i r = r.reverse ++ b.data.toList.drop i := by
    intro n
    induction n with
    | zero =>
      intro i r h
      rw [ByteArray.toList.loop, if_neg (by omega), List.drop_eq_nil_of_le (by simp only [Array.length_toList]; show b.size ≤ i; omega), List.append_nil]
    | succ n ih =>
      intro i r h
      have hlt : i < b.size := by omega
      rw [ByteArray.toList.loop, if_pos hlt, ih (i + 1) _ (by omega)]
      have hl : i < b.data.toList.length := by simpa using hlt
      rw [List.drop_eq_getElem_cons hl]
      have : b.get! i = b.data.toList[i] := by
        show b.data[i]! = _
        have hd : i < b.data.size := hlt
        rw [getElem!_pos b.data i hd]; simp
      rw [this]; simp
  have := this b.size 0 [] (by omega)
  rw [ByteArray.toList, this]; simp

theorem bytesEq_ok : ∀ x y : List UInt8, bytesEq x y = (x == y)
  | [], [] => rfl
  | [], _ :: _ => rfl
  | _ :: _, [] => rfl
  | a :: x, b :: y => by
    show (@Bool.rec (fun _ => Bool) false (bytesEq x y) (Nat.beq a.toNat b.toNat)) = _
    rw [nbeq, bytesEq_ok x y]
    by_cases e : a = b
    · subst e; simp
    · have : a.toNat ≠ b.toNat := fun h => e (UInt8.toNat.inj h)
      simp [this, e]

theorem bin_int {op : BinOp} {xT : TypeId} {k : IntKind} {x y : Int} (h1 : op ≠ .shl) (h2 : op ≠ .shr) : bin E op xT (.int k x) (.int k y) = arith op k x y := by
  cases op <;> simp_all [bin]

theorem eqIB_some {f : Unit → Option AVal} {neg : Bool} {a b v : AVal} (h : eqIB f neg a b = some v) :
    (∃ k n y, a = .int k n ∧ b = .int k y ∧ v = .bool (neg != decide (n = y))) ∨ (∃ x y, a = .str x ∧ b = .str y ∧ v = .bool (neg != (x.data.toList == y.data.toList))) ∨ f () = some v := by
  unfold eqIB at h
  cases ha : asInt a with
  | yes k n =>
    rw [ha] at h
    cases hb : asInt b with
    | no => simp only [hb] at h; cases h
    | yes l y =>
      simp only [hb] at h
      cases hk : Nat.beq (kidx k) (kidx l) with
      | false => simp only [hk] at h; cases h
      | true =>
        simp only [hk] at h
        cases kidx_inj hk
        cases h
        exact .inl ⟨k, n, y, asInt_yes ha, asInt_yes hb, by rw [xorF_ok, eqF_ok]⟩
  | no =>
    rw [ha] at h
    simp only at h
    unfold eqSB at h
    cases hs : asStr a with
    | none => simp only [hs] at h; exact .inr (.inr h)
    | some x =>
      simp only [hs] at h
      cases ht : asStr b with
      | none => simp only [ht] at h; cases h
      | some y =>
        simp only [ht] at h
        cases h
        exact .inr (.inl ⟨x, y, asStr_some hs, asStr_some ht, by rw [xorF_ok, bytesEq_ok]⟩)

theorem binC_ok {op : BinOp} {xT : TypeId} {x y : Operand} (h : (binC E op xT (opn x) (opn y)).l s m = some v) : bin E op xT (evF s x) (evF s y) = some v := by
  have e1 : (opn x).g s = evF s x := rfl
  have e2 : (opn y).g s = evF s y := rfl
  cases op <;> simp only [binC, e1, e2] at h <;> try exact h
  case add =>
    rcases orElse1_some h with h | h
    · obtain ⟨k, n, y, h1, h2, rfl⟩ := two_some h
      rw [h1, h2, bin_int (by decide) (by decide), wrapF_ok, addF_ok]; rfl
    · exact h
  case sub =>
    obtain ⟨k, n, y, h1, h2, rfl⟩ := two_some h
    rw [h1, h2, bin_int (by decide) (by decide), wrapF_ok, subF_ok]; rfl
  case mul =>
    rcases orElse1_some h with h | h
    · obtain ⟨k, n, y, h1, h2, _, _, rfl⟩ := twoN_some h
      rw [h1, h2, bin_int (by decide) (by decide), wrapF_ok]; rfl
    · exact h
  case and =>
    rcases orElse1_some h with h | h
    · obtain ⟨k, n, y, h1, h2, l1, l2, rfl⟩ := twoN_some h
      rw [h1, h2, bin_int (by decide) (by decide)]
      simp only [arith, BitVec.toNat_and, ofInt_toNat k l1, ofInt_toNat k l2]
      rw [wrap_nat k ((kmax_kp k _).2 (Nat.and_lt_two_pow _ ((kmax_kp k _).1 l2)))]; rfl
    · exact h
  case or =>
    rcases orElse1_some h with h | h
    · obtain ⟨k, n, y, h1, h2, l1, l2, rfl⟩ := twoN_some h
      rw [h1, h2, bin_int (by decide) (by decide)]
      simp only [arith, BitVec.toNat_or, ofInt_toNat k l1, ofInt_toNat k l2]
      rw [wrap_nat k ((kmax_kp k _).2 (Nat.or_lt_two_pow ((kmax_kp k _).1 l1) ((kmax_kp k _).1 l2)))]; rfl
    · exact h
  case xor =>
    rcases orElse1_some h with h | h
    · obtain ⟨k, n, y, h1, h2, l1, l2, rfl⟩ := twoN_some h
      rw [h1, h2, bin_int (by decide) (by decide)]
      simp only [arith, BitVec.toNat_xor, ofInt_toNat k l1, ofInt_toNat k l2]
      rw [wrap_nat k ((kmax_kp k _).2 (Nat.xor_lt_two_pow ((kmax_kp k _).1 l1) ((kmax_kp k _).1 l2)))]; rfl
    · exact h
  case shl =>
    rcases orElse1_some h with h | h
    · obtain ⟨k, l, n, y, h1, h2, rfl⟩ := twoS_some h
      rw [h1, h2, wrapF_ok, minF_ok, kbits_ok]
      simp only [bin]
      rw [if_neg (by omega)]
      congr 2
    · exact h
  case shr =>
    rcases orElse1_some h with h | h
    · obtain ⟨k, l, n, y, h1, h2, rfl⟩ := twoS_some h
      rw [h1, h2, minF_ok, kbits_ok]
      simp only [bin]
      rw [if_neg (by omega)]
      congr 2
      have e : ((2 : Int) ^ min ((y : Int)).toNat k.bits) = ((2 ^ min y k.bits : Nat) : Int) := by rw [Int.natCast_pow, Int.toNat_natCast]; rfl
      rw [e]
      exact (Int.ofNat_fdiv n _).symm
    · exact h
  case lss =>
    rcases orElse1_some h with h | h
    · obtain ⟨k, n, y, h1, h2, rfl⟩ := two_some h
      rw [h1, h2, bin_int (by decide) (by decide), ltF_ok]; rfl
    · exact h
  case gtr =>
    rcases orElse1_some h with h | h
    · obtain ⟨k, n, y, h1, h2, rfl⟩ := two_some h
      rw [h1, h2, bin_int (by decide) (by decide), ltF_ok]; rfl
    · exact h
  case leq =>
    rcases orElse1_some h with h | h
    · obtain ⟨k, n, y, h1, h2, rfl⟩ := two_some h
      rw [h1, h2, bin_int (by decide) (by decide), ltF_ok, notB_ok]
      simp only [arith, cmpInt, Option.map_some, ← decide_not, Int.not_lt]
    · exact h
  case geq =>
    rcases orElse1_some h with h | h
    · obtain ⟨k, n, y, h1, h2, rfl⟩ := two_some h
      rw [h1, h2, bin_int (by decide) (by decide), ltF_ok, notB_ok]
      simp only [arith, cmpInt, Option.map_some, ← decide_not, Int.not_lt]
    · exact h
  case eql =>
    rcases eqIB_some h with ⟨k, n, y, h1, h2, rfl⟩ | ⟨a, b, h1, h2, rfl⟩ | h
    · rw [h1, h2, bin_int (by decide) (by decide)]; simp [arith, cmpInt]
    · rw [h1, h2]; simp [bin, strOp, bytes_toList]
    · exact h
  case neq =>
    rcases eqIB_some h with ⟨k, n, y, h1, h2, rfl⟩ | ⟨a, b, h1, h2, rfl⟩ | h
    · rw [h1, h2, bin_int (by decide) (by decide)]; simp [arith, cmpInt]
    · rw [h1, h2]; simp [bin, strOp, bytes_toList]
    · exact h
end
end Go.V
end

section
/-
  The operations that only answer a value, of the machine made for the kernel: memory, parts, and all of them.
-/
namespace Go.V

theorem brec {α : Type} (c : Bool) (a b : α) : @Bool.rec (fun _ => α) b a c = bif c then a else b := by cases c <;> rfl
section
variable {E : Env} {s : Slots} {m : Mem} {v : AVal}

theorem ld1b_some {o : Option Block} {ext off : Nat} (h : ld1b o ext off = some v) : ∃ blk, o = some blk ∧ blk.cells.length = ext ∧ blk.cells[off]? = some v := by
  cases o with
  | none => cases h
  | some blk =>
    obtain ⟨ty, cells, fz⟩ := blk
    have h' : (@Bool.rec (fun _ => Option AVal) none (nthF cells off) (Nat.beq (lenF cells) ext)) = some v := h
    cases hb : Nat.beq (lenF cells) ext with
    | false => rw [hb] at h'; cases h'
    | true =>
      rw [hb] at h'
      rw [nbeq, decide_eq_true_eq, lenF_ok] at hb
      exact ⟨_, rfl, hb, by rw [← nthF_ok]; exact h'⟩

theorem ld1_ok {x : AVal} (h : ld1 x m = some v) : readCells m x 1 = some [v] := by
  unfold ld1 at h
  cases hp : asPtr x with
  | no => rw [hp] at h; cases h
  | ptr b ext off =>
    rw [hp] at h
    rw [asPtr_ptr hp]
    obtain ⟨blk, h1, h2, h3⟩ := ld1b_some h
    rw [mget_ok] at h1
    simp only [readCells, h1, nbeq, h2, decide_true, cond_true]
    exact lget_one h3
  | iptr cells =>
    rw [hp] at h
    rw [asPtr_iptr hp]
    simp only [readCells]
    exact lget_one (by rw [← nthF_ok]; exact h)

theorem ldN_ok {n : Nat} {x : AVal} (h : ldN n x m = some v) : ∃ cs, readCells m x n = some cs ∧ v = .agg cs := by
  unfold ldN at h
  cases hp : asPtr x with
  | no => rw [hp] at h; cases h
  | ptr b ext off =>
    rw [hp] at h
    rw [asPtr_ptr hp]
    have h' : ldNb (mget m b) n ext off = some v := h
    rw [mget_ok] at h'
    cases hg : m.get b with
    | none => rw [hg] at h'; cases h'
    | some blk =>
      obtain ⟨ty, cells, fz⟩ := blk
      rw [hg] at h'
      have h2 : (bif Nat.beq (lenF cells) ext then (bif Nat.ble (Nat.add off n) ext then some (AVal.agg (takeF n (dropF off cells))) else none) else none) = some v := h'
      rw [nbeq, nble, lenF_ok, cond_eq_ite, cond_eq_ite] at h2
      simp only [decide_eq_true_eq] at h2
      split at h2
      · rename_i hl
        split at h2
        · rename_i hle
          cases h2
          have hle : off + n ≤ cells.length := by rw [hl]; exact hle
          refine ⟨_, ?_, rfl⟩
          simp only [readCells, hg, nbeq, hl, decide_true, cond_true, takeF_ok, dropF_ok]
          exact lget_of_le hle
        · cases h2
      · cases h2
  | iptr cells =>
    rw [hp] at h
    rw [asPtr_iptr hp]
    have h2 : (bif Nat.ble n (lenF cells) then some (AVal.agg (takeF n cells)) else none) = some v := h
    rw [nble, lenF_ok, cond_eq_ite] at h2
    simp only [decide_eq_true_eq] at h2
    split at h2
    · rename_i hle
      cases h2
      refine ⟨_, ?_, rfl⟩
      simp only [readCells, takeF_ok]
      exact (lget_of_le (off := 0) (by omega)).trans (by simp)
    · cases h2

theorem loadC_ok {t : TypeId} {x : GC} (h : (loadC E t x).l s m = some v) : ∃ vt, E.ty.get t = some vt ∧ (readCells m (x.g s) vt.size).bind (mkVal vt) = some v := by
  unfold loadC at h
  split at h
  · rename_i vt hv
    refine ⟨vt, hv, ?_⟩
    rw [cond_eq_ite, cond_eq_ite, nbeq] at h
    split at h
    · rename_i ha
      obtain ⟨cs, h1, rfl⟩ := ldN_ok h
      rw [h1]; simp [mkVal, ha]
    · rename_i ha
      split at h
      · rename_i h1
        simp only [decide_eq_true_eq] at h1
        rw [h1, ld1_ok h]; simp [mkVal, ha]
      · cases h
  · cases h

theorem load_ok {t : TypeId} {x : Operand} (h : (loadC E t (opn x)).l s m = some v) : LV E m s (.load t x) v := by
  obtain ⟨vt, h1, h2⟩ := loadC_ok h
  show light E m (evF s) (.load t x) = _
  simp only [light, h1]
  have : (readCells m (evF s x) vt.size).bind (mkVal vt) = some v := h2
  rw [this]; rfl

theorem shiftF_ok {x : AVal} {n : Nat} (h : shiftF x n = some v) : shift x n = some v := by
  unfold shiftF at h
  cases hp : asPtr x with
  | no => rw [hp] at h; cases h
  | ptr b ext off => rw [hp] at h; rw [asPtr_ptr hp]; exact h
  | iptr cells =>
    rw [hp] at h; rw [asPtr_iptr hp]
    have h2 : some (AVal.iptr (dropF n cells)) = some v := h
    rw [dropF_ok] at h2; exact h2

theorem natF_ok {x : AVal} {i : Nat} (h : natF x = some i) : natOf x = some i := by
  unfold natF at h
  cases hi : asInt x with
  | no => rw [hi] at h; cases h
  | yes k n =>
    rw [hi] at h; rw [asInt_yes hi]
    cases n with
    | ofNat n => exact h
    | negSucc n => cases h

theorem shiftI_ok {x : AVal} {n size : Nat} {o : Option Nat} (h : shiftI x n size o = some v) : ∃ i, o = some i ∧ i < n ∧ shift x (i * size) = some v := by
  cases o with
  | none => cases h
  | some i =>
    have h2 : (@Bool.rec (fun _ => Option AVal) none (shiftF x (Nat.mul i size)) (Nat.blt i n)) = some v := h
    rw [brec, nblt, cond_eq_ite] at h2
    simp only [decide_eq_true_eq] at h2
    split at h2
    · rename_i hlt; exact ⟨i, rfl, hlt, shiftF_ok h2⟩
    · cases h2

theorem indexAddr_ok {t : TypeId} {x ix : Operand} (h : (indexAddrC E t (opn x) (opn ix)).l s m = some v) : LV E m s (.indexAddr t x ix) v := by
  show light E m (evF s) (.indexAddr t x ix) = _
  simp only [light]
  suffices hh : ∃ i, natOf (evF s ix) = some i ∧ elemAddr E t (evF s x) i = some v by
    obtain ⟨i, h1, h2⟩ := hh
    rw [h1]; simp [h2]
  have e1 : (opn x).g s = evF s x := rfl
  have e2 : (opn ix).g s = evF s ix := rfl
  unfold indexAddrC at h
  split at h
  · rename_i z e hv
    split at h
    · rename_i ve he
      simp only [e1, e2] at h
      unfold sliceI at h
      cases hn : natF (evF s ix) with
      | none => rw [hn] at h; cases h
      | some i =>
        rw [hn] at h
        refine ⟨i, natF_ok hn, ?_⟩
        simp only [elemAddr, hv, he]
        simp only at h
        cases hr : asRef (evF s x) with
        | no => rw [hr] at h; cases h
        | nil => rw [hr] at h; cases h
        | ref b ext off n lo ex sz =>
          rw [hr] at h; rw [asRef_ref hr]
          have h2 : (@Bool.rec (fun _ => Option AVal) none (some (AVal.ptr b ext (Nat.add off (Nat.mul i ve.size)))) (Nat.blt i n)) = some v := h
          rw [brec] at h2
          exact h2
        | imm cells n =>
          rw [hr] at h; rw [asRef_imm hr]
          have h2 : (bif Nat.blt i n && Nat.ble (Nat.mul (Nat.succ i) ve.size) (lenF cells) && Nat.blt 0 ve.size then some (AVal.iptr (dropF (Nat.mul i ve.size) cells)) else none) = some v := h
          rw [lenF_ok, dropF_ok] at h2
          exact h2
    · cases h
  · rename_i z n e hv
    split at h
    · rename_i ve he
      simp only [e1, e2] at h
      obtain ⟨i, h1, h2, h3⟩ := shiftI_ok h
      refine ⟨i, natF_ok h1, ?_⟩
      simp only [elemAddr, hv, he, nblt, h2, decide_true, cond_true]
      exact h3
    · cases h
  · cases h

theorem index_ok {t : TypeId} {x ix : Operand} (h : (indexC E t (opn x) (opn ix)).l s m = some v) : LV E m s (.index t x ix) v := by
  show light E m (evF s) (.index t x ix) = _
  simp only [light]
  suffices hh : (natOf (evF s ix)).bind (fun i => elemAt E t (evF s x) i) = some v by
    cases hn : natOf (evF s ix) with
    | none => rw [hn] at hh; cases hh
    | some i => rw [hn] at hh; simp only [Option.bind_some] at hh ⊢; rw [hh]; rfl
  have e1 : (opn x).g s = evF s x := rfl
  have e2 : (opn ix).g s = evF s ix := rfl
  unfold indexC at h
  split at h
  · rename_i nn e sz_ by_ z_ q_ hv
    split at h
    · rename_i ve he
      rw [cond_eq_ite] at h
      split at h
      · rename_i hc
        simp only [Bool.and_eq_true, Bool.not_eq_true', nbeq, decide_eq_true_eq] at hc
        simp only [e1, e2] at h
        unfold aggI at h
        cases hn : natF (evF s ix) with
        | none => rw [hn] at h; cases h
        | some i =>
          rw [hn] at h
          simp only at h
          rw [natF_ok hn, Option.bind_some]
          cases ha : asAgg (evF s x) with
          | none => rw [ha] at h; cases h
          | some cs =>
            rw [ha] at h; rw [asAgg_some ha]
            have h2 : (@Bool.rec (fun _ => Option AVal) none (nthF cs i) (Nat.blt i nn)) = some v := h
            rw [brec, nblt, cond_eq_ite, nthF_ok] at h2
            simp only [decide_eq_true_eq] at h2
            split at h2
            · rename_i hlt
              simp [elemAt, hv, he, nblt, hlt, hc.2, lget_one h2, mkVal, hc.1]
            · cases h2
      · exact h
    · cases h
  · exact h

theorem field_ok {t : TypeId} {x : Operand} {f : Nat} (h : (fieldC E t (opn x) f).l s m = some v) : LV E m s (.field t x f) v := by
  show light E m (evF s) (.field t x f) = _
  have e1 : (opn x).g s = evF s x := rfl
  unfold fieldC at h
  split at h
  · rename_i vt off hf
    rw [cond_eq_ite] at h
    split at h
    · rename_i hc
      simp only [Bool.and_eq_true, Bool.or_eq_true, nblt, nbeq, decide_eq_true_eq] at hc
      simp only [e1] at h
      unfold fieldF at h
      cases ha : asAgg (evF s x) with
      | none => rw [ha] at h; cases h
      | some cs =>
        rw [ha] at h
        have hx := asAgg_some ha
        simp only [light, hx, hf, nblt, hc.1, decide_true, cond_true]
        cases hg : vt.d.isAgg with
        | true =>
          have h2 : (@Bool.rec (fun _ => Option AVal) none (some (AVal.agg (takeF vt.size (dropF off cs)))) (Nat.ble (Nat.add off vt.size) (lenF cs))) = some v := by
            rw [hg] at h; exact h
          rw [brec, nble, lenF_ok, cond_eq_ite, takeF_ok, dropF_ok] at h2
          simp only [decide_eq_true_eq] at h2
          split at h2
          · rename_i hle
            cases h2
            rw [lget_of_le hle]; simp [mkVal, hg]
          · cases h2
        | false =>
          have h2 : nthF cs off = some v := by rw [hg] at h; exact h
          rw [nthF_ok] at h2
          have h1 : vt.size = 1 := by
            rcases hc.2 with hc2 | hc2
            · rw [hg] at hc2; cases hc2
            · exact hc2
          rw [h1, lget_one h2]; simp [mkVal, hg]
    · cases h
  · cases h

theorem len_ok {t : TypeId} {x : Operand} (h : (lenC E t (opn x)).l s m = some v) : (lenOf E t (evF s x)).map (fun (n : Nat) => AVal.int .i64 (n : Int)) = some v := by
  have e1 : (opn x).g s = evF s x := rfl
  unfold lenC at h
  split at h
  · rename_i z e hv
    simp only [e1] at h
    simp only [lenOf, hv]
    unfold slenF at h
    cases hr : asRef (evF s x) with
    | no => rw [hr] at h; cases h
    | nil => rw [hr] at h; obtain ⟨q, hq⟩ := asRef_nil hr; rw [hq]; exact h
    | ref b ext off n lo ex sz => rw [hr] at h; rw [asRef_ref hr]; exact h
    | imm cells n => rw [hr] at h; rw [asRef_imm hr]; exact h
  · exact h

theorem lightV_ok {op : Op} (h : lightV E m (evF s) op = some v) : LV E m s op v := by
  unfold lightV at h
  split at h
  · rename_i u hu; cases h; exact hu
  · cases h

theorem lc_ok (op : Op) (h : (lc E op).l s m = some v) : LV E m s op v := by
  cases op <;> try (first | exact lightV_ok h | (cases h; rfl))
  case pick c a b =>
    have h' : pickF (asBool (evF s c)) (evF s a) (evF s b) = some v := h
    show light E m (evF s) (.pick c a b) = _
    unfold pickF at h'
    cases hb : asBool (evF s c) with
    | none => rw [hb] at h'; cases h'
    | some t =>
      rw [hb] at h'
      simp only [light, asBool_some hb]
      cases t <;> (cases h'; rfl)
  case nilCheck x =>
    have h' : (@Bool.rec (fun _ => Option AVal) none (some (evF s x)) (notNil (evF s x))) = some v := h
    show light E m (evF s) (.nilCheck x) = _
    cases hb : notNil (evF s x) with
    | false => rw [hb] at h'; cases h'
    | true =>
      rw [hb] at h'
      cases h'
      rcases notNil_ok hb with ⟨b, e, o, hh⟩ | ⟨cs, hh⟩ | ⟨f, xs, ys, hh⟩ <;> simp only [light, hh]
  case binOp op xT x y yT =>
    have h' : (binC E op xT (opn x) (opn y)).l s m = some v := h
    show light E m (evF s) (.binOp op xT x y yT) = _
    simp only [light, binC_ok h']; rfl
  case unOp op xT x =>
    show light E m (evF s) (.unOp op xT x) = _
    cases op
    case not =>
      have h' : notF (asBool (evF s x)) = some v := h
      cases hb : asBool (evF s x) with
      | none => rw [hb] at h'; cases h'
      | some t =>
        rw [hb] at h'
        cases h'
        simp only [light, asBool_some hb, un, notB_ok, Option.map_some]
    case neg => exact congrArg (Option.map Light.val) (show un .neg (evF s x) = some v from h)
    case xor => exact congrArg (Option.map Light.val) (show un .xor (evF s x) = some v from h)
    case plus => exact congrArg (Option.map Light.val) (show un .plus (evF s x) = some v from h)
  case field t x f => exact field_ok h
  case fieldAddr t x f =>
    show light E m (evF s) (.fieldAddr t x f) = _
    simp only [lc] at h
    simp only [light]
    split at h
    · rename_i vt off hf
      rw [hf]
      simp only [cond_eq_ite] at h ⊢
      split at h
      · rename_i hc
        rw [if_pos hc]
        have : shift (evF s x) off = some v := shiftF_ok h
        rw [this]; rfl
      · cases h
    · cases h
  case indexAddr t x ix => exact indexAddr_ok h
  case index t x ix => exact index_ok h
  case extract x i =>
    have h' : extF (asTup (evF s x)) i = some v := h
    show light E m (evF s) (.extract x i) = _
    cases hb : asTup (evF s x) with
    | none => rw [hb] at h'; cases h'
    | some vs =>
      rw [hb] at h'
      have h2 : nthF vs i = some v := h'
      rw [nthF_ok] at h2
      simp only [light, asTup_some hb, h2]; rfl
  case load t x => exact load_ok h
  case build t parts =>
    have h' : buildVal E t (parts.toList.map fun (i, x) => (i, evF s x)) = some v := h
    show light E m (evF s) (.build t parts) = _
    simp only [light, h']; rfl
  case slice t x lo hi mx =>
    have h' : ((optNat (evF s) lo).bind fun l => (optNat (evF s) hi).bind fun h => (optNat (evF s) mx).bind fun k => sliceOp E t (evF s x) l h k) = some v := h
    show light E m (evF s) (.slice t x lo hi mx) = _
    simp only [light]
    cases h1 : optNat (evF s) lo with
    | none => rw [h1] at h'; cases h'
    | some l =>
      cases h2 : optNat (evF s) hi with
      | none => rw [h1, h2] at h'; cases h'
      | some hh =>
        cases h3 : optNat (evF s) mx with
        | none => rw [h1, h2, h3] at h'; cases h'
        | some k =>
          rw [h1, h2, h3] at h'
          simp only [Option.bind_some] at h' ⊢
          rw [h']; rfl
  case call c =>
    obtain ⟨callee, args, argTypes⟩ := c
    cases callee with
    | value f => exact lightV_ok h
    | invoke r n => exact lightV_ok h
    | builtin b =>
      cases b <;> try exact lightV_ok h
      case len =>
        simp only [lc] at h
        show light E m (evF s) _ = _
        simp only [light]
        split at h
        · rename_i x t h1 h2
          rw [h1, h2]
          have := len_ok h
          simp only
          cases hl : lenOf E t (evF s x) with
          | none => rw [hl] at this; cases this
          | some n => rw [hl] at this; cases this; rfl
        · cases h
end
end Go.V
end

section
/-
  Operations, code and calls of the machine made for the kernel: what they answer, the abstract machine answers.
-/
namespace Go.V

/-- What a call of the machine answers, the abstract machine answers. -/
def CfOk (E : Env) (cf : CF) : Prop := ∀ f args m v m', cf f args m = .ok v m' → ∃ n, call E n f args m = some (v, m')

section
variable {E : Env} {f nt : Nat} {s : Slots} {m : Mem} {cf : CF} {k : KT}

theorem dst_ok (hnt : nt ≤ 256) (d : Option Nat) (v : AVal) : (dst nt d).d v k s m = .stuck ∨ ∃ s', St.put ⟨f, nt, s, m⟩ d v = some ⟨f, nt, s', m⟩ ∧ (dst nt d).d v k s m = k s' m := by
  cases d with
  | none => exact .inr ⟨s, rfl, rfl⟩
  | some d =>
    simp only [dst, St.put]
    cases h : Nat.blt d nt with
    | false => exact .inl rfl
    | true =>
      rw [nblt, decide_eq_true_eq] at h
      refine .inr ⟨Slots.put s d v, rfl, ?_⟩
      simp only [cond_true]
      rw [sp_ok d (by omega)]

/-- An operation's closure. -/
def OpOk (E : Env) (f nt : Nat) (ops : List Oper) (o : Oper) (oc : OC) : Prop :=
  ∀ cf, CfOk E cf → ∀ k s m, oc.run cf k s m = .stuck ∨ ∃ n s' m', runOp E (call E n) ops ⟨f, nt, s, m⟩ o = some ⟨f, nt, s', m'⟩ ∧ oc.run cf k s m = k s' m'

/-- The same of an operation that is wanted. -/
def PlainOk (E : Env) (f nt : Nat) (o : Oper) (oc : OC) : Prop :=
  ∀ cf, CfOk E cf → ∀ k s m, oc.run cf k s m = .stuck ∨ ∃ n s' m', oc.run cf k s m = k s' m' ∧ ∀ ops, wanted ops ⟨f, nt, s, m⟩ o = some true → runOp E (call E n) ops ⟨f, nt, s, m⟩ o = some ⟨f, nt, s', m'⟩

theorem run_val {call : CallFn} {ops : List Oper} {o : Oper} {v : AVal} {s' : Slots} (hw : wanted ops ⟨f, nt, s, m⟩ o = some true) (hh : isHeavy o.op = false) (hl : light E m (evF s) o.op = some (.val v)) (hp : St.put ⟨f, nt, s, m⟩ o.dst v = some ⟨f, nt, s', m⟩) :
    runOp E call ops ⟨f, nt, s, m⟩ o = some ⟨f, nt, s', m⟩ := by
  unfold runOp
  rw [hw]
  simp only [hh, cond_false]
  rw [← evF_ok f nt s m, hl]
  exact hp

theorem run_new {call : CallFn} {ops : List Oper} {o : Oper} {blk : Block} {mk : NewV} {s' : Slots} (hw : wanted ops ⟨f, nt, s, m⟩ o = some true) (hh : isHeavy o.op = false) (hl : light E m (evF s) o.op = some (.new blk mk))
    (hn : m.next < 1048576) (hp : St.put ⟨f, nt, s, m.add blk⟩ o.dst (mk.at m.next) = some ⟨f, nt, s', m.add blk⟩) :
    runOp E call ops ⟨f, nt, s, m⟩ o = some ⟨f, nt, s', m.add blk⟩ := by
  unfold runOp
  rw [hw]
  simp only [hh, cond_false]
  rw [← evF_ok f nt s m, hl]
  simp only [nblt, hn, decide_true, cond_true]
  exact hp

theorem run_heavy {call : CallFn} {ops : List Oper} {o : Oper} {v : AVal} {m' : Mem} {s' : Slots} (hw : wanted ops ⟨f, nt, s, m⟩ o = some true) (hh : isHeavy o.op = true) (hl : heavy E call m (evF s) o.op = some (v, m')) (hp : St.put ⟨f, nt, s, m'⟩ o.dst v = some ⟨f, nt, s', m'⟩) :
    runOp E call ops ⟨f, nt, s, m⟩ o = some ⟨f, nt, s', m'⟩ := by
  unfold runOp
  rw [hw]
  simp only [hh, cond_true]
  rw [← evF_ok f nt s m, hl]
  exact hp

theorem forceN_ok (n : Nat) (g : Nat → XR) : forceN n g = g n := by cases n <;> rfl
theorem mkAt_ok (id : Nat) (mk : NewV) : mkAt id mk = mk.at id := by cases mk <;> rfl

theorem newF_ok (hnt : nt ≤ 256) (blk : Block) (mk : NewV) (d : Option Nat) : newF blk mk (dst nt d) k s m = .stuck ∨ (m.next < 1048576 ∧ ∃ s', St.put ⟨f, nt, s, m.add blk⟩ d (mk.at m.next) = some ⟨f, nt, s', m.add blk⟩ ∧ newF blk mk (dst nt d) k s m = k s' (m.add blk)) := by
  obtain ⟨bl, nx⟩ := m
  have e : newF blk mk (dst nt d) k s ⟨bl, nx⟩ = @Bool.rec (fun _ => XR) .stuck (forceN nx (fun id => (dst nt d).d (mkAt id mk) k s ⟨(hp id).p bl (some (.blk blk)), Nat.succ id⟩)) (Nat.blt nx 1048576) := rfl
  rw [e, brec, forceN_ok, mkAt_ok, nblt, cond_eq_ite]
  by_cases h : nx < 1048576
  · rw [if_pos (by simpa using h)]
    have e2 : (⟨(hp nx).p bl (some (.blk blk)), Nat.succ nx⟩ : Mem) = Mem.add ⟨bl, nx⟩ blk := by
      unfold Mem.add
      exact congrArg (fun z => (⟨z, nx + 1⟩ : Mem)) (hp_ok nx bl (.blk blk))
    rw [e2]
    rcases dst_ok (f := f) (k := k) (s := s) (m := Mem.add ⟨bl, nx⟩ blk) hnt d (mk.at nx) with h1 | ⟨s', h1, h2⟩
    · exact .inl h1
    · exact .inr ⟨h, s', h1, h2⟩
  · rw [if_neg (by simpa using h)]; exact .inl rfl

theorem fin_ok (hnt : nt ≤ 256) {d : Option Nat} {r : Option AVal} : fin (dst nt d) r k s m = .stuck ∨ ∃ v s', r = some v ∧ St.put ⟨f, nt, s, m⟩ d v = some ⟨f, nt, s', m⟩ ∧ fin (dst nt d) r k s m = k s' m := by
  cases r with
  | none => exact .inl rfl
  | some v =>
    rcases dst_ok (f := f) (k := k) (s := s) (m := m) hnt d v with h | ⟨s', h1, h2⟩
    · exact .inl h
    · exact .inr ⟨v, s', rfl, h1, h2⟩

theorem newG_ok (hnt : nt ≤ 256) {o : Oper} (hh : isHeavy o.op = false) (oc : OC) (he : ∀ cf k s m, oc.run cf k s m = newG (newOf E m (evF s) o.op) (dst nt o.dst) k s m) : PlainOk E f nt o oc := by
  intro cf _ k s m
  rw [he]
  cases hr : newOf E m (evF s) o.op with
  | none => exact .inl rfl
  | some p =>
    obtain ⟨blk, mk⟩ := p
    rcases newF_ok (f := f) (k := k) (s := s) (m := m) hnt blk mk o.dst with h | ⟨h0, s', h1, h2⟩
    · exact .inl h
    · refine .inr ⟨0, s', m.add blk, h2, fun ops hw => run_new hw hh ?_ h0 h1⟩
      unfold newOf at hr
      split at hr
      · rename_i b k' hl; cases hr; exact hl
      · cases hr

theorem lightC_ok (hnt : nt ≤ 256) {o : Oper} (hh : isHeavy o.op = false) : PlainOk E f nt o (lightC E o.op (dst nt o.dst)) := by
  have gen : ∀ oc : OC, (∀ cf k s m, oc.run cf k s m = fin (dst nt o.dst) ((lc E o.op).l s m) k s m) → PlainOk E f nt o oc := by
    intro oc he cf _ k s m
    rw [he]
    rcases fin_ok (f := f) (k := k) (s := s) (m := m) (d := o.dst) (r := (lc E o.op).l s m) hnt with h | ⟨v, s', h0, h1, h2⟩
    · exact .inl h
    · exact .inr ⟨0, s', m, h2, fun ops hw => run_val hw hh (lc_ok _ h0) h1⟩
  obtain ⟨d, op, ty, pos, after, guard⟩ := o
  cases op <;> try exact gen _ (fun _ _ _ _ => rfl)
  case alloc t =>
    intro cf _ k s m
    simp only [lightC]
    cases ht : E.ty.get t with
    | none => exact .inl rfl
    | some vt =>
      simp only
      rcases newF_ok (f := f) (k := k) (s := s) (m := m) hnt ⟨t, vt.zero, 0⟩ (.ptr (lenF vt.zero)) d with h | ⟨h0, s', h1, h2⟩
      · exact .inl h
      · refine .inr ⟨0, s', _, h2, fun ops hw => run_new hw rfl ?_ h0 h1⟩
        simp only [light, ht, lenF_ok]
  case box t x =>
    intro cf _ k s m
    have e : (lightC E (.box t x) (dst nt d)).run cf k s m = boxF t (cellsF (evF s x)) (dst nt d) k s m := rfl
    rw [e, cellsF_ok]
    cases hc : (evF s x).cells? with
    | none => exact .inl rfl
    | some cs =>
      have e2 : boxF t (some cs) (dst nt d) k s m = newF ⟨t, cs, 0⟩ (.ptr (lenF cs)) (dst nt d) k s m := rfl
      rw [e2]
      rcases newF_ok (f := f) (k := k) (s := s) (m := m) hnt ⟨t, cs, 0⟩ (.ptr (lenF cs)) d with h | ⟨h0, s', h1, h2⟩
      · exact .inl h
      · refine .inr ⟨0, s', _, h2, fun ops hw => run_new hw rfl ?_ h0 h1⟩
        simp only [light, hc, lenF_ok]
  case buildSlice => exact newG_ok hnt hh _ (fun _ _ _ _ => rfl)
  case makeSlice => exact newG_ok hnt hh _ (fun _ _ _ _ => rfl)

theorem argsC_ok : ∀ l : List Operand, (argsC l).a s = l.map (evF s)
  | [] => rfl
  | x :: l => congrArg (evF s x :: ·) (argsC_ok l)

theorem leq_none {call : CallFn} : Leq (fun _ _ _ => none) call := fun _ _ _ _ h => by cases h

theorem call_run (hnt : nt ≤ 256) (hcf : CfOk E cf) {o : Oper} {g : FuncId} {args : List AVal} (hh : isHeavy o.op = true) (hl : ∀ call : CallFn, heavy E call m (evF s) o.op = call g args m) :
    callF1 (cf g args m) (dst nt o.dst) k s = .stuck ∨ ∃ n s' m', callF1 (cf g args m) (dst nt o.dst) k s = k s' m' ∧ ∀ ops, wanted ops ⟨f, nt, s, m⟩ o = some true → runOp E (call E n) ops ⟨f, nt, s, m⟩ o = some ⟨f, nt, s', m'⟩ := by
  cases hr : cf g args m with
  | stuck => exact .inl rfl
  | ok v m' =>
    have e : callF1 (.ok v m') (dst nt o.dst) k s = (dst nt o.dst).d v k s m' := rfl
    rw [e]
    obtain ⟨n, hn⟩ := hcf _ _ _ _ _ hr
    rcases dst_ok (f := f) (k := k) (s := s) (m := m') hnt o.dst v with h | ⟨s', h1, h2⟩
    · exact .inl h
    · exact .inr ⟨n, s', m', h2, fun ops hw => run_heavy hw hh (by rw [hl]; exact hn) h1⟩

theorem heavyC_ok (hnt : nt ≤ 256) {o : Oper} (hh : isHeavy o.op = true) : PlainOk E f nt o (heavyC E o.op (dst nt o.dst)) := by
  have gen : ∀ oc : OC, (∀ cf k s m, oc.run cf k s m = heavyG (heavy E (fun _ _ _ => none) m (evF s) o.op) (dst nt o.dst) k s) → PlainOk E f nt o oc := by
    intro oc he cf _ k s m
    rw [he]
    cases hr : heavy E (fun _ _ _ => none) m (evF s) o.op with
    | none => exact .inl rfl
    | some p =>
      obtain ⟨v, m'⟩ := p
      rcases dst_ok (f := f) (k := k) (s := s) (m := m') hnt o.dst v with h | ⟨s', h1, h2⟩
      · exact .inl h
      · exact .inr ⟨0, s', m', h2, fun ops hw => run_heavy hw hh (heavy_mono leq_none hr) h1⟩
  obtain ⟨d, op, ty, pos, after, guard⟩ := o
  cases op <;> try exact gen _ (fun _ _ _ _ => rfl)
  case store t a v =>
    intro cf _ k s m
    simp only [heavyC]
    cases ht : E.ty.get t with
    | none => exact .inl rfl
    | some vt =>
      have e1 : (opn a).g s = evF s a := rfl
      have e2 : (opn v).g s = evF s v := rfl
      simp only [e1, e2, cellsF_ok]
      cases hc : (evF s v).cells? with
      | none => exact .inl rfl
      | some cs =>
        cases ha : asPtr (evF s a) with
        | no => left; unfold storeF; simp only [ha]
        | iptr cells => left; unfold storeF; simp only [ha]
        | ptr b ext off =>
          have e3 : storeF vt.size (evF s a) (some cs) (dst nt d) k s m = wrF (mget m b) b ext off vt.size cs (dst nt d) k s m := by
            unfold storeF; simp only [ha]
          rw [e3, mget_ok]
          cases hg : m.get b with
          | none => exact .inl rfl
          | some blk =>
            obtain ⟨bty, cells, fz⟩ := blk
            have e4 : wrF (some ⟨bty, cells, fz⟩) b ext off vt.size cs (dst nt d) k s m = @Bool.rec (fun _ => XR) .stuck (@Bool.rec (fun _ => XR) .stuck (@Bool.rec (fun _ => XR) .stuck (@Bool.rec (fun _ => XR) .stuck
              ((dst nt d).d (.tup []) k s (mupd m b ⟨bty, lputF cells off cs, fz⟩)) (Nat.ble (Nat.add off vt.size) ext)) (Nat.ble fz off)) (Nat.beq (lenF cells) ext)) (Nat.beq (lenF cs) vt.size) := rfl
            rw [e4]
            simp only [brec, nbeq, nble, cond_eq_ite, decide_eq_true_eq, lenF_ok]
            by_cases c1 : cs.length = vt.size
            · rw [if_pos c1]
              by_cases c2 : cells.length = ext
              · rw [if_pos c2]
                by_cases c3 : fz ≤ off
                · rw [if_pos c3]
                  by_cases c4 : off + vt.size ≤ ext
                  · rw [if_pos (show Nat.add off vt.size ≤ ext from c4), mupd_ok, lputF_ok]
                    rcases dst_ok (f := f) (k := k) (s := s) (m := m.upd b ⟨bty, lput cells off cs, fz⟩) hnt d (.tup []) with h | ⟨s', h1, h2⟩
                    · exact .inl h
                    · refine .inr ⟨0, s', _, h2, fun ops hw => run_heavy hw hh ?_ h1⟩
                      simp only [heavy, ht, asPtr_ptr ha, hc, nbeq, c1, decide_true, cond_true, writeCells, hg, c2, nble, c3, c4, Bool.and_self, Option.map_some]
                  · rw [if_neg (show ¬ Nat.add off vt.size ≤ ext from c4)]; exact .inl rfl
                · rw [if_neg c3]; exact .inl rfl
              · rw [if_neg c2]; exact .inl rfl
            · rw [if_neg c1]; exact .inl rfl
  case call c =>
    obtain ⟨callee, args, argTypes⟩ := c
    cases callee with
    | invoke r n => exact gen _ (fun _ _ _ _ => rfl)
    | builtin b => exact gen _ (fun _ _ _ _ => rfl)
    | value x =>
      have dyn : ∀ cf k s m, CfOk E cf → callG (evF s x) ((argsC args.toList).a s) cf (dst nt d) k s m = .stuck ∨ ∃ n s' m', callG (evF s x) ((argsC args.toList).a s) cf (dst nt d) k s m = k s' m' ∧
          ∀ ops, wanted ops ⟨f, nt, s, m⟩ ⟨d, .call ⟨.value x, args, argTypes⟩, ty, pos, after, guard⟩ = some true → runOp E (call E n) ops ⟨f, nt, s, m⟩ ⟨d, .call ⟨.value x, args, argTypes⟩, ty, pos, after, guard⟩ = some ⟨f, nt, s', m'⟩ := by
        intro cf k s m hcf
        cases hx : evF s x <;> try exact .inl rfl
        rename_i g first captured
        have e : callG (.fn g first captured) ((argsC args.toList).a s) cf (dst nt d) k s m = callF1 (cf g (first ++ (argsC args.toList).a s ++ captured) m) (dst nt d) k s := rfl
        rw [e, argsC_ok]
        exact call_run hnt hcf (o := ⟨d, .call ⟨.value x, args, argTypes⟩, ty, pos, after, guard⟩) rfl fun call => by simp only [heavy, hx]
      cases x with
      | func g =>
        intro cf hcf k s m
        have e : (heavyC E (.call ⟨.value (.func g), args, argTypes⟩) (dst nt d)).run cf k s m = callF1 (cf g ((argsC args.toList).a s) m) (dst nt d) k s := rfl
        rw [e, argsC_ok]
        refine call_run hnt hcf (o := ⟨d, .call ⟨.value (.func g), args, argTypes⟩, ty, pos, after, guard⟩) rfl fun call => ?_
        have hx : evF s (.func g) = .fn g [] [] := rfl
        simp only [heavy, hx, List.nil_append, List.append_nil]
      | tmp t => intro cf hcf k s m; exact dyn cf k s m hcf
      | const v => intro cf hcf k s m; exact dyn cf k s m hcf
      | global g => intro cf hcf k s m; exact dyn cf k s m hcf

theorem plainC_ok (hnt : nt ≤ 256) (o : Oper) : PlainOk E f nt o (plainC E nt o) := by
  unfold plainC
  cases hh : isHeavy o.op with
  | true => simp only [cond_true]; exact heavyC_ok hnt hh
  | false =>
    simp only [cond_false]
    have mv : ∀ (x : Operand) (d : Nat), o.dst = some d → (∀ m s, light E m (evF s) o.op = some (.val (evF s x))) → PlainOk E f nt o (bif Nat.blt d nt then ⟨fun _ k s m => k ((sp d).p s ((opn x).g s)) m⟩ else ⟨fun _ _ _ _ => .stuck⟩) := by
      intro x d hd hl cf _ k s m
      cases hb : Nat.blt d nt with
      | false => exact .inl rfl
      | true =>
        have hlt := hb
        rw [nblt, decide_eq_true_eq] at hlt
        have e : (sp d).p s ((opn x).g s) = Slots.put s d (evF s x) := sp_ok d (by omega) s _
        refine .inr ⟨0, Slots.put s d (evF s x), m, ?_, fun ops hw => run_val hw hh (hl m s) ?_⟩
        · simp only [cond_true, e]
        · rw [hd]; simp only [St.put, hb, cond_true]
    split
    · rename_i x d h1 h2; exact mv x d h2 fun m s => by rw [h1]; rfl
    · rename_i x d h1 h2; exact mv x d h2 fun m s => by rw [h1]; rfl
    · exact lightC_ok hnt hh

theorem opC_ok (hnt : nt ≤ 256) (ops : List Oper) (o : Oper) : OpOk E f nt ops o (opC E nt ops o) := by
  intro cf hcf k s m
  unfold opC
  split
  · rename_i hg
    rcases plainC_ok (E := E) (f := f) hnt o cf hcf k s m with h | ⟨n, s', m', h1, h2⟩
    · exact .inl h
    · exact .inr ⟨n, s', m', h2 ops (by simp only [wanted, hg]), h1⟩
  · rename_i j want hg
    split
    · rename_i d _ _ _ _ _ hj
      have e : (opn (.tmp d)).g s = St.slot ⟨f, nt, s, m⟩ d := opn_ok (.tmp d) f nt s m
      simp only [e]
      have skip : wanted ops ⟨f, nt, s, m⟩ o = some false → (dst nt o.dst).d (.tup []) k s m = .stuck ∨ ∃ n s' m', runOp E (call E n) ops ⟨f, nt, s, m⟩ o = some ⟨f, nt, s', m'⟩ ∧ (dst nt o.dst).d (.tup []) k s m = k s' m' := by
        intro hw
        rcases dst_ok (f := f) (k := k) (s := s) (m := m) hnt o.dst (.tup []) with h | ⟨s', h1, h2⟩
        · exact .inl h
        · exact .inr ⟨0, s', m, by unfold runOp; rw [hw]; exact h1, h2⟩
      cases hv : asGuard (St.slot ⟨f, nt, s, m⟩ d) with
      | no => exact .inl rfl
      | tup =>
        obtain ⟨vs, hvs⟩ := asGuard_tup hv
        exact skip (by simp only [wanted, hg, hj, hvs])
      | bool b =>
        have hb := asGuard_bool hv
        have hw : wanted ops ⟨f, nt, s, m⟩ o = some (b == want) := by simp only [wanted, hg, hj, hb]
        have e2 : guardF (.bool b) want (plainC E nt o) (dst nt o.dst) cf k s m = @Bool.rec (fun _ => XR) ((plainC E nt o).run cf k s m) ((dst nt o.dst).d (.tup []) k s m) (xorF b want) := rfl
        rw [e2, xorF_ok]
        cases hx : (b != want) with
        | true => exact skip (by rw [hw]; cases b <;> cases want <;> first | rfl | cases hx)
        | false =>
          rcases plainC_ok (E := E) (f := f) hnt o cf hcf k s m with h | ⟨n, s', m', h1, h2⟩
          · exact .inl h
          · exact .inr ⟨n, s', m', h2 ops (by rw [hw]; cases b <;> cases want <;> first | rfl | cases hx), h1⟩
    · exact .inl rfl

theorem lenOther_none {o : Oper} {call : CallFn} {ops : List Oper} {st : St} (h : lenOther E o = true) : runOp E call ops st o = none := by
  obtain ⟨d, op, ty, pos, after, guard⟩ := o
  unfold lenOther at h
  split at h
  · cases h
  · rename_i hg
    simp only at hg
    subst hg
    split at h
    · rename_i args argTypes hop
      simp only at hop
      subst hop
      split at h
      · rename_i x t hx ht
        split at h
        · rename_i sz by_ z q hty
          unfold runOp
          have hh : isHeavy (.call ⟨.builtin .len, args, argTypes⟩) = false := rfl
          simp only [wanted, hh, cond_false, light, hx, ht, lenOf, hty, Option.map_none]
        · cases h
      · cases h
    · cases h

/-- An operation of a region that stands in the text's order. -/
theorem oneC_ok (hnt : nt ≤ 256) (hcf : CfOk E cf) (ops : List Oper) (o : Oper) (k : KT) (s : Slots) (m : Mem) : (oneC E nt ops o).run cf k s m = .stuck ∨ ∃ n s' m', runOne E (call E n) ops ⟨f, nt, s, m⟩ o = some ⟨f, nt, s', m'⟩ ∧ (oneC E nt ops o).run cf k s m = k s' m' := by
  unfold oneC
  cases hc : isComm o.op with
  | true =>
    simp only [cond_true]
    unfold commC
    split
    · rename_i hg
      simp only
      cases hr : commOp E m (evF s) o.op with
      | none => exact .inl rfl
      | some p =>
        obtain ⟨v, m'⟩ := p
        rcases dst_ok (f := f) (k := k) (s := s) (m := m') hnt o.dst v with h | ⟨s', h1, h2⟩
        · exact .inl h
        · refine .inr ⟨0, s', m', ?_, h2⟩
          unfold runOne
          rw [hc, cond_true]
          simp only [hg]
          rw [← evF_ok f nt s m, hr]
          exact h1
    · exact .inl rfl
  | false =>
    simp only [cond_false]
    cases hl : lenOther E o with
    | false =>
      simp only [cond_false]
      rcases opC_ok (E := E) (f := f) hnt ops o cf hcf k s m with h | ⟨n, s', m', h1, h2⟩
      · exact .inl h
      · refine .inr ⟨n, s', m', ?_, h2⟩
        unfold runOne
        rw [hc, cond_false, h1]
    | true =>
      simp only [cond_true]
      have hn := fun call => lenOther_none (call := call) (ops := ops) (st := ⟨f, nt, s, m⟩) hl
      have key : ∀ oc, oc = lenChC E nt o → oc.run cf k s m = .stuck ∨ ∃ s', lenChan E ⟨f, nt, s, m⟩ o = some ⟨f, nt, s', m⟩ ∧ oc.run cf k s m = k s' m := by
        intro oc hoc
        unfold lenOther at hl
        split at hl
        · cases hl
        · rename_i hg
          split at hl
          · rename_i args argTypes hop
            split at hl
            · rename_i x t hx ht
              unfold lenChC at hoc
              rw [hop] at hoc
              simp only [hx, ht] at hoc
              subst hoc
              simp only
              rcases fin_ok (f := f) (k := k) (s := s) (m := m) (d := o.dst) (r := lenChV E.P t ((opn x).g s) m) hnt with h | ⟨v, s', h0, h1, h2⟩
              · exact .inl h
              · refine .inr ⟨s', ?_, h2⟩
                rw [opn_ok x f nt s m] at h0
                unfold lenChan
                simp only [hg, hop, hx, ht]
                unfold lenChV at h0
                split at h0
                · rename_i b hb
                  rw [hb]
                  simp only
                  split at h0
                  · rename_i cap q hq
                    rw [cond_eq_ite] at h0
                    split at h0
                    · rename_i hty
                      cases h0
                      simp only [hq, hty, cond_true]
                      exact h1
                    · cases h0
                  · cases h0
                · cases h0
            · cases hl
          · cases hl
      rcases key _ rfl with h | ⟨s', h1, h2⟩
      · exact .inl h
      · refine .inr ⟨0, s', m, ?_, h2⟩
        unfold runOne
        rw [hc, cond_false, hn]
        exact h1
end
end Go.V
end

section
/-
  The machine made for the kernel: what a call of it answers, the abstract machine answers.
-/
namespace Go.V

section
variable {E : Env} {f nt : Nat} {s : Slots} {m : Mem} {cf : CF} {k : KT}

theorem seqC_ok (hnt : nt ≤ 256) (hcf : CfOk E cf) (ops : List Oper) : ∀ (l : List Oper) (k : KT) (s : Slots) (m : Mem), (seqC E nt ops l).run cf k s m = .stuck ∨
    ∃ s' m', vops E ops l (fun st => st = ⟨f, nt, s', m'⟩) ⟨f, nt, s, m⟩ ∧ (seqC E nt ops l).run cf k s m = k s' m'
  | [], k, s, m => .inr ⟨s, m, vops_nil rfl, rfl⟩
  | o :: l, k, s, m => by
    have e : (seqC E nt ops (o :: l)).run cf k s m = (oneC E nt ops o).run cf ((seqC E nt ops l).run cf k) s m := rfl
    rw [e]
    rcases oneC_ok (E := E) (f := f) hnt hcf ops o ((seqC E nt ops l).run cf k) s m with h | ⟨n, s', m', h1, h2⟩
    · exact .inl h
    · rw [h2]
      rcases seqC_ok hnt hcf ops l k s' m' with h | ⟨s2, m2, h3, h4⟩
      · exact .inl h
      · exact .inr ⟨s2, m2, vops_one h1 h3, h4⟩

def vplan (E : Env) (ops : List Oper) (l : List RStep) (Q : St → Prop) (st : St) : Prop := ∃ n st', runPlan E (call E n) ops l st = some st' ∧ Q st'

theorem planC_ok (hnt : nt ≤ 256) (hcf : CfOk E cf) (ops : List Oper) : ∀ (l : List RStep) (k : KT) (s : Slots) (m : Mem), (planC E nt ops l).run cf k s m = .stuck ∨
    ∃ s' m', vplan E ops l (fun st => st = ⟨f, nt, s', m'⟩) ⟨f, nt, s, m⟩ ∧ (planC E nt ops l).run cf k s m = k s' m'
  | [], k, s, m => .inr ⟨s, m, ⟨0, _, rfl, rfl⟩, rfl⟩
  | .run j :: l, k, s, m => by
    simp only [planC]
    cases ho : ops[j]? with
    | none => exact .inl rfl
    | some o =>
      simp only
      rcases opC_ok (E := E) (f := f) hnt ops o cf hcf ((planC E nt ops l).run cf k) s m with h | ⟨n, s', m', h1, h2⟩
      · exact .inl h
      · rw [h2]
        rcases planC_ok hnt hcf ops l k s' m' with h | ⟨s2, m2, ⟨n2, st2, h3, h3'⟩, h4⟩
        · exact .inl h
        · refine .inr ⟨s2, m2, ⟨max n n2, st2, ?_, h3'⟩, h4⟩
          simp only [runPlan, ho, runOp_mono (call_mono (Nat.le_max_left n n2)) h1]
          exact runPlan_mono (call_mono (Nat.le_max_right n n2)) h3
  | .chk j :: l, k, s, m => by
    simp only [planC]
    cases ho : ops[j]? with
    | none => exact .inl rfl
    | some o =>
      simp only
      cases hd : o.dst with
      | none => exact .inl rfl
      | some d =>
        simp only
        have rest := planC_ok hnt hcf ops l k s m
        have e0 : ∀ d : Nat, (opn (.tmp d)).g s = St.slot ⟨f, nt, s, m⟩ d := fun d => opn_ok (.tmp d) f nt s m
        have skip : wanted ops ⟨f, nt, s, m⟩ o = some false → (planC E nt ops l).run cf k s m = .stuck ∨ ∃ s' m', vplan E ops (.chk j :: l) (fun st => st = ⟨f, nt, s', m'⟩) ⟨f, nt, s, m⟩ ∧ (planC E nt ops l).run cf k s m = k s' m' := by
          intro hw
          rcases rest with h | ⟨s2, m2, ⟨n2, st2, h3, h3'⟩, h4⟩
          · exact .inl h
          · exact .inr ⟨s2, m2, ⟨n2, st2, by simp only [runPlan, ho, hw]; exact h3, h3'⟩, h4⟩
        have check : wanted ops ⟨f, nt, s, m⟩ o = some true → chkF ((lc E o.op).l s m) (St.slot ⟨f, nt, s, m⟩ d) ((planC E nt ops l).run cf k) s m = .stuck ∨
            ∃ s' m', vplan E ops (.chk j :: l) (fun st => st = ⟨f, nt, s', m'⟩) ⟨f, nt, s, m⟩ ∧ chkF ((lc E o.op).l s m) (St.slot ⟨f, nt, s, m⟩ d) ((planC E nt ops l).run cf k) s m = k s' m' := by
          intro hw
          cases hr : (lc E o.op).l s m with
          | none => exact .inl rfl
          | some u =>
            simp only [chkF]
            cases hs : AVal.same u (St.slot ⟨f, nt, s, m⟩ d) with
            | false => exact .inl rfl
            | true =>
              simp only [cond_true]
              rcases rest with h | ⟨s2, m2, ⟨n2, st2, h3, h3'⟩, h4⟩
              · exact .inl h
              · refine .inr ⟨s2, m2, ⟨n2, st2, ?_, h3'⟩, h4⟩
                have hl : light E m (St.ev ⟨f, nt, s, m⟩) o.op = some (.val u) := by rw [← evF_ok]; exact lc_ok _ hr
                simp only [runPlan, ho, hw, hl, hd, hs, cond_true]
                exact h3
        cases hg : o.guard with
        | none =>
          simp only [e0]
          exact check (by simp only [wanted, hg])
        | some iw =>
          obtain ⟨i, want⟩ := iw
          simp only
          split
          · rename_i e _ _ _ _ _ hj
            simp only [e0]
            cases hv : asGuard (St.slot ⟨f, nt, s, m⟩ e) with
            | no => exact .inl rfl
            | tup =>
              obtain ⟨vs, hvs⟩ := asGuard_tup hv
              exact skip (by simp only [wanted, hg, hj, hvs])
            | bool b =>
              have hb := asGuard_bool hv
              have hw : wanted ops ⟨f, nt, s, m⟩ o = some (b == want) := by simp only [wanted, hg, hj, hb]
              simp only [chkG, xorF_ok]
              cases hx : (b != want) with
              | true => exact skip (by rw [hw]; cases b <;> cases want <;> first | rfl | cases hx)
              | false => exact check (by rw [hw]; cases b <;> cases want <;> first | rfl | cases hx)
          · exact .inl rfl

/-- A closure of code. -/
def CodeOk (E : Env) (f nt : Nat) (c : Code) (oc : OC) : Prop :=
  ∀ cf, CfOk E cf → ∀ k s m, oc.run cf k s m = .stuck ∨ (∃ s' m', vwp E c (fun ex st => ex = .normal ∧ st = ⟨f, nt, s', m'⟩) ⟨f, nt, s, m⟩ ∧ oc.run cf k s m = k s' m') ∨
    ∃ ex s' m', ex ≠ .normal ∧ vwp E c (fun ex' st => ex' = ex ∧ st = ⟨f, nt, s', m'⟩) ⟨f, nt, s, m⟩ ∧ oc.run cf k s m = .done ex s' m'

def vdrawn (E : Env) (ops : List Oper) (l : List RStep) (Q : St → Prop) (st : St) : Prop := ∃ n st', runDrawn E (call E n) ops l st = some st' ∧ Q st'

theorem drawnC_ok (hnt : nt ≤ 256) (hcf : CfOk E cf) (ops : List Oper) (l : List RStep) (k : KT) (s : Slots) (m : Mem) : (drawnC E nt ops l).run cf k s m = .stuck ∨
    ∃ s' m', vdrawn E ops l (fun st => st = ⟨f, nt, s', m'⟩) ⟨f, nt, s, m⟩ ∧ (drawnC E nt ops l).run cf k s m = k s' m' := by
  unfold drawnC
  cases hl : lastComm ops with
  | false =>
    rw [cond_false]
    rcases planC_ok (f := f) hnt hcf ops l k s m with h | ⟨s', m', ⟨n, st, h1, h2⟩, h3⟩
    · exact .inl h
    · exact .inr ⟨s', m', ⟨n, st, by unfold runDrawn; rw [hl, cond_false]; exact h1, h2⟩, h3⟩
  | true =>
    rw [cond_true]
    cases ho : ops.getLast? with
    | none => exact .inl rfl
    | some o =>
      simp only
      rcases planC_ok (f := f) hnt hcf ops.dropLast l ((oneC E nt ops o).run cf k) s m with h | ⟨s', m', ⟨n, st, h1, h2⟩, h3⟩
      · exact .inl h
      · rw [h3]
        rcases oneC_ok (E := E) (f := f) hnt hcf ops o k s' m' with h | ⟨n2, s2, m2, h4, h5⟩
        · exact .inl h
        · refine .inr ⟨s2, m2, ⟨max n n2, _, ?_, rfl⟩, h5⟩
          unfold runDrawn
          subst h2
          rw [hl, cond_true, ho]
          simp only [runPlan_mono (call_mono (Nat.le_max_left n n2)) h1]
          exact runOne_mono (call_mono (Nat.le_max_right n n2)) h4

theorem vwp_drawn {id : Nat} {ops : Array Oper} {plan : List RStep} {Q : Ex → St → Prop} {st : St} (hp : E.plans.get (planKey st.fn id) = some plan) (h : vdrawn E ops.toList plan (Q .normal) st) : vwp E (.region id ops true) Q st := by
  obtain ⟨n, s, h1, h2⟩ := h
  refine ⟨n + 1, .normal, s, ?_, h2⟩
  rw [exec_succ]
  simp only [execF, hp]
  rw [show callF E (exec E n) = call E n from rfl, h1]; rfl

theorem loopF_ok {body : Code} {oc : OC} (hb : CodeOk E f nt body oc) (hcf : CfOk E cf) : ∀ (n : Nat) (s : Slots) (m : Mem), loopF n oc cf s m = .stuck ∨
    ∃ ex s' m', ex ≠ .normal ∧ vwp E (.loop body) (fun ex' st => ex' = ex ∧ st = ⟨f, nt, s', m'⟩) ⟨f, nt, s, m⟩ ∧ loopF n oc cf s m = .done ex s' m'
  | 0, _, _ => .inl rfl
  | n + 1, s, m => by
    have step : ∀ r, oc.run cf kdone s m = r → loopF (n + 1) oc cf s m = @XR.rec (fun _ => OC → CF → (OC → CF → Slots → Mem → XR) → XR) (fun _ _ _ => .stuck)
      (fun ex s m body cf ih => @Ex.rec (fun _ => OC → CF → (OC → CF → Slots → Mem → XR) → Slots → Mem → XR) (fun body cf ih s m => ih body cf s m) (fun i _ _ _ s m => .done (.exit i) s m) (fun _ _ _ s m => .done .ret s m) ex body cf ih s m) r oc cf (loopF n) := by
      intro r hr; rw [← hr]; rfl
    rcases hb cf hcf kdone s m with h | ⟨s', m', h1, h2⟩ | ⟨ex, s', m', h0, h1, h2⟩
    · rw [step _ h]; exact .inl rfl
    · rw [step _ h2]
      have e : @XR.rec (fun _ => OC → CF → (OC → CF → Slots → Mem → XR) → XR) (fun _ _ _ => .stuck)
        (fun ex s m body cf ih => @Ex.rec (fun _ => OC → CF → (OC → CF → Slots → Mem → XR) → Slots → Mem → XR) (fun body cf ih s m => ih body cf s m) (fun i _ _ _ s m => .done (.exit i) s m) (fun _ _ _ s m => .done .ret s m) ex body cf ih s m) (kdone s' m') oc cf (loopF n) = loopF n oc cf s' m' := rfl
      rw [e]
      rcases loopF_ok hb hcf n s' m' with h | ⟨ex, s2, m2, h3, h4, h5⟩
      · exact .inl h
      · exact .inr ⟨ex, s2, m2, h3, vwp_loop (h1.mono fun ex' st he => by obtain ⟨rfl, rfl⟩ := he; exact h4), h5⟩
    · rw [step _ h2]
      cases ex with
      | normal => exact absurd rfl h0
      | exit i => exact .inr ⟨_, s', m', h0, vwp_loop (h1.mono fun ex' st he => by obtain ⟨rfl, rfl⟩ := he; exact ⟨rfl, rfl⟩), rfl⟩
      | ret => exact .inr ⟨_, s', m', h0, vwp_loop (h1.mono fun ex' st he => by obtain ⟨rfl, rfl⟩ := he; exact ⟨rfl, rfl⟩), rfl⟩

theorem cc_ok (hnt : nt ≤ 256) : ∀ c : Code, CodeOk E f nt c (cc E f nt c)
  | .skip => fun cf _ k s m => .inr (.inl ⟨s, m, vwp_skip ⟨rfl, rfl⟩, rfl⟩)
  | .ret => fun cf _ k s m => .inr (.inr ⟨.ret, s, m, nofun, vwp_ret ⟨rfl, rfl⟩, rfl⟩)
  | .exit id => fun cf _ k s m => .inr (.inr ⟨.exit id, s, m, nofun, vwp_exit ⟨rfl, rfl⟩, rfl⟩)
  | .seq a b => by
    intro cf hcf k s m
    have e : (cc E f nt (.seq a b)).run cf k s m = (cc E f nt a).run cf ((cc E f nt b).run cf k) s m := rfl
    rw [e]
    rcases cc_ok hnt a cf hcf ((cc E f nt b).run cf k) s m with h | ⟨s', m', h1, h2⟩ | ⟨ex, s', m', h0, h1, h2⟩
    · exact .inl h
    · rw [h2]
      rcases cc_ok hnt b cf hcf k s' m' with h | ⟨s2, m2, h3, h4⟩ | ⟨ex, s2, m2, h3, h4, h5⟩
      · exact .inl h
      · exact .inr (.inl ⟨s2, m2, vwp_seq (h1.mono fun ex' st he => by obtain ⟨rfl, rfl⟩ := he; exact h3), h4⟩)
      · exact .inr (.inr ⟨ex, s2, m2, h3, vwp_seq (h1.mono fun ex' st he => by obtain ⟨rfl, rfl⟩ := he; exact h4), h5⟩)
    · refine .inr (.inr ⟨ex, s', m', h0, vwp_seq (h1.mono fun ex' st he => ?_), h2⟩)
      obtain ⟨rfl, rfl⟩ := he
      cases ex' with
      | normal => exact absurd rfl h0
      | exit i => exact ⟨rfl, rfl⟩
      | ret => exact ⟨rfl, rfl⟩
  | .cond x a b => by
    intro cf hcf k s m
    have e : (cc E f nt (.cond x a b)).run cf k s m = condF (asBool ((opn x).g s)) (cc E f nt a) (cc E f nt b) cf k s m := rfl
    rw [e, opn_ok x f nt s m]
    cases hb : asBool (St.ev ⟨f, nt, s, m⟩ x) with
    | none => exact .inl rfl
    | some t =>
      have hx := asBool_some hb
      cases t with
      | true =>
        have e2 : condF (some true) (cc E f nt a) (cc E f nt b) cf k s m = (cc E f nt a).run cf k s m := rfl
        rw [e2]
        rcases cc_ok hnt a cf hcf k s m with h | ⟨s', m', h1, h2⟩ | ⟨ex, s', m', h0, h1, h2⟩
        · exact .inl h
        · exact .inr (.inl ⟨s', m', vwp_cond hx (by simpa using h1), h2⟩)
        · exact .inr (.inr ⟨ex, s', m', h0, vwp_cond hx (by simpa using h1), h2⟩)
      | false =>
        have e2 : condF (some false) (cc E f nt a) (cc E f nt b) cf k s m = (cc E f nt b).run cf k s m := rfl
        rw [e2]
        rcases cc_ok hnt b cf hcf k s m with h | ⟨s', m', h1, h2⟩ | ⟨ex, s', m', h0, h1, h2⟩
        · exact .inl h
        · exact .inr (.inl ⟨s', m', vwp_cond hx (by simpa using h1), h2⟩)
        · exact .inr (.inr ⟨ex, s', m', h0, vwp_cond hx (by simpa using h1), h2⟩)
  | .block id body => by
    intro cf hcf k s m
    have e : (cc E f nt (.block id body)).run cf k s m = blockF id k ((cc E f nt body).run cf kdone s m) := rfl
    rw [e]
    rcases cc_ok hnt body cf hcf kdone s m with h | ⟨s', m', h1, h2⟩ | ⟨ex, s', m', h0, h1, h2⟩
    · rw [h]; exact .inl rfl
    · rw [h2]
      exact .inr (.inl ⟨s', m', vwp_block (h1.mono fun ex' st he => by obtain ⟨rfl, rfl⟩ := he; exact ⟨rfl, rfl⟩), rfl⟩)
    · rw [h2]
      cases ex with
      | normal => exact absurd rfl h0
      | exit i =>
        have e2 : blockF id k (.done (.exit i) s' m') = @Bool.rec (fun _ => XR) (.done (.exit i) s' m') (k s' m') (Nat.beq i id) := rfl
        rw [e2, brec, nbeq, cond_eq_ite]
        by_cases hi : i = id
        · rw [if_pos (by simpa using hi)]
          exact .inr (.inl ⟨s', m', vwp_block (h1.mono fun ex' st he => by obtain ⟨rfl, rfl⟩ := he; exact ⟨if_pos hi, rfl⟩), rfl⟩)
        · rw [if_neg (by simpa using hi)]
          exact .inr (.inr ⟨_, s', m', h0, vwp_block (h1.mono fun ex' st he => by obtain ⟨rfl, rfl⟩ := he; exact ⟨if_neg hi, rfl⟩), rfl⟩)
      | ret =>
        exact .inr (.inr ⟨_, s', m', h0, vwp_block (h1.mono fun ex' st he => by obtain ⟨rfl, rfl⟩ := he; exact ⟨rfl, rfl⟩), rfl⟩)
  | .loop body => by
    intro cf hcf k s m
    have e : (cc E f nt (.loop body)).run cf k s m = loopF 1000000 (cc E f nt body) cf s m := rfl
    rw [e]
    rcases loopF_ok (cc_ok hnt body) hcf 1000000 s m with h | h
    · exact .inl h
    · exact .inr (.inr h)
  | .region id ops false => by
    intro cf hcf k s m
    have e : (cc E f nt (.region id ops false)).run cf k s m = (seqC E nt ops.toList ops.toList).run cf k s m := rfl
    rw [e]
    rcases seqC_ok (f := f) hnt hcf ops.toList ops.toList k s m with h | ⟨s', m', h1, h2⟩
    · exact .inl h
    · refine .inr (.inl ⟨s', m', vwp_region ?_, h2⟩)
      obtain ⟨n, st, h3, h4⟩ := h1
      exact ⟨n, st, h3, rfl, h4⟩
  | .region id ops true => by
    intro cf hcf k s m
    simp only [cc]
    cases hp : E.plans.get (planKey f id) with
    | none => exact .inl rfl
    | some plan =>
      simp only
      rcases drawnC_ok (f := f) hnt hcf ops.toList plan k s m with h | ⟨s', m', h1, h2⟩
      · exact .inl h
      · refine .inr (.inl ⟨s', m', vwp_drawn hp ?_, h2⟩)
        obtain ⟨n, st, h3, h4⟩ := h1
        exact ⟨n, st, h3, rfl, h4⟩
  | .rangeFunc .. => fun _ _ _ _ _ => .inl rfl
  | .scope .. => fun _ _ _ _ _ => .inl rfl
  | .label .. => fun _ _ _ _ _ => .inl rfl
  | .goto .. => fun _ _ _ _ _ => .inl rfl
  | .refuse .. => fun _ _ _ _ _ => .inl rfl

theorem argsF_ok : ∀ (l : List AVal) (i : Nat) (t : Slots), i + l.length ≤ 256 → argsF l i t = argSlots i l t
  | [], _, _, _ => rfl
  | v :: l, i, t, h => by
    simp only [List.length_cons] at h
    have e : argsF (v :: l) i t = argsF l (i + 1) ((sp i).p t v) := rfl
    rw [e, sp_ok i (by omega), argsF_ok l (i + 1) _ (by omega)]; rfl

theorem resTmps_ok : ∀ (l : List ResultVar) (xs : List Operand), resTmps l = some xs → resultVals E ⟨f, nt, s, m⟩ l = some (xs.map (evF s))
  | [], xs, h => by simp only [resTmps, Option.some.injEq] at h; subst h; rfl
  | .tmp t :: l, xs, h => by
    simp only [resTmps, Option.map_eq_some_iff] at h
    obtain ⟨ys, h1, rfl⟩ := h
    simp only [resultVals, resTmps_ok l ys h1, Option.map_some, List.map_cons, evF_ok f nt s m, St.ev]
  | .cell .. :: _, xs, h => by cases h

theorem resC_ok (l : List ResultVar) {v : AVal} {m' : Mem} (h : (resC E f nt l).r s m = .ok v m') : m' = m ∧ ∃ vs, resultVals E ⟨f, nt, s, m⟩ l = some vs ∧ v = oneOr vs := by
  unfold resC at h
  split at h
  · rename_i t
    cases h
    exact ⟨rfl, [_], by simp only [resultVals, Option.map_some, opn_ok (.tmp t) f nt s m, St.ev], rfl⟩
  · rename_i a t
    have h' : resG1 ((loadC E t (opn (.tmp a))).l s m) m = .ok v m' := h
    cases hl : (loadC E t (opn (.tmp a))).l s m with
    | none => rw [hl] at h'; cases h'
    | some u =>
      rw [hl] at h'
      cases h'
      obtain ⟨vt, h1, h2⟩ := loadC_ok hl
      rw [opn_ok (.tmp a) f nt s m] at h2
      refine ⟨rfl, [v], ?_, rfl⟩
      simp only [St.ev] at h2
      simp only [resultVals, h1, h2, Option.bind_some, Option.map_some]
  · split at h
    · rename_i xs hx
      cases h
      exact ⟨rfl, _, resTmps_ok l xs hx, by rw [argsC_ok]⟩
    · cases hr : resultVals E ⟨f, nt, s, m⟩ l with
      | none => simp only [hr, resG] at h; cases h
      | some vs => simp only [hr, resG] at h; cases h; exact ⟨rfl, vs, rfl, rfl⟩

theorem fnC_ok (hcf : CfOk E cf) {g : FuncId} {args : List AVal} {v : AVal} {m' : Mem} (ho : E.orc g args = none) (h : (fnC E g).run cf args m = .ok v m') : ∃ n, call E n g args m = some (v, m') := by
  unfold fnC at h
  cases hf : E.fns.get g with
  | none => rw [hf] at h; cases h
  | some fn =>
    rw [hf] at h
    simp only at h
    cases hb : fn.body with
    | none => rw [hb] at h; cases h
    | some c =>
      rw [hb] at h
      simp only at h
      cases hn : Nat.ble fn.ntmps 256 with
      | false => rw [hn] at h; cases h
      | true =>
        rw [hn] at h
        have hn' := hn
        rw [nble, decide_eq_true_eq] at hn'
        simp only [cond_true, brec, lenF_ok] at h
        cases hl : Nat.ble args.length fn.ntmps with
        | false => rw [hl] at h; cases h
        | true =>
          rw [hl] at h
          have hl' := hl
          rw [nble, decide_eq_true_eq] at hl'
          simp only [cond_true] at h
          rw [argsF_ok args 0 _ (by omega)] at h
          have fin_ : ∀ ex s' m1, (ex = .normal ∨ ex = .ret) → vwp E c (fun ex' st => ex' = ex ∧ st = ⟨g, fn.ntmps, s', m1⟩) ⟨g, fn.ntmps, argSlots 0 args Slots.nil, m⟩ → (resC E g fn.ntmps fn.results.toList).r s' m1 = .ok v m' → ∃ n, call E n g args m = some (v, m') := by
            intro ex s' m1 hex hw hr
            obtain ⟨rfl, vs, h2, rfl⟩ := resC_ok _ hr
            obtain ⟨n, ex', st, h3, rfl, rfl⟩ := hw
            refine ⟨n, ?_⟩
            show callF E (exec E n) g args m = _
            unfold callF
            simp only [ho, hf, hb, hl, hn, Bool.and_self, cond_true, h3]
            rcases hex with rfl | rfl <;> simp only [h2, Option.map_some]
          rcases cc_ok (E := E) (f := g) hn' c cf hcf kdone (argSlots 0 args Slots.nil) m with hh | ⟨s', m1, h1, h2⟩ | ⟨ex, s', m1, h0, h1, h2⟩
          · rw [hh] at h; cases h
          · rw [h2] at h
            exact fin_ .normal s' m1 (.inl rfl) h1 h
          · rw [h2] at h
            cases ex with
            | normal => exact absurd rfl h0
            | exit i => cases h
            | ret => exact fin_ .ret s' m1 (.inr rfl) h1 h

theorem fcall_ok : ∀ n, CfOk E (fcall E n)
  | 0 => fun _ _ _ _ _ h => by cases h
  | n + 1 => fun g args m v m' h => by
    have e : fcall E (n + 1) g args m = orcF (E.orc g args) (fnC E g) (fcall E n) args m := rfl
    rw [e] at h
    cases ho : E.orc g args with
    | none =>
      rw [ho] at h
      exact fnC_ok (fcall_ok n) ho h
    | some u =>
      rw [ho] at h
      cases h
      exact ⟨0, by show callF E (exec E 0) g args _ = _; unfold callF; rw [ho]⟩
end
end Go.V
end

section
/-
  A call that the abstract machine carries out from empty memory may be told in another run.
-/
namespace Go.V

/-- A context that knows of no memory but what is only read. -/
def Ctx.still (ro : Nat → Nat → Option Value) (inp : Nat → Value) : Ctx := ⟨fun _ => none, fun _ => False, ro, inp⟩

theorem MemR.ofStill {ro : Nat → Nat → Option Value} {inp : Nat → Value} {w : World} (h : ∀ b o u, ro b o = some u → w.cell? ⟨b, o, none⟩ = some u) : MemR (Ctx.still ro inp) Mem.nil w where
  dom b := ⟨fun hb => hb.elim, fun hb => absurd hb (Nat.not_lt_zero b)⟩
  small := Nat.zero_le _
  gone _ _ _ _ := rfl
  chan b _ _ hb := by rw [Mem.getC_nil] at hb; cases hb
  blk b B hb := by rw [Mem.get_nil] at hb; cases hb
  inj b _ _ _ hb := absurd hb (Nat.not_lt_zero b)
  ro := h

theorem Grown.of_step {ro : Nat → Nat → Option Value} {inp : Nat → Value} {Δ : Ctx} {w w' : World} (h : Step (Ctx.still ro inp) w Δ w') : Grown w w' :=
  ⟨h.os, h.tape, h.output, h.size, fun k hk => h.frame k hk fun _ _ hb => hb.elim⟩

/-- The contract of such a call. -/
theorem still_calls {E : Env} {ro : Nat → Nat → Option Value} {inp : Nat → Value} (hE : EnvOk E (Ctx.still ro inp)) {n : Nat} {f : FuncId} {args : List AVal} {v : AVal} {m : Mem} (hc : call E n f args Mem.nil = some (v, m))
    {vs : Array Value} {w : World} (ha : VRs (Ctx.still ro inp) args vs.toList) (hro : ∀ b o u, ro b o = some u → w.cell? ⟨b, o, none⟩ = some u) :
    Calls E.P f vs w fun e w' => ∃ Δ u, e = .returned u ∧ VR Δ v u ∧ Grown w w' := by
  refine ((call_sound hE n).ok f args Mem.nil v m hc (Ctx.still ro inp) vs w (.refl _) ha (MemR.ofStill hro)).mono fun e w' he => ?_
  obtain ⟨Δ, u, h1, _, h3, h4, _⟩ := he
  exact ⟨Δ, u, h1, h3, Grown.of_step h4⟩

/-- What is told of one call: it answers a Bool. -/
theorem orc_bool {E : Env} {ro : Nat → Nat → Option Value} {inp : Nat → Value} (hE : EnvOk E (Ctx.still ro inp)) {n : Nat} {f : FuncId} {args : List AVal} {b : Bool} {m : Mem} (hc : call E n f args Mem.nil = some (.bool b, m))
    {Γ : Ctx} {vs : Array Value} {w : World} (hb : (Ctx.still ro inp).le Γ) (ha : VRs (Ctx.still ro inp) args vs.toList) (hro : ∀ b o u, Γ.ro b o = some u → w.cell? ⟨b, o, none⟩ = some u) :
    Calls E.P f vs w fun e w' => ∃ u, e = .returned u ∧ VR Γ (.bool b) u ∧ Grown w w' := by
  refine (still_calls hE hc ha fun b o u h => hro b o u (hb.ro b o u h)).mono fun e w' he => ?_
  obtain ⟨Δ, u, h1, h2, h3⟩ := he
  exact ⟨u, h1, by simpa only [VR] using h2, h3⟩
end Go.V
end
