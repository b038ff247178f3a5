/-
  What a table of types says is asked of the program itself, by a Bool.
-/
import Derived.Test.YtdmaodpmfbgcaaaGreatVCore
namespace Go.V

/-- A type's row, out of the program. -/
def vdOf (d : TypeDesc) : VD :=
  match d with
  | .bool => .bool
  | .int k => .int k
  | .string => .str
  | .pointer e => .pointer e
  | .slice e => .slice e
  | .array n e => .array n e
  | .struct fs => .struct (fs.toList.map fun f => (f.type, f.offset))
  | .func .. => .func
  | _ => .other

/-- The kinds of the cells of a struct's fields, one behind the other. -/
def fieldsKinds (P : Program) (g : TypeId → Option (List FK)) : Nat → List Field → Option (List FK)
  | _, [] => some []
  | off, f :: fs => bif f.name != "_" && Nat.beq f.offset off then (g f.type).bind fun ks => bif Nat.beq (P.cellsOf f.type) ks.length && Nat.blt 0 ks.length then (fieldsKinds P g (off + ks.length) fs).map (ks ++ ·) else none else none

def repl (ks : List FK) : Nat → List FK
  | 0 => []
  | n + 1 => ks ++ repl ks n

/-- Values of the type may be compared cell by cell (numbers, texts, bools, and structs and arrays of such): its cells' kinds. -/
def kindsOf (P : Program) : Nat → TypeId → Option (List FK)
  | 0, _ => none
  | n + 1, t => match P.underlying t with
    | some .bool => some [.b]
    | some (.int _) => some [.i]
    | some .string => some [.s]
    | some (.struct fs) => bif P.stoodInHeld t then none else fieldsKinds P (kindsOf P n) 0 fs.toList
    | some (.array m e) => (kindsOf P n e).bind fun ks => bif Nat.beq (P.cellsOf e) ks.length && Nat.blt 0 ks.length && Nat.ble m 64 then some (repl ks m) else none
    | _ => none

def eqOf (P : Program) (t : TypeId) : Option (List FK) := bif P.eqGuardType P.depth t then none else kindsOf P 12 t

def vtOf (P : Program) (t : TypeId) : Option VT :=
  match P.info? t, P.underlying t with
  | some i, some d => match i.zero with
    | some z => some ⟨vdOf d, i.size, i.bytes, z.cells.toList.map ofConst1, eqOf P t⟩
    | none => none
  | _, _ => none
end Go.V
