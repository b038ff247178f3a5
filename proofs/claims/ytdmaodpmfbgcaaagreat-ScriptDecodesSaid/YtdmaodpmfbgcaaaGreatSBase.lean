/-
  The seat's machine with two calls told, its types, and what numbers come to.
-/
import Derived.Test.YtdmaodpmfbgcaaaGreatSWalk
import Derived.Test.YtdmaodpmfbgcaaaGreatWOrc
set_option maxRecDepth 100000
namespace Go.Proofs.Tryz
open Go Go.V Go.SC

/-- 'awake' answers true; a clone of no bytes has none. -/
def orcS (f : FuncId) (args : List AVal) : Option AVal :=
  bif Nat.beq f 49 then (match args with
    | [] => some (.bool true)
    | _ => none)
  else bif Nat.beq f 64 then (match args with
    | [.imm [] 0] => some (.nil false)
    | _ => none)
  else none
noncomputable abbrev ES : Env := E orcS

theorem ty2 : ES.ty.get 2 = some ⟨.int .i64, 1, 8, [.int .i64 (0)], (some [.i])⟩ := rfl
theorem ty3 : ES.ty.get 3 = some ⟨.int .i64, 1, 8, [.int .i64 (0)], (some [.i])⟩ := rfl
theorem ty4 : ES.ty.get 4 = some ⟨.bool, 1, 1, [.bool false], (some [.b])⟩ := rfl
theorem ty5 : ES.ty.get 5 = some ⟨.int .u8, 1, 1, [.int .u8 (0)], (some [.i])⟩ := rfl
theorem ty9 : ES.ty.get 9 = some ⟨.str, 1, 16, [.str ⟨#[]⟩], (some [.s])⟩ := rfl
theorem ty22 : ES.ty.get 22 = some ⟨.slice 5, 1, 24, [.nil true], none⟩ := rfl
theorem ty49 : ES.ty.get 49 = some ⟨.array 4 2, 4, 32, [.int .i64 (0), .int .i64 (0), .int .i64 (0), .int .i64 (0)], (some [.i, .i, .i, .i])⟩ := rfl
theorem ty63 : ES.ty.get 63 = some ⟨.slice 9, 1, 24, [.nil true], none⟩ := rfl
theorem ty65 : ES.ty.get 65 = some ⟨.struct [(63, 0), (3, 1), (9, 2), (2, 3)], 4, 56, [.nil true, .int .i64 (0), .str ⟨#[]⟩, .int .i64 (0)], none⟩ := rfl
theorem ty115 : ES.ty.get 115 = some ⟨.struct [(3, 0), (3, 1), (3, 2), (3, 3), (5, 4), (65, 5)], 9, 96, [.int .i64 (0), .int .i64 (0), .int .i64 (0), .int .i64 (0), .int .u8 (0), .nil true, .int .i64 (0), .str ⟨#[]⟩, .int .i64 (0)], none⟩ := rfl
theorem ty119 : ES.ty.get 119 = some ⟨.struct [(3, 0), (3, 1), (3, 2), (3, 3), (5, 4), (65, 5)], 9, 96, [.int .i64 (0), .int .i64 (0), .int .i64 (0), .int .i64 (0), .int .u8 (0), .nil true, .int .i64 (0), .str ⟨#[]⟩, .int .i64 (0)], none⟩ := rfl
theorem ty125 : ES.ty.get 125 = some ⟨.slice 115, 1, 24, [.nil true], none⟩ := rfl
theorem ty127 : ES.ty.get 127 = some ⟨.struct [(3, 0), (3, 1), (3, 2), (125, 3)], 4, 48, [.int .i64 (0), .int .i64 (0), .int .i64 (0), .nil true], none⟩ := rfl
theorem ty128 : ES.ty.get 128 = some ⟨.slice 119, 1, 24, [.nil true], none⟩ := rfl
theorem ty130 : ES.ty.get 130 = some ⟨.struct [(3, 0), (3, 1), (3, 2), (128, 3)], 4, 48, [.int .i64 (0), .int .i64 (0), .int .i64 (0), .nil true], none⟩ := rfl
theorem ty180 : ES.ty.get 180 = some ⟨.struct [(22, 0), (4, 1)], 2, 32, [.nil true, .bool false], none⟩ := rfl
theorem ty229 : ES.ty.get 229 = some ⟨.struct [(22, 0)], 1, 24, [.nil true], none⟩ := rfl
theorem ty230 : ES.ty.get 230 = some ⟨.slice 3, 1, 24, [.nil true], none⟩ := rfl
theorem ty259 : ES.ty.get 259 = some ⟨.pointer 229, 1, 8, [.nilp], none⟩ := rfl
theorem ty238 : ES.ty.get 238 = some ⟨.pointer 378, 1, 8, [.nilp], none⟩ := rfl
theorem ty371 : ES.ty.get 371 = some ⟨.int .u64, 1, 8, [.int .u64 (0)], (some [.i])⟩ := rfl
theorem ty378 : ES.ty.get 378 = some ⟨.struct [(22, 0), (4, 1)], 2, 32, [.nil true, .bool false], none⟩ := rfl
theorem ty380 : ES.ty.get 380 = some ⟨.array 6 2, 6, 48, [.int .i64 (0), .int .i64 (0), .int .i64 (0), .int .i64 (0), .int .i64 (0), .int .i64 (0)], (some [.i, .i, .i, .i, .i, .i])⟩ := rfl

/-! ### Bytes and texts -/
def u8 (b : UInt8) : List AVal := [.int .u8 (b.toNat : Nat)]
def E8 (bs : List UInt8) : List (List AVal) := bs.map u8
def B8 (bs : List UInt8) : List AVal := bs.map fun b => .int .u8 (b.toNat : Nat)
theorem E8_flat (bs : List UInt8) : (E8 bs).flatten = B8 bs := by
  induction bs with
  | nil => rfl
  | cons b bs ih => simp only [E8, B8, List.map_cons, List.flatten_cons, u8] at ih ⊢; rw [ih]; rfl
theorem E8_len (bs : List UInt8) : (E8 bs).length = bs.length := by simp [E8]
theorem E8_append (a b : List UInt8) : E8 (a ++ b) = E8 a ++ E8 b := by simp [E8]
theorem E8_take (a : List UInt8) (n : Nat) : (E8 a).take n = E8 (a.take n) := by simp [E8, List.map_take]
theorem E8_drop (a : List UInt8) (n : Nat) : (E8 a).drop n = E8 (a.drop n) := by simp [E8, List.map_drop]
theorem E8_one (bs : List UInt8) : ∀ x ∈ E8 bs, x.length = 1 := by
  intro x hx
  simp only [E8, List.mem_map] at hx
  obtain ⟨b, _, rfl⟩ := hx
  rfl
/-- A text. -/
def mkS (bs : List UInt8) : ByteArray := ⟨bs.toArray⟩
theorem mkS_size (bs : List UInt8) : (mkS bs).size = bs.length := by simp [mkS, ByteArray.size]
theorem mkS_data (bs : List UInt8) : (mkS bs).data.toList = bs := by simp [mkS]
theorem mkS_of (s : ByteArray) : mkS s.data.toList = s := by simp [mkS]
theorem mkS_toList (bs : List UInt8) : (mkS bs).toList = bs := by rw [ByteArray.toList_eq]; simp [mkS]
theorem bytesOf_B8 : ∀ (bs : List UInt8) (acc : ByteArray), bytesOf (B8 bs) acc = some (mkS (acc.data.toList ++ bs))
  | [], acc => by simp [B8, bytesOf, mkS]
  | b :: bs, acc => by
    simp only [B8, List.map_cons, bytesOf]
    rw [show (List.map (fun b : UInt8 => AVal.int .u8 (b.toNat : Nat)) bs) = B8 bs from rfl, bytesOf_B8 bs]
    congr 1
    simp only [mkS]
    congr 1
    simp [ByteArray.push]
theorem bytesOf_str (bs : List UInt8) : bytesOf (B8 bs) ByteArray.empty = some (mkS bs) := by rw [bytesOf_B8]; rfl
theorem str_cells (bs : List UInt8) : (mkS bs).data.toList.map (fun b => AVal.int .u8 (b.toNat : Nat)) = B8 bs := by rw [mkS_data]; rfl

abbrev BV (m : Mem) (v : AVal) (bs : List UInt8) : Prop := SlV m 5 1 v (E8 bs)
abbrev GV (m : Mem) (v : AVal) (bs : List UInt8) : Prop := GrowV m 5 1 v (E8 bs)
theorem GV.bv {m : Mem} {v : AVal} {bs : List UInt8} (h : GV m v bs) : BV m v bs := h.sl

/-! ### Numbers -/
theorem u8w (n : Nat) : IntKind.u8.wrap (n : Int) = ((n % 256 : Nat) : Int) := by
  simp [IntKind.wrap, IntKind.bits, IntKind.signed]
theorem u64w (n : Nat) : IntKind.u64.wrap (n : Int) = ((n % 18446744073709551616 : Nat) : Int) := by
  simp [IntKind.wrap, IntKind.bits, IntKind.signed]
theorem i64w {z : Int} (h1 : -9223372036854775808 ≤ z) (h2 : z ≤ 9223372036854775807) : IntKind.i64.wrap z = z := IntWalk.i64_in z ⟨by omega, by omega⟩
theorem i64n {n : Nat} (h : n < 9223372036854775808) : IntKind.i64.wrap (n : Int) = (n : Int) := i64w (by omega) (by omega)
/-! ### Sums and comparisons, one by one -/
theorem cl_int (k : IntKind) (n : Int) : AVal.cells? (.int k n) = some [.int k n] := rfl
theorem cl_bool (b : Bool) : AVal.cells? (.bool b) = some [.bool b] := rfl
theorem cl_str (s : ByteArray) : AVal.cells? (.str s) = some [.str s] := rfl
theorem cl_ptr (a b c : Nat) : AVal.cells? (.ptr a b c) = some [.ptr a b c] := rfl
theorem cl_nil (b : Bool) : AVal.cells? (.nil b) = some [.nil b] := rfl
theorem cl_ref (a b c d e : Nat) (f : Bool) (g : Nat) : AVal.cells? (.ref a b c d e f g) = some [.ref a b c d e f g] := rfl
theorem cl_imm (l : List AVal) (n : Nat) : AVal.cells? (.imm l n) = some [.imm l n] := rfl
theorem cl_agg (l : List AVal) : AVal.cells? (.agg l) = some l := rfl
theorem cl_nilp : AVal.cells? .nilp = some [.nilp] := rfl
theorem sh_ptr (b e o n : Nat) : shift (.ptr b e o) n = some (.ptr b e (o + n)) := rfl
theorem sh_iptr (l : List AVal) (n : Nat) : shift (.iptr l) n = some (.iptr (l.drop n)) := rfl
theorem rc_ptr (m : Mem) (b e o n : Nat) : readCells m (.ptr b e o) n = (match m.get b with
    | some blk => bif Nat.beq blk.cells.length e then lget blk.cells o n else none
    | none => none) := rfl
theorem rc_iptr (m : Mem) (l : List AVal) (n : Nat) : readCells m (.iptr l) n = lget l 0 n := rfl
theorem _root_.Go.V.SlV.cl {m : Mem} {ty sz : Nat} {v : AVal} {els : List (List AVal)} (h : SlV m ty sz v els) : AVal.cells? v = some [v] := by cases h <;> rfl
theorem _root_.Go.V.GrowV.cl {m : Mem} {ty sz : Nat} {v : AVal} {els : List (List AVal)} (h : GrowV m ty sz v els) : AVal.cells? v = some [v] := h.sl.cl
theorem ar_add (k : IntKind) (x y : Int) : arith .add k x y = some (.int k (k.wrap (x + y))) := rfl
theorem ar_sub (k : IntKind) (x y : Int) : arith .sub k x y = some (.int k (k.wrap (x - y))) := rfl
theorem ar_mul (k : IntKind) (x y : Int) : arith .mul k x y = some (.int k (k.wrap (x * y))) := rfl
theorem ar_eql (k : IntKind) (x y : Int) : arith .eql k x y = some (.bool (decide (x = y))) := rfl
theorem ar_neq (k : IntKind) (x y : Int) : arith .neq k x y = some (.bool (!decide (x = y))) := rfl
theorem ar_lss (k : IntKind) (x y : Int) : arith .lss k x y = some (.bool (decide (x < y))) := rfl
theorem ar_leq (k : IntKind) (x y : Int) : arith .leq k x y = some (.bool (decide (x ≤ y))) := rfl
theorem ar_gtr (k : IntKind) (x y : Int) : arith .gtr k x y = some (.bool (decide (y < x))) := rfl
theorem ar_geq (k : IntKind) (x y : Int) : arith .geq k x y = some (.bool (decide (y ≤ x))) := rfl
end Go.Proofs.Tryz
