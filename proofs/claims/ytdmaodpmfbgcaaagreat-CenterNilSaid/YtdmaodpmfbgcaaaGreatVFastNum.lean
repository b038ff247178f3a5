/-
  The numbers and the views of the machine made for the kernel.
-/
import Derived.Test.YtdmaodpmfbgcaaaGreatVFastOk
import Derived.IntWalk
import Derived.Laws.BitsAllLaws
namespace Go.V

theorem asInt_yes {v : AVal} {k : IntKind} {n : Int} (h : asInt v = .yes k n) : v = .int k n := by
  cases v <;> first | (cases h; rfl) | (cases h)
theorem asStr_some {v : AVal} {s : ByteArray} (h : asStr v = some s) : v = .str s := by
  cases v <;> first | (cases h; rfl) | (cases h)
theorem asBool_some {v : AVal} {b : Bool} (h : asBool v = some b) : v = .bool b := by
  cases v <;> first | (cases h; rfl) | (cases h)
theorem asAgg_some {v : AVal} {cs : List AVal} (h : asAgg v = some cs) : v = .agg cs := by
  cases v <;> first | (cases h; rfl) | (cases h)
theorem asTup_some {v : AVal} {cs : List AVal} (h : asTup v = some cs) : v = .tup cs := by
  cases v <;> first | (cases h; rfl) | (cases h)
theorem asPtr_ptr {v : AVal} {b e o : Nat} (h : asPtr v = .ptr b e o) : v = .ptr b e o := by
  cases v <;> first | (cases h; rfl) | (cases h)
theorem asPtr_iptr {v : AVal} {cs : List AVal} (h : asPtr v = .iptr cs) : v = .iptr cs := by
  cases v <;> first | (cases h; rfl) | (cases h)
theorem asRef_nil {v : AVal} (h : asRef v = .nil) : ∃ s, v = .nil s := by
  cases v <;> first | (cases h; exact ⟨_, rfl⟩) | (cases h)
theorem asRef_ref {v : AVal} {b ext off n lo : Nat} {exact_ : Bool} {sz : Nat} (h : asRef v = .ref b ext off n lo exact_ sz) : v = .ref b ext off n lo exact_ sz := by
  cases v <;> first | (cases h; rfl) | (cases h)
theorem asRef_imm {v : AVal} {cs : List AVal} {n : Nat} (h : asRef v = .imm cs n) : v = .imm cs n := by
  cases v <;> first | (cases h; rfl) | (cases h)
theorem cellsF_ok (v : AVal) : cellsF v = v.cells? := by cases v <;> rfl
theorem asGuard_bool {v : AVal} {b : Bool} (h : asGuard v = .bool b) : v = .bool b := by
  cases v <;> first | (cases h; rfl) | (cases h)
theorem asGuard_tup {v : AVal} (h : asGuard v = .tup) : ∃ vs, v = .tup vs := by
  cases v <;> first | (cases h; exact ⟨_, rfl⟩) | (cases h)
theorem notNil_ok {v : AVal} (h : notNil v = true) : (∃ b e o, v = .ptr b e o) ∨ (∃ cs, v = .iptr cs) ∨ ∃ f xs ys, v = .fn f xs ys := by
  cases v <;> first | exact .inl ⟨_, _, _, rfl⟩ | exact .inr (.inl ⟨_, rfl⟩) | exact .inr (.inr ⟨_, _, _, rfl⟩) | (cases h; done)

theorem notB_ok (b : Bool) : notB b = !b := by cases b <;> rfl
theorem xorF_ok (a b : Bool) : xorF a b = (a != b) := by cases a <;> cases b <;> rfl

theorem kidx_inj {k l : IntKind} (h : Nat.beq (kidx k) (kidx l) = true) : k = l := by
  cases k <;> cases l <;> first | rfl | cases h

theorem kmax_lt (k : IntKind) : kmax k < 2 ^ k.bits := by cases k <;> decide
/-- How many bits the numbers have that are not below 0. -/
def kp : IntKind → Nat
  | .i8 => 7 | .i16 => 15 | .i32 => 31 | .i64 => 63 | .u8 => 8 | .u16 => 16 | .u32 => 32 | .u64 => 64
theorem kmax_eq (k : IntKind) : kmax k = 2 ^ kp k - 1 := by cases k <;> rfl
theorem kmax_kp (k : IntKind) (a : Nat) : a ≤ kmax k ↔ a < 2 ^ kp k := by
  rw [kmax_eq]
  have : 0 < 2 ^ kp k := Nat.two_pow_pos _
  omega
theorem wrap_in (k : IntKind) {n : Int} (h0 : -(kmin k : Int) ≤ n) (h1 : n ≤ (kmax k : Int)) : k.wrap n = n := by
  cases k
  · exact IntWalk.i8_in n ⟨h0, h1⟩
  · exact IntWalk.i16_in n ⟨h0, h1⟩
  · exact IntWalk.i32_in n ⟨h0, h1⟩
  · exact IntWalk.i64_in n ⟨h0, h1⟩
  · exact IntWalk.u8_in n ⟨h0, h1⟩
  · exact IntWalk.u16_in n ⟨h0, h1⟩
  · exact IntWalk.u32_in n ⟨h0, h1⟩
  · exact IntWalk.u64_in n ⟨h0, h1⟩
theorem wrap_nat (k : IntKind) {a : Nat} (h : a ≤ kmax k) : k.wrap (a : Int) = a := wrap_in k (by omega) (by omega)
theorem wrap_unsg (k : IntKind) (h : unsg k = true) (n : Int) : k.wrap n = n % ((kmax k + 1 : Nat) : Int) := by
  cases k
  · cases h
  · cases h
  · cases h
  · cases h
  · exact IntKind.wrap_u8 n
  · exact IntKind.wrap_u16 n
  · exact IntKind.wrap_u32' n
  · exact IntKind.wrap_u64 n
theorem wrapF_ok (k : IntKind) (n : Int) : wrapF k n = k.wrap n := by
  cases n with
  | ofNat a =>
    show (@Bool.rec (fun _ => Int) (@Bool.rec (fun _ => Int) (k.wrap (.ofNat a)) (.ofNat (Nat.mod a (Nat.succ (kmax k)))) (unsg k)) (.ofNat a) (Nat.ble a (kmax k))) = _
    cases h : Nat.ble a (kmax k) with
    | true =>
      rw [nble, decide_eq_true_eq] at h
      exact (wrap_nat k h).symm
    | false =>
      cases hu : unsg k with
      | false => rfl
      | true =>
        rw [wrap_unsg k hu]
        rfl
  | negSucc a =>
    show (@Bool.rec (fun _ => Int) (k.wrap (.negSucc a)) (.negSucc a) (Nat.blt a (kmin k))) = _
    cases h : Nat.blt a (kmin k) with
    | false => rfl
    | true =>
      rw [nblt, decide_eq_true_eq] at h
      have e : Int.negSucc a = -((a : Int) + 1) := by omega
      exact (wrap_in k (n := Int.negSucc a) (by rw [e]; omega) (by rw [e]; omega)).symm
theorem addF_ok (x y : Int) : addF x y = x + y := by cases x <;> cases y <;> rfl
theorem subF_ok (x y : Int) : subF x y = x - y := by
  cases x with
  | negSucc a => cases y <;> rfl
  | ofNat a =>
    cases y with
    | negSucc b => rfl
    | ofNat b =>
      show (@Bool.rec (fun _ => Int) (.negSucc (Nat.pred (Nat.sub b a))) (.ofNat (Nat.sub a b)) (Nat.ble b a)) = _
      cases h : Nat.ble b a with
      | true =>
        rw [nble, decide_eq_true_eq] at h
        show Int.ofNat (a - b) = Int.ofNat a - Int.ofNat b
        simp only [Int.ofNat_eq_natCast]; omega
      | false =>
        rw [nble, decide_eq_false_iff_not] at h
        show Int.negSucc ((b - a).pred) = Int.ofNat a - Int.ofNat b
        simp only [Int.ofNat_eq_natCast, Nat.pred_eq_sub_one]; omega
theorem ltF_ok (x y : Int) : ltF x y = decide (x < y) := by
  cases x <;> cases y
  · show Nat.blt _ _ = _
    rw [nblt]; simp
  · show false = _
    rw [eq_comm, decide_eq_false_iff_not, Int.ofNat_eq_natCast]; omega
  · show true = _
    rw [eq_comm, decide_eq_true_eq, Int.ofNat_eq_natCast]; omega
  · rename_i a b
    show Nat.blt _ _ = _
    rw [nblt]
    exact decide_eq_decide.2 (by omega)
theorem eqF_ok (x y : Int) : eqF x y = decide (x = y) := by
  cases x <;> cases y
  · show Nat.beq _ _ = _
    rw [nbeq]
    exact decide_eq_decide.2 (by simp only [Int.ofNat_eq_natCast]; omega)
  · rfl
  · rfl
  · show Nat.beq _ _ = _
    rw [nbeq]; simp
theorem minF_ok (a b : Nat) : minF a b = min a b := by
  show (@Bool.rec (fun _ => Nat) b a (Nat.ble a b)) = _
  cases h : Nat.ble a b with
  | true => rw [nble, decide_eq_true_eq] at h; exact (Nat.min_eq_left h).symm
  | false => rw [nble, decide_eq_false_iff_not] at h; exact (Nat.min_eq_right (a := a) (b := b) (by omega)).symm
theorem kbits_ok (k : IntKind) : kbits k = k.bits := by cases k <;> rfl

theorem ofInt_toNat (k : IntKind) {n : Nat} (h : n ≤ kmax k) : (BitVec.ofInt k.bits (n : Int)).toNat = n := by
  have hl : n < 2 ^ k.bits := Nat.lt_of_le_of_lt h (kmax_lt k)
  rw [BitVec.ofInt_natCast, BitVec.toNat_ofNat]
  exact Nat.mod_eq_of_lt hl

theorem two_some {g : IntKind → Int → Int → AVal} {a b v : AVal} (h : two g a b = some v) : ∃ k n y, a = .int k n ∧ b = .int k y ∧ v = g k n y := by
  unfold two at h
  cases ha : asInt a with
  | no => rw [ha] at h; cases h
  | yes k n =>
    rw [ha] at h
    cases hb : asInt b with
    | no => simp only [hb] at h; cases h
    | yes l y =>
      simp only [hb] at h
      cases hk : Nat.beq (kidx k) (kidx l) with
      | false => simp only [hk] at h; cases h
      | true =>
        simp only [hk] at h
        cases h
        cases kidx_inj hk
        exact ⟨k, n, y, asInt_yes ha, asInt_yes hb, rfl⟩

theorem twoN_some {g : IntKind → Nat → Nat → AVal} {a b v : AVal} (h : twoN g a b = some v) : ∃ (k : IntKind) (n y : Nat), a = .int k n ∧ b = .int k y ∧ n ≤ kmax k ∧ y ≤ kmax k ∧ v = g k n y := by
  unfold twoN at h
  cases ha : asInt a with
  | no => rw [ha] at h; cases h
  | yes k n =>
    rw [ha] at h
    cases hb : asInt b with
    | no => simp only [hb] at h; cases h
    | yes l y =>
      simp only [hb] at h
      cases hk : Nat.beq (kidx k) (kidx l) with
      | false => simp only [hk] at h; cases h
      | true =>
        simp only [hk] at h
        cases kidx_inj hk
        cases n with
        | negSucc n => cases h
        | ofNat n =>
          cases y with
          | negSucc y => cases h
          | ofNat y =>
            simp only at h
            cases hc : (and (Nat.ble n (kmax k)) (Nat.ble y (kmax k))) with
            | false => simp only [hc] at h; cases h
            | true =>
              simp only [hc] at h
              cases h
              rw [Bool.and_eq_true, nble, nble, decide_eq_true_eq, decide_eq_true_eq] at hc
              exact ⟨k, n, y, asInt_yes ha, asInt_yes hb, hc.1, hc.2, rfl⟩

theorem twoS_some {g : IntKind → Nat → Nat → AVal} {a b v : AVal} (h : twoS g a b = some v) : ∃ (k l : IntKind) (n y : Nat), a = .int k n ∧ b = .int l y ∧ v = g k n y := by
  unfold twoS at h
  cases ha : asInt a with
  | no => rw [ha] at h; cases h
  | yes k n =>
    rw [ha] at h
    cases hb : asInt b with
    | no => simp only [hb] at h; cases h
    | yes l y =>
      simp only [hb] at h
      cases n with
      | negSucc n => cases h
      | ofNat n =>
        cases y with
        | negSucc y => cases h
        | ofNat y => cases h; exact ⟨k, l, n, y, asInt_yes ha, asInt_yes hb, rfl⟩

theorem orElse1_some {r : Option AVal} {f : Unit → Option AVal} {v : AVal} (h : orElse1 r f = some v) : r = some v ∨ f () = some v := by
  cases r with
  | none => exact .inr h
  | some u => exact .inl h
end Go.V
