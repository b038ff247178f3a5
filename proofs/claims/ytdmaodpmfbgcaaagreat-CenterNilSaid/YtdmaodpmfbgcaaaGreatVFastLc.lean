/-
  The operations that only answer a value, of the machine made for the kernel.
-/
import Derived.Test.YtdmaodpmfbgcaaaGreatVFastNum
namespace Go.V
set_option linter.unusedSimpArgs false

section
variable {E : Env} {s : Slots} {m : Mem} {v : AVal}

/-- The value that a light operation answers. -/
abbrev LV (E : Env) (m : Mem) (s : Slots) (op : Op) (v : AVal) : Prop := light E m (evF s) op = some (.val v)

theorem bytes_toList (b : ByteArray) : b.toList = b.data.toList := by
  have : ∀ (n i : Nat) (r : List UInt8), b.size - i = n → ByteArray.toList.loop b i r = r.reverse ++ b.data.toList.drop i := by
    intro n
    induction n with
    | zero =>
      intro i r h
      rw [ByteArray.toList.loop, if_neg (by omega), List.drop_eq_nil_of_le (by simp only [Array.length_toList]; show b.size ≤ i; omega), List.append_nil]
    | succ n ih =>
      intro i r h
      have hlt : i < b.size := by omega
      rw [ByteArray.toList.loop, if_pos hlt, ih (i + 1) _ (by omega)]
      have hl : i < b.data.toList.length := by simpa using hlt
      rw [List.drop_eq_getElem_cons hl]
      have : b.get! i = b.data.toList[i] := by
        show b.data[i]! = _
        have hd : i < b.data.size := hlt
        rw [getElem!_pos b.data i hd]; simp
      rw [this]; simp
  have := this b.size 0 [] (by omega)
  rw [ByteArray.toList, this]; simp

theorem bytesEq_ok : ∀ x y : List UInt8, bytesEq x y = (x == y)
  | [], [] => rfl
  | [], _ :: _ => rfl
  | _ :: _, [] => rfl
  | a :: x, b :: y => by
    show (@Bool.rec (fun _ => Bool) false (bytesEq x y) (Nat.beq a.toNat b.toNat)) = _
    rw [nbeq, bytesEq_ok x y]
    by_cases e : a = b
    · subst e; simp
    · have : a.toNat ≠ b.toNat := fun h => e (UInt8.toNat.inj h)
      simp [this, e]

theorem bin_int {op : BinOp} {xT : TypeId} {k : IntKind} {x y : Int} (h1 : op ≠ .shl) (h2 : op ≠ .shr) : bin E op xT (.int k x) (.int k y) = arith op k x y := by
  cases op <;> simp_all [bin]

theorem eqIB_some {f : Unit → Option AVal} {neg : Bool} {a b v : AVal} (h : eqIB f neg a b = some v) :
    (∃ k n y, a = .int k n ∧ b = .int k y ∧ v = .bool (neg != decide (n = y))) ∨ (∃ x y, a = .str x ∧ b = .str y ∧ v = .bool (neg != (x.data.toList == y.data.toList))) ∨ f () = some v := by
  unfold eqIB at h
  cases ha : asInt a with
  | yes k n =>
    rw [ha] at h
    cases hb : asInt b with
    | no => simp only [hb] at h; cases h
    | yes l y =>
      simp only [hb] at h
      cases hk : Nat.beq (kidx k) (kidx l) with
      | false => simp only [hk] at h; cases h
      | true =>
        simp only [hk] at h
        cases kidx_inj hk
        cases h
        exact .inl ⟨k, n, y, asInt_yes ha, asInt_yes hb, by rw [xorF_ok, eqF_ok]⟩
  | no =>
    rw [ha] at h
    simp only at h
    unfold eqSB at h
    cases hs : asStr a with
    | none => simp only [hs] at h; exact .inr (.inr h)
    | some x =>
      simp only [hs] at h
      cases ht : asStr b with
      | none => simp only [ht] at h; cases h
      | some y =>
        simp only [ht] at h
        cases h
        exact .inr (.inl ⟨x, y, asStr_some hs, asStr_some ht, by rw [xorF_ok, bytesEq_ok]⟩)

theorem binC_ok {op : BinOp} {xT : TypeId} {x y : Operand} (h : (binC E op xT (opn x) (opn y)).l s m = some v) : bin E op xT (evF s x) (evF s y) = some v := by
  have e1 : (opn x).g s = evF s x := rfl
  have e2 : (opn y).g s = evF s y := rfl
  cases op <;> simp only [binC, e1, e2] at h <;> try exact h
  case add =>
    rcases orElse1_some h with h | h
    · obtain ⟨k, n, y, h1, h2, rfl⟩ := two_some h
      rw [h1, h2, bin_int (by decide) (by decide), wrapF_ok, addF_ok]; rfl
    · exact h
  case sub =>
    obtain ⟨k, n, y, h1, h2, rfl⟩ := two_some h
    rw [h1, h2, bin_int (by decide) (by decide), wrapF_ok, subF_ok]; rfl
  case mul =>
    rcases orElse1_some h with h | h
    · obtain ⟨k, n, y, h1, h2, _, _, rfl⟩ := twoN_some h
      rw [h1, h2, bin_int (by decide) (by decide), wrapF_ok]; rfl
    · exact h
  case and =>
    rcases orElse1_some h with h | h
    · obtain ⟨k, n, y, h1, h2, l1, l2, rfl⟩ := twoN_some h
      rw [h1, h2, bin_int (by decide) (by decide)]
      simp only [arith, BitVec.toNat_and, ofInt_toNat k l1, ofInt_toNat k l2]
      rw [wrap_nat k ((kmax_kp k _).2 (Nat.and_lt_two_pow _ ((kmax_kp k _).1 l2)))]; rfl
    · exact h
  case or =>
    rcases orElse1_some h with h | h
    · obtain ⟨k, n, y, h1, h2, l1, l2, rfl⟩ := twoN_some h
      rw [h1, h2, bin_int (by decide) (by decide)]
      simp only [arith, BitVec.toNat_or, ofInt_toNat k l1, ofInt_toNat k l2]
      rw [wrap_nat k ((kmax_kp k _).2 (Nat.or_lt_two_pow ((kmax_kp k _).1 l1) ((kmax_kp k _).1 l2)))]; rfl
    · exact h
  case xor =>
    rcases orElse1_some h with h | h
    · obtain ⟨k, n, y, h1, h2, l1, l2, rfl⟩ := twoN_some h
      rw [h1, h2, bin_int (by decide) (by decide)]
      simp only [arith, BitVec.toNat_xor, ofInt_toNat k l1, ofInt_toNat k l2]
      rw [wrap_nat k ((kmax_kp k _).2 (Nat.xor_lt_two_pow ((kmax_kp k _).1 l1) ((kmax_kp k _).1 l2)))]; rfl
    · exact h
  case shl =>
    rcases orElse1_some h with h | h
    · obtain ⟨k, l, n, y, h1, h2, rfl⟩ := twoS_some h
      rw [h1, h2, wrapF_ok, minF_ok, kbits_ok]
      simp only [bin]
      rw [if_neg (by omega)]
      congr 2
    · exact h
  case shr =>
    rcases orElse1_some h with h | h
    · obtain ⟨k, l, n, y, h1, h2, rfl⟩ := twoS_some h
      rw [h1, h2, minF_ok, kbits_ok]
      simp only [bin]
      rw [if_neg (by omega)]
      congr 2
      have e : ((2 : Int) ^ min ((y : Int)).toNat k.bits) = ((2 ^ min y k.bits : Nat) : Int) := by rw [Int.natCast_pow, Int.toNat_natCast]; rfl
      rw [e]
      exact (Int.ofNat_fdiv n _).symm
    · exact h
  case lss =>
    rcases orElse1_some h with h | h
    · obtain ⟨k, n, y, h1, h2, rfl⟩ := two_some h
      rw [h1, h2, bin_int (by decide) (by decide), ltF_ok]; rfl
    · exact h
  case gtr =>
    rcases orElse1_some h with h | h
    · obtain ⟨k, n, y, h1, h2, rfl⟩ := two_some h
      rw [h1, h2, bin_int (by decide) (by decide), ltF_ok]; rfl
    · exact h
  case leq =>
    rcases orElse1_some h with h | h
    · obtain ⟨k, n, y, h1, h2, rfl⟩ := two_some h
      rw [h1, h2, bin_int (by decide) (by decide), ltF_ok, notB_ok]
      simp only [arith, cmpInt, Option.map_some, ← decide_not, Int.not_lt]
    · exact h
  case geq =>
    rcases orElse1_some h with h | h
    · obtain ⟨k, n, y, h1, h2, rfl⟩ := two_some h
      rw [h1, h2, bin_int (by decide) (by decide), ltF_ok, notB_ok]
      simp only [arith, cmpInt, Option.map_some, ← decide_not, Int.not_lt]
    · exact h
  case eql =>
    rcases eqIB_some h with ⟨k, n, y, h1, h2, rfl⟩ | ⟨a, b, h1, h2, rfl⟩ | h
    · rw [h1, h2, bin_int (by decide) (by decide)]; simp [arith, cmpInt]
    · rw [h1, h2]; simp [bin, strOp, bytes_toList]
    · exact h
  case neq =>
    rcases eqIB_some h with ⟨k, n, y, h1, h2, rfl⟩ | ⟨a, b, h1, h2, rfl⟩ | h
    · rw [h1, h2, bin_int (by decide) (by decide)]; simp [arith, cmpInt]
    · rw [h1, h2]; simp [bin, strOp, bytes_toList]
    · exact h
end
end Go.V
