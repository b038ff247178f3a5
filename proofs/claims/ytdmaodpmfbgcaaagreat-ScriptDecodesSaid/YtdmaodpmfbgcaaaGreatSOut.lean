/-
  The codec's Out: numbers and texts put, on the abstract machine.
-/
import Derived.Test.YtdmaodpmfbgcaaaGreatSBase
set_option maxRecDepth 100000
namespace Go.Proofs.Tryz
open Go Go.V Go.SC
attribute [local simp] runOp wanted isHeavy light St.ev St.slot_mk sget_put St.put_mk cl_int cl_bool cl_str cl_ptr cl_nil cl_ref cl_imm cl_agg cl_nilp NewV.at nblt nble nbeq ofConst ofConst1 fieldOf sh_ptr sh_iptr rc_ptr rc_iptr lget mkVal VD.isAgg lenOf bin ar_add ar_sub ar_mul ar_eql ar_neq ar_lss ar_leq ar_gtr ar_geq argSlots un heavy writeCells lput eqVals next_add next_upd fillA zeros

/-! ### What numbers come to -/
theorem xor_none {a : Nat} (h : a < 18446744073709551616) : (BitVec.ofInt 64 (a : Int) ^^^ BitVec.ofInt 64 0).toNat = a := by
  rw [BitVec.ofInt_natCast]
  simp
  omega
theorem xor_all {a : Nat} (h : a < 18446744073709551616) : (BitVec.ofInt 64 (a : Int) ^^^ BitVec.ofInt 64 18446744073709551615).toNat = 18446744073709551615 - a := by
  rw [BitVec.ofInt_natCast, show BitVec.ofInt 64 18446744073709551615 = BitVec.allOnes 64 from rfl, BitVec.xor_allOnes, BitVec.toNat_not, BitVec.toNat_ofNat]
  omega
theorem fdiv63 {v : Int} (h1 : -9223372036854775808 ≤ v) (h2 : v ≤ 9223372036854775807) : v.fdiv (2 ^ 63) = if 0 ≤ v then 0 else -1 := by
  rw [Int.fdiv_eq_ediv_of_nonneg _ (by decide)]
  split <;> omega
theorem u64i (z : Int) : IntKind.u64.wrap z = z % 18446744073709551616 := by
  simp [IntKind.wrap, IntKind.bits, IntKind.signed]
theorem zig_bits {v : Int} (h1 : -9223372036854775808 ≤ v) (h2 : v ≤ 9223372036854775807) :
    IntKind.u64.wrap (BitVec.ofInt 64 (IntKind.u64.wrap (IntKind.u64.wrap v * 2)) ^^^ BitVec.ofInt 64 (IntKind.u64.wrap (v.fdiv (2 ^ 63)))).toNat = ((zig v : Nat) : Int) := by
  have hz := zig_lt h1 h2
  rw [fdiv63 h1 h2]
  by_cases h : 0 ≤ v
  · rw [if_pos h]
    have e : IntKind.u64.wrap (IntKind.u64.wrap v * 2) = ((zig v : Nat) : Int) := by
      rw [u64i, u64i]; unfold zig; rw [if_pos h]; omega
    rw [e, show IntKind.u64.wrap 0 = 0 from rfl, xor_none hz, u64w, Nat.mod_eq_of_lt hz]
  · rw [if_neg h]
    have e : IntKind.u64.wrap (IntKind.u64.wrap v * 2) = ((18446744073709551615 - zig v : Nat) : Int) := by
      rw [u64i, u64i]; unfold zig at *; rw [if_neg h] at *; omega
    rw [e, show IntKind.u64.wrap (-1) = 18446744073709551615 from rfl, xor_all (by omega), u64w, Nat.mod_eq_of_lt (by omega)]
    congr 1; omega
theorem or128 (n : Nat) : arith .or .u8 (IntKind.u8.wrap (n : Int)) 128 = some (.int .u8 ((UInt8.ofNat (n % 128 + 128)).toNat : Nat)) := by
  rw [toNat_ofNat (by omega)]
  show some (AVal.int .u8 (IntKind.u8.wrap (BitVec.ofInt 8 (IntKind.u8.wrap (n : Int)) ||| BitVec.ofInt 8 128).toNat)) = _
  rw [u8w n, BitVec.ofInt_natCast]
  have h : ∀ k : Nat, k < 256 → (BitVec.ofNat 8 k ||| BitVec.ofInt 8 128).toNat = k % 128 + 128 := by decide
  rw [h _ (Nat.mod_lt _ (by decide)), u8w]
  congr 2; omega
theorem fdiv_nat (n k : Nat) : ((n : Nat) : Int).fdiv ((2 : Int) ^ k) = ((n / 2 ^ k : Nat) : Int) := by
  rw [Int.fdiv_eq_ediv_of_nonneg _ (Int.pow_nonneg (by decide))]
  simp

/-! ### Out -/
def SO : TypeId → Bool := fun t => Nat.beq t 229 || Nat.beq t 5
def S5 : TypeId → Bool := fun t => Nat.beq t 5
theorem S5_SO (t : TypeId) (h : SO t = false) : S5 t = false := by unfold SO at h; unfold S5; simp only [Bool.or_eq_false_iff] at h; exact h.2
def OutR (m : Mem) (o : Nat) (bs : List UInt8) : Prop := ∃ v, m.at o ⟨229, [v], 0⟩ ∧ GV m v bs

theorem fns128 : ES.fns.get 128 = some f128 := by kernel_rfl
theorem vntmps128 : f128.ntmps = 41 := by kernel_rfl
theorem vresults128 : f128.results.toList = [] := by kernel_rfl
theorem body128 : f128.body = some ((f128.body).getD .skip) := by kernel_rfl
noncomputable def loop128 : Code := match f128.body with
  | some (.seq _ (.seq _ (.seq (.block _ l) _))) => l
  | _ => .skip

theorem outNum_loop (o : Nat) : ∀ (u : Nat) (bs : List UInt8) (sl : Slots) (mm : Mem), u < 18446744073709551616 → sget sl 0 = .ptr o 1 0 → sget sl 4 = .int .u64 (u : Nat) → OutR mm o bs → mm.next + 2 * (enc7 u).length ≤ 1000000 → bs.length + (enc7 u).length ≤ 1000000 →
    vwp ES loop128 (fun ex st => ex = .exit 0 ∧ ∃ sl' mm' pre last, st = ⟨128, 41, sl', mm'⟩ ∧ enc7 u = pre ++ [UInt8.ofNat last] ∧ last < 128 ∧ sget sl' 0 = .ptr o 1 0 ∧ sget sl' 4 = .int .u64 (last : Nat) ∧ OutR mm' o (bs ++ pre) ∧ Fr SO mm mm' (2 * pre.length)) ⟨128, 41, sl, mm⟩ := by
  intro u
  induction u using Nat.strongRecOn with
  | _ u ih =>
    intro bs sl mm hu h0 h4 hO hn hl
    unfold loop128 f128
    by_cases hc : u < 128
    · have hc' : ¬ (128 : Int) ≤ (u : Int) := by omega
      refine vwp_loop (vwp_seq (vwp_seq ?_))
      refine vwp_region ?_
      iterate 2 (refine vops_cons (n := 0) (by simp [h4, hc']; rfl) ?_)
      refine vops_nil ?_
      refine vwp_cond (t := false) (by simp [St.ev, St.slot_mk, sget_put]) (vwp_exit ?_)
      exact ⟨rfl, _, mm, [], u, rfl, enc7_lt hc, hc, by simp [h0], by simp [h4], by rw [List.append_nil]; exact hO, .refl _ _⟩
    · have hc' : (128 : Int) ≤ (u : Int) := by omega
      have he := enc7_ge (u := u) (by omega)
      rw [he, List.length_cons] at hn hl
      have hlen : 0 < (enc7 (u / 128)).length := List.length_pos_iff.2 (enc7_len_pos _)
      obtain ⟨v, ho, hv⟩ := hO
      refine vwp_loop (vwp_seq (vwp_seq ?_))
      refine vwp_region ?_
      iterate 2 (refine vops_cons (n := 0) (by simp [h4, hc']; rfl) ?_)
      refine vops_nil ?_
      refine vwp_cond (t := true) (by simp [St.ev, St.slot_mk, sget_put]) (vwp_skip ?_)
      refine vwp_seq (vwp_block ?_)
      refine vwp_region ?_
      have hnx : mm.next < 1048576 := by omega
      have e1 := or128 u
      rw [he] at *
      generalize UInt8.ofNat (u % 128 + 128) = c at *
      iterate 9 (refine vops_cons (n := 0) (by simp [h0, h4, ty229, ty22, ty371, ty5, ho.2, hnx, e1]; rfl) ?_)
      obtain ⟨v', m', hap, hG, hu1, hu2, hk, _⟩ := (hv.add hnx ⟨5, B8 [c], 0⟩).append (ve := ⟨.int .u8, 1, 1, [.int .u8 (0)], (some [.i])⟩) rfl (by decide) (E8_one [c]) (by rw [next_add]; omega) (by rw [E8_len, E8_len]; simp; omega)
      rw [next_add] at hu1 hu2
      have hF := ((hv.add hnx ⟨5, B8 [c], 0⟩).frame (S := S5) rfl hu1 hu2 hk)
      have ho' := hF.keep o _ (at_add _ hnx ho) rfl
      refine vops_append (v' := v') (m' := m') rfl rfl rfl rfl ty22 rfl ty5 rfl (k := 1) (cs := B8 [c]) ?_ ?_ ⟨_, by simp; rfl, ?_⟩
      · simp [appended, ty22, ty5, sliceLen, sliceCells, get_add_self _ _ hnx]; rfl
      · simp; exact hap
      iterate 3 (refine vops_cons (n := 0) (by simp [ty22, ho'.2, hG.cl]; rfl) ?_)
      refine vops_nil ?_
      refine vwp_region ?_
      iterate 3 (refine vops_cons (n := 0) (by simp [h4]; rfl) ?_)
      refine vops_nil ?_
      have hN : m'.next ≤ 1048576 := by omega
      have hG' : GV m' v' (bs ++ [c]) := by rw [GV, E8_append]; exact hG
      refine (ih (u / 128) (by omega) (bs ++ [c]) _ _ (by omega) (by simp [h0]) ?_ ⟨v', at_upd_self ho' hN _, hG'.upd hN ho' (show (229 : Nat) ≠ 5 by decide) _⟩ (by rw [next_upd]; omega) (by rw [List.length_append, List.length_singleton]; omega)).mono ?_
      · simp
        exact fdiv_nat u 7
      · rintro ex st ⟨rfl, sl', mm', pre, last, rfl, e, hl, a, b, hO, hFr⟩
        refine ⟨rfl, sl', mm', c :: pre, last, rfl, by rw [e]; rfl, hl, a, b, by simpa using hO, ?_⟩
        have f1 : Fr SO mm m' 2 := (Fr.add mm ⟨5, B8 [c], 0⟩ hnx).trans (hF.mono (Nat.le_refl _) S5_SO) (Nat.le_refl _)
        exact (f1.trans (Fr.upd ho' hN rfl ⟨229, [v'], 0⟩) (Nat.le_refl _)).trans hFr (by rw [List.length_cons]; omega)

/-- A number is put. -/
theorem outNum_ok {m : Mem} {o : Nat} {bs : List UInt8} {v : Int} (hO : OutR m o bs) (h1 : -9223372036854775808 ≤ v) (h2 : v ≤ 9223372036854775807) (hn : m.next ≤ 900000) (hl : bs.length ≤ 900000) :
    vcall ES 128 [.ptr o 1 0, .int .i64 v] m fun r m' => r = .tup [] ∧ OutR m' o (bs ++ numB v) ∧ Fr SO m m' 30 := by
  have hz := zig_lt h1 h2
  have hz10 : (enc7 (zig v)).length ≤ 10 := enc7_len 9 _ (by have : (18446744073709551616 : Nat) ≤ 2 ^ (7 * (9 + 1)) := by decide
                                                             omega)
  refine vcall_body (fn := f128) (c := ((f128.body).getD .skip)) rfl fns128 body128 (by rw [vntmps128]; show 2 ≤ 41; decide) (by rw [vntmps128]; decide) ?_
  rw [vntmps128]
  simp only [vresults128]
  unfold f128
  simp only [Option.getD_some]
  have hzb := zig_bits h1 h2
  refine vwp_seq (vwp_seq ?_)
  refine vwp_region ?_
  iterate 2 (refine vops_cons (n := 0) (by simp [ty259]; rfl) ?_)
  refine vops_nil ?_
  refine vwp_cond (t := false) (by simp [St.ev, St.slot_mk, sget_put]) (vwp_skip ?_)
  refine vwp_seq ?_
  refine vwp_region ?_
  have hx : arith .xor .u64 (IntKind.u64.wrap (IntKind.u64.wrap v * 2)) (IntKind.u64.wrap (v.fdiv 9223372036854775808)) = some (.int .u64 ((zig v : Nat) : Int)) := by
    show some (AVal.int .u64 _) = _
    rw [← hzb]; rfl
  have hm1 : min 1 IntKind.u64.bits = 1 := rfl
  have hm63 : min 63 IntKind.i64.bits = 63 := rfl
  iterate 8 (refine vops_cons (n := 0) (by simp [ty2, ty371, hm1, hm63, hx]; rfl) ?_)
  refine vops_nil ?_
  refine vwp_seq (vwp_block ?_)
  refine (outNum_loop o (zig v) bs _ m hz (by simp) (by simp) hO (by omega) (by omega)).mono ?_
  rintro ex st ⟨rfl, sl, mm, pre, last, rfl, he, hl', s0, s4, hO', hF⟩
  obtain ⟨w, ho, hv⟩ := hO'
  have hpl : pre.length ≤ 9 := by have := congrArg List.length he; rw [List.length_append, List.length_singleton] at this; omega
  have hmx := hF.most
  have hnx : mm.next < 1048576 := by omega
  have e1 : IntKind.u8.wrap ((last : Nat) : Int) = (((UInt8.ofNat last).toNat : Nat) : Int) := by rw [toNat_ofNat (by omega), u8w, Nat.mod_eq_of_lt (by omega)]
  have hN : numB v = pre ++ [UInt8.ofNat last] := he
  rw [hN]
  generalize UInt8.ofNat last = c at *
  refine vwp_region ?_
  iterate 8 (refine vops_cons (n := 0) (by simp [s0, s4, ty229, ty22, ty371, ty5, ho.2, hnx, e1]; rfl) ?_)
  obtain ⟨v', m', hap, hG, hu1, hu2, hk, _⟩ := (hv.add hnx ⟨5, B8 [c], 0⟩).append (ve := ⟨.int .u8, 1, 1, [.int .u8 (0)], (some [.i])⟩) rfl (by decide) (E8_one [c]) (by rw [next_add]; omega) (by rw [E8_len, E8_len, List.length_append]; simp; omega)
  rw [next_add] at hu1 hu2
  have hF' := ((hv.add hnx ⟨5, B8 [c], 0⟩).frame (S := S5) rfl hu1 hu2 hk)
  have ho' := hF'.keep o _ (at_add _ hnx ho) rfl
  refine vops_append (v' := v') (m' := m') rfl rfl rfl rfl ty22 rfl ty5 rfl (k := 1) (cs := B8 [c]) ?_ ?_ ⟨_, by simp; rfl, ?_⟩
  · simp [appended, ty22, ty5, sliceLen, sliceCells, get_add_self _ _ hnx]; rfl
  · simp; exact hap
  iterate 3 (refine vops_cons (n := 0) (by simp [ty22, ho'.2, hG.cl]; rfl) ?_)
  refine vops_nil ?_
  have hNx : m'.next ≤ 1048576 := by omega
  have hG' : GV m' v' (bs ++ (pre ++ [c])) := by rw [GV, ← List.append_assoc, E8_append]; exact hG
  refine ⟨.inl rfl, [], rfl, rfl, ⟨v', at_upd_self ho' hNx _, hG'.upd hNx ho' (show (229 : Nat) ≠ 5 by decide) _⟩, ?_⟩
  have f1 : Fr SO mm m' 2 := (Fr.add mm ⟨5, B8 [c], 0⟩ hnx).trans (hF'.mono (Nat.le_refl _) S5_SO) (Nat.le_refl _)
  exact (hF.trans f1 (Nat.le_refl _)).trans (Fr.upd ho' hNx rfl ⟨229, [v'], 0⟩) (by omega)

/-! ### Texts -/
theorem fns129 : ES.fns.get 129 = some f129 := by kernel_rfl
theorem vntmps129 : f129.ntmps = 19 := by kernel_rfl
theorem vresults129 : f129.results.toList = [] := by kernel_rfl
theorem body129 : f129.body = some ((f129.body).getD .skip) := by kernel_rfl
theorem fns130 : ES.fns.get 130 = some f130 := by kernel_rfl
theorem vntmps130 : f130.ntmps = 19 := by kernel_rfl
theorem vresults130 : f130.results.toList = [.tmp 2, .tmp 3] := by kernel_rfl
theorem body130 : f130.body = some ((f130.body).getD .skip) := by kernel_rfl
theorem fns64 : ES.fns.get 64 = some f64 := by kernel_rfl
theorem vntmps64 : f64.ntmps = 8 := by kernel_rfl
theorem vresults64 : f64.results.toList = [.tmp 2] := by kernel_rfl
theorem body64 : f64.body = some ((f64.body).getD .skip) := by kernel_rfl

/-- A text is put. -/
theorem outText_ok {m : Mem} {o : Nat} {bs s : List UInt8} (hO : OutR m o bs) (hn : m.next ≤ 800000) (hl : bs.length ≤ 800000) (hs : s.length ≤ 1000) :
    vcall ES 129 [.ptr o 1 0, .str (mkS s)] m fun r m' => r = .tup [] ∧ OutR m' o (bs ++ txtB s) ∧ Fr SO m m' 31 := by
  refine vcall_body (fn := f129) (c := ((f129.body).getD .skip)) rfl fns129 body129 (by rw [vntmps129]; show 2 ≤ 19; decide) (by rw [vntmps129]; decide) ?_
  rw [vntmps129]
  simp only [vresults129]
  unfold f129
  simp only [Option.getD_some]
  refine vwp_seq ?_
  refine vwp_region ?_
  iterate 2 (refine vops_cons (n := 0) (by simp (maxSteps := 1000000) [ty259]; rfl) ?_)
  refine vops_nil ?_
  refine vwp_cond (t := true) (by simp [St.ev, St.slot_mk, sget_put]) ?_
  refine vwp_seq (vwp_region ?_)
  iterate 3 (refine vops_cons (n := 0) (by simp (maxSteps := 1000000) [ty9, mkS_size]; rfl) ?_)
  refine vops_call (g := 128) rfl rfl rfl ?_
  have hlen : (numB s.length).length ≤ 2 := numB_nat (by omega)
  refine (outNum_ok (v := ((s.length : Nat) : Int)) hO (by omega) (by omega) (by omega) (by omega)).mono fun r m1 h => ?_
  obtain ⟨rfl, ⟨w, ho, hv⟩, hF⟩ := h
  refine ⟨_, by simp; rfl, ?_⟩
  refine vops_nil (vwp_region ?_)
  have hmx := hF.most
  have hnx : m1.next < 1048576 := by omega
  iterate 6 (refine vops_cons (n := 0) (by simp (maxSteps := 1000000) [ty22, ty229, ho.2]; rfl) ?_)
  obtain ⟨v', m', hap, hG, hu1, hu2, hk, _⟩ := hv.append (ve := ⟨.int .u8, 1, 1, [.int .u8 (0)], (some [.i])⟩) rfl (by decide) (E8_one s) hnx (by rw [E8_len, E8_len, List.length_append]; omega)
  have hF' := hv.frame (S := S5) rfl hu1 hu2 hk
  have ho' := hF'.keep o _ ho rfl
  rw [E8_len, E8_flat] at hap
  refine vops_append (v' := v') (m' := m') rfl rfl rfl rfl ty22 rfl ty5 rfl (k := s.length) (cs := B8 s) ?_ ?_ ⟨_, by simp; rfl, ?_⟩
  · simp [appended, ty9, mkS_size, mkS_data]; rfl
  · simp; exact hap
  iterate 3 (refine vops_cons (n := 0) (by simp (maxSteps := 1000000) [ty22, ho'.2, hG.cl]; rfl) ?_)
  refine vops_nil ?_
  have hNx : m'.next ≤ 1048576 := by omega
  have hG' : GV m' v' (bs ++ txtB s) := by rw [GV, txtB, ← List.append_assoc, E8_append]; exact hG
  refine ⟨.inl rfl, [], rfl, rfl, ⟨v', at_upd_self ho' hNx _, hG'.upd hNx ho' (show (229 : Nat) ≠ 5 by decide) _⟩, ?_⟩
  exact (hF.trans (hF'.mono (Nat.le_refl _) S5_SO) (Nat.le_refl _)).trans (Fr.upd ho' hNx rfl ⟨229, [v'], 0⟩) (by omega)

/-! ### Clones -/
/-- A slice that can be compared with nil. -/
def NilT (v : AVal) : Prop := v = .nil true ∨ (∃ a b c d e f g, v = .ref a b c d e f g) ∨ (∃ x l n, v = .imm (x :: l) n)
/-- A new buffer with these bytes, or none at all. -/
def NewB (m m' : Mem) (r : AVal) (bs : List UInt8) : Prop := BV m' r bs ∧ (bs ≠ [] → ∃ b, r = .ref b bs.length 0 bs.length bs.length false 1 ∧ m.next ≤ b ∧ m'.at b ⟨5, B8 bs, 0⟩) ∧ ∃ b ex, r = .ref b bs.length 0 bs.length bs.length ex 1 ∧ m.next ≤ b

theorem clone_nil {m : Mem} : vcall ES 64 [.nil true] m fun r m' => r = .nil true ∧ m' = m := by
  refine vcall_body (fn := f64) (c := ((f64.body).getD .skip)) rfl fns64 body64 (by rw [vntmps64]; show 1 ≤ 8; decide) (by rw [vntmps64]; decide) ?_
  rw [vntmps64]
  simp only [vresults64]
  unfold f64
  simp only [Option.getD_some]
  refine vwp_seq ?_
  refine vwp_region ?_
  iterate 1 (refine vops_cons (n := 0) (by simp (maxSteps := 1000000) []; rfl) ?_)
  refine vops_nil ?_
  refine vwp_seq (vwp_seq ?_)
  refine vwp_region ?_
  iterate 2 (refine vops_cons (n := 0) (by simp (maxSteps := 1000000) [ty22]; rfl) ?_)
  refine vops_nil ?_
  refine vwp_cond (t := true) (by simp [St.ev, St.slot_mk, sget_put]) ?_
  refine vwp_seq ?_
  refine vwp_region ?_
  iterate 1 (refine vops_cons (n := 0) (by simp (maxSteps := 1000000) []; rfl) ?_)
  refine vops_nil ?_
  exact vwp_ret ⟨.inr rfl, [.nil true], by simp [resultVals], rfl, rfl⟩

theorem clone_imm0 {m : Mem} : vcall ES 64 [.imm [] 0] m fun r m' => r = .nil false ∧ m' = m := ⟨1, _, _, rfl, rfl, rfl⟩

theorem clone_ok {m : Mem} {v : AVal} {bs : List UInt8} (hv : BV m v bs) (hN : (∃ a b c d e f g, v = .ref a b c d e f g) ∨ (∃ x l n, v = .imm (x :: l) n)) (hn : m.next ≤ 900000) (hl : bs.length ≤ 900000) :
    vcall ES 64 [v] m fun r m' => NewB m m' r bs ∧ Fr (fun _ => false) m m' 2 := by
  have ho : ES.orc 64 [v] = none := by rcases hN with ⟨a, b, c, d, e, f, g, rfl⟩ | ⟨x, l, n, rfl⟩ <;> rfl
  refine vcall_body (fn := f64) (c := ((f64.body).getD .skip)) ho fns64 body64 (by rw [vntmps64]; show 1 ≤ 8; decide) (by rw [vntmps64]; decide) ?_
  rw [vntmps64]
  simp only [vresults64]
  unfold f64
  simp only [Option.getD_some]
  refine vwp_seq ?_
  refine vwp_region ?_
  iterate 1 (refine vops_cons (n := 0) (by simp (maxSteps := 1000000) []; rfl) ?_)
  refine vops_nil ?_
  refine vwp_seq (vwp_seq ?_)
  refine vwp_region ?_
  iterate 1 (refine vops_cons (n := 0) (by simp (maxSteps := 1000000) []; rfl) ?_)
  refine vops_cons (n := 0) (s := ⟨64, 8, ((((argSlots 0 [v] Slots.nil).put 2 (.nil true)).put 3 v).put 4 (.bool false)), m⟩) ?_ ?_
  · rcases hN with ⟨a, b, c, d, e, f, g, rfl⟩ | ⟨x, l, n, rfl⟩ <;> simp [ty22]
  refine vops_nil ?_
  refine vwp_cond (t := false) (by simp [St.ev, St.slot_mk, sget_put]) (vwp_skip ?_)
  refine vwp_seq (vwp_region ?_)
  have hnx : m.next < 1048576 := by omega
  iterate 2 (refine vops_cons (n := 0) (by simp (maxSteps := 1000000) [ty22, ty5, hnx]; rfl) ?_)
  have hl1 : sliceLen v = some bs.length := by rw [hv.len, E8_len]
  have hc1 : sliceCells (m.add ⟨5, [], 0⟩) v bs.length 1 = some (B8 bs) := by
    have h := (hv.fr (Fr.add (S := fun _ => false) m ⟨5, [], 0⟩ hnx) rfl).cells (n := bs.length) (by rw [E8_len]; exact Nat.le_refl _)
    rw [h, E8_take, List.take_of_length_le (Nat.le_refl _), E8_flat]
  have hb := get_add_self m ⟨5, [], 0⟩ hnx
  have hF1 := Fr.add (S := fun _ => false) m ⟨5, [], 0⟩ hnx
  by_cases h0 : bs = []
  · subst h0
    refine vops_append (v' := .ref m.next 0 0 0 0 true 1) (m' := m.add ⟨5, [], 0⟩) rfl rfl rfl rfl ty22 rfl ty5 rfl (k := 0) (cs := []) ?_ ?_ ⟨_, by simp; rfl, ?_⟩
    · simp [appended, ty22, hl1]; exact hc1
    · simp [appendTo]
    iterate 1 (refine vops_cons (n := 0) (by simp (maxSteps := 1000000) []; rfl) ?_)
    refine vops_nil (vwp_ret ⟨.inr rfl, _, by simp [resultVals]; rfl, ⟨?_, fun h => absurd rfl h, m.next, true, rfl, Nat.le_refl _⟩, hF1.le (by decide)⟩)
    exact .ref m.next 0 0 0 true ⟨5, [], 0⟩ [] (fun _ h => by cases h) (at_add_self m _ hnx) rfl rfl rfl (Nat.le_refl _)
  · have hlp : bs.length ≠ 0 := fun h => h0 (List.length_eq_zero_iff.1 h)
    have hlb : bs.length ≤ 1048576 := by omega
    have hnx2 : (m.add ⟨5, [], 0⟩).next < 1048576 := by rw [next_add]; omega
    have hnx3 : m.next + 1 < 1048576 := hnx2
    refine vops_append (v' := .ref (m.next + 1) bs.length 0 bs.length bs.length false 1) (m' := (m.add ⟨5, [], 0⟩).add ⟨5, B8 bs, 0⟩) rfl rfl rfl rfl ty22 rfl ty5 rfl (k := bs.length) (cs := B8 bs) ?_ ?_ ⟨_, by simp; rfl, ?_⟩
    · simp [appended, ty22, hl1, hc1]
    · simp [appendTo, hlp, hlb, hb, hnx3]
    iterate 1 (refine vops_cons (n := 0) (by simp (maxSteps := 1000000) []; rfl) ?_)
    have ha := at_add_self (m.add ⟨5, [], 0⟩) ⟨5, B8 bs, 0⟩ hnx2
    refine vops_nil (vwp_ret ⟨.inr rfl, _, by simp [resultVals]; rfl, ⟨?_, fun _ => ⟨m.next + 1, rfl, Nat.le_succ _, ha⟩, m.next + 1, false, rfl, Nat.le_succ _⟩, hF1.trans (Fr.add _ ⟨5, B8 bs, 0⟩ hnx2) (Nat.le_refl _)⟩)
    have := SlV.ref (m := (m.add ⟨5, [], 0⟩).add ⟨5, B8 bs, 0⟩) (ty := 5) (sz := 1) (m.next + 1) bs.length 0 bs.length false ⟨5, B8 bs, 0⟩ (E8 bs) (E8_one bs) ha rfl (by simp [B8]) (by rw [E8_len, E8_flat, List.drop_zero, List.take_of_length_le (by simp [B8])]) (by rw [E8_len]; exact Nat.le_refl _)
    rw [E8_len] at this
    exact this

/-! ### The bytes that were gathered -/
theorem outEnd_ok {m : Mem} {o : Nat} {bs : List UInt8} (hO : OutR m o bs) (hn : m.next ≤ 800000) (hl : bs.length ≤ 60000) :
    vcall ES 130 [.ptr o 1 0] m fun r m' => ∃ v, r = .tup [v, .int .i64 0] ∧ BV m' v bs ∧ (v = .nil true ∨ ∃ a b c d e f g, v = .ref a b c d e f g) ∧ Fr (fun _ => false) m m' 2 := by
  refine vcall_body (fn := f130) (c := ((f130.body).getD .skip)) rfl fns130 body130 (by rw [vntmps130]; show 1 ≤ 19; decide) (by rw [vntmps130]; decide) ?_
  rw [vntmps130]
  simp only [vresults130]
  unfold f130
  simp only [Option.getD_some]
  obtain ⟨v, ho, hv⟩ := hO
  have hlen : sliceLen v = some bs.length := by rw [hv.bv.len, E8_len]
  have hlt : ¬ (60000 : Int) < (bs.length : Int) := by omega
  refine vwp_seq ?_
  refine vwp_region ?_
  iterate 2 (refine vops_cons (n := 0) (by simp (maxSteps := 1000000) []; rfl) ?_)
  refine vops_nil ?_
  refine vwp_seq (vwp_block (vwp_seq ?_))
  refine vwp_region ?_
  iterate 3 (refine vops_cons (n := 0) (by simp (maxSteps := 1000000) [ty259]; rfl) ?_)
  refine vops_nil ?_
  refine vwp_cond (t := false) (by simp [St.ev, St.slot_mk, sget_put]) ?_
  refine vwp_seq ?_
  refine vwp_region ?_
  iterate 7 (refine vops_cons (n := 0) (by simp (maxSteps := 1000000) [ty229, ty22, ho.2, hlen, hlt]; rfl) ?_)
  refine vops_nil ?_
  refine vwp_cond (t := false) (by simp [St.ev, St.slot_mk, sget_put]) (vwp_skip ?_)
  refine vwp_seq (vwp_region ?_)
  iterate 4 (refine vops_cons (n := 0) (by simp (maxSteps := 1000000) [ty229, ty22, ho.2]; rfl) ?_)
  refine vops_callv (g := 64) (first := []) (cap := []) (avs := [v]) rfl rfl rfl (by simp) ?_
  have hcl : vcall ES 64 [v] m fun r m' => BV m' r bs ∧ (r = .nil true ∨ ∃ a b c d e f g, r = .ref a b c d e f g) ∧ Fr (fun _ => false) m m' 2 := by
    obtain ⟨_, ⟨h0, rfl⟩ | ⟨b, rfl, hb⟩⟩ := id hv
    · refine clone_nil.mono fun r m' h => ?_
      obtain ⟨rfl, rfl⟩ := h
      exact ⟨hv.bv, .inl rfl, (Fr.refl _ _).le (by decide)⟩
    · refine (clone_ok hv.bv (.inl ⟨_, _, _, _, _, _, _, rfl⟩) (by omega) (by omega)).mono fun r m' h => ?_
      obtain ⟨⟨h1, _, b', ex, rfl, _⟩, h3⟩ := h
      exact ⟨h1, .inr ⟨_, _, _, _, _, _, _, rfl⟩, h3⟩
  refine hcl.mono fun r m' h => ?_
  obtain ⟨h1, h2, h3⟩ := h
  refine ⟨_, by simp; rfl, ?_⟩
  iterate 2 (refine vops_cons (n := 0) (by simp (maxSteps := 1000000) []; rfl) ?_)
  refine vops_nil (vwp_ret ⟨.inr rfl, _, by simp [resultVals]; rfl, ⟨r, rfl, h1, h2, h3⟩⟩)
end Go.Proofs.Tryz
