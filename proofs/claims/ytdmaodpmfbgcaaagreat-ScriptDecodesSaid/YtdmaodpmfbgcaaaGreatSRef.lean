/-
  The reference's numbers and texts as bytes, on the abstract machine.
-/
import Derived.Test.YtdmaodpmfbgcaaaGreatSRight
set_option maxRecDepth 100000
namespace Go.Proofs.Tryz
open Go Go.V Go.SC
attribute [local simp] runOp wanted isHeavy light St.ev St.slot_mk sget_put St.put_mk cl_int cl_bool cl_str cl_ptr cl_nil cl_ref cl_imm cl_agg cl_nilp NewV.at nblt nble nbeq ofConst ofConst1 fieldOf sh_ptr sh_iptr rc_ptr rc_iptr lget mkVal VD.isAgg lenOf bin ar_add ar_sub ar_mul ar_eql ar_neq ar_lss ar_leq ar_gtr ar_geq argSlots un heavy writeCells lput eqVals next_add next_upd fillA zeros natOf_cast
theorem fns144 : ES.fns.get 144 = some f144 := by kernel_rfl
theorem vntmps144 : f144.ntmps = 32 := by kernel_rfl
theorem vresults144 : f144.results.toList = [.tmp 2] := by kernel_rfl
theorem body144 : f144.body = some ((f144.body).getD .skip) := by kernel_rfl
theorem fns143 : ES.fns.get 143 = some f143 := by kernel_rfl
theorem vntmps143 : f143.ntmps = 8 := by kernel_rfl
theorem vresults143 : f143.results.toList = [.tmp 2] := by kernel_rfl
theorem body143 : f143.body = some ((f143.body).getD .skip) := by kernel_rfl
theorem fns142 : ES.fns.get 142 = some f142 := by kernel_rfl
theorem vntmps142 : f142.ntmps = 19 := by kernel_rfl
theorem vresults142 : f142.results.toList = [.tmp 2] := by kernel_rfl
theorem body142 : f142.body = some ((f142.body).getD .skip) := by kernel_rfl
theorem rem_nat (k : IntKind) (n d : Nat) (hd : d ≠ 0) : arith .rem k ((n : Nat) : Int) ((d : Nat) : Int) = some (.int k ((n % d : Nat) : Int)) := by
  show (if ((d : Nat) : Int) = 0 then none else some (AVal.int k (((n : Nat) : Int).tmod ((d : Nat) : Int)))) = _
  rw [if_neg (by omega)]; rfl
theorem quo_u64 (n d : Nat) (hd : d ≠ 0) (hn : n < 18446744073709551616) : arith .quo .u64 ((n : Nat) : Int) ((d : Nat) : Int) = some (.int .u64 ((n / d : Nat) : Int)) := by
  show (if ((d : Nat) : Int) = 0 then none else some (AVal.int .u64 (IntKind.u64.wrap (((n : Nat) : Int).tdiv ((d : Nat) : Int))))) = _
  rw [if_neg (by omega), show ((n : Nat) : Int).tdiv ((d : Nat) : Int) = ((n / d : Nat) : Int) from rfl, u64w, Nat.mod_eq_of_lt (Nat.lt_of_le_of_lt (Nat.div_le_self _ _) hn)]
theorem appended_bv {m : Mem} {x : AVal} {xs : List UInt8} (h : BV m x xs) : appended ES m ⟨.int .u8, 1, 1, [.int .u8 (0)], (some [.i])⟩ (some 22) x = some (xs.length, B8 xs) := by
  have h1 : sliceLen x = some xs.length := by rw [h.len, E8_len]
  have h2 : sliceCells m x xs.length 1 = some (B8 xs) := by
    rw [h.cells (by rw [E8_len]; exact Nat.le_refl _), E8_take, List.take_of_length_le (Nat.le_refl _), E8_flat]
  simp only [appended, ty22, h1, Option.bind_some, h2, Option.map_some]
/-- More bytes to a buffer. -/
theorem GV.more {m : Mem} {v : AVal} {bs : List UInt8} (h : GV m v bs) (xs : List UInt8) (hm : m.next < 1048576) (hl : bs.length + xs.length ≤ 1048576) :
    ∃ v' m', appendTo m 5 ⟨.int .u8, 1, 1, [.int .u8 (0)], (some [.i])⟩ v xs.length (B8 xs) = some (v', m') ∧ GV m' v' (bs ++ xs) ∧ m.next ≤ m'.next ∧ m'.next ≤ m.next + 1 ∧ (∀ b B, m.at b B → refBlk v ≠ some b → m'.at b B) ∧ (refBlk v' = refBlk v ∨ refBlk v' = some m.next) ∧ Fr S5 m m' 1 := by
  obtain ⟨v', m', a1, a2, a3, a4, a5, a6⟩ := h.append (ve := ⟨.int .u8, 1, 1, [.int .u8 (0)], (some [.i])⟩) rfl (by decide) (E8_one xs) hm (by rw [E8_len, E8_len]; exact hl)
  rw [E8_len, E8_flat] at a1
  exact ⟨v', m', a1, by rw [GV, E8_append]; exact a2, a3, a4, a5, a6, h.frame (S := S5) rfl a3 a4 a5⟩

noncomputable def loop144 : Code := match f144.body with
  | some (.seq _ (.seq _ (.seq _ (.seq _ (.seq (.block _ l) _))))) => l
  | _ => .skip

theorem refNum_loop (m : Mem) : ∀ (u : Nat) (k : Nat) (bs : List UInt8) (v : AVal) (sl : Slots) (mm : Mem), u < 18446744073709551616 → sget sl 3 = .int .u64 (u : Nat) → sget sl 4 = v → GV mm v bs → NewR m v → Fr S0 m mm k → mm.next + 2 * (enc7 u).length ≤ 1000000 → bs.length + (enc7 u).length ≤ 1000000 →
    vwp ES loop144 (fun ex st => ex = .exit 0 ∧ ∃ sl' mm' v' pre last, st = ⟨144, 32, sl', mm'⟩ ∧ enc7 u = pre ++ [UInt8.ofNat last] ∧ last < 128 ∧ sget sl' 3 = .int .u64 (last : Nat) ∧ sget sl' 4 = v' ∧ GV mm' v' (bs ++ pre) ∧ NewR m v' ∧ Fr S0 m mm' (k + 2 * pre.length)) ⟨144, 32, sl, mm⟩ := by
  intro u
  induction u using Nat.strongRecOn with
  | _ u ih =>
    intro k bs v sl mm hu s3 s4 hv hNew hF hn hl
    unfold loop144 f144
    by_cases hc : u < 128
    · have hc' : ¬ (127 : Int) < (u : Int) := by omega
      refine vwp_loop (vwp_seq (vwp_seq ?_))
      refine vwp_region ?_
      iterate 2 (refine vops_cons (n := 0) (by simp (maxSteps := 1000000) [s3, hc']; rfl) ?_)
      refine vops_nil ?_
      refine vwp_cond (t := false) (by simp [St.ev, St.slot_mk, sget_put]) (vwp_exit ?_)
      exact ⟨rfl, _, mm, v, [], u, rfl, enc7_lt hc, hc, by simp [s3], by simp [s4], by rw [List.append_nil]; exact hv, hNew, hF⟩
    · have hc' : (127 : Int) < (u : Int) := by omega
      have he := enc7_ge (u := u) (by omega)
      rw [he, List.length_cons] at hn hl
      have hlen : 0 < (enc7 (u / 128)).length := List.length_pos_iff.2 (enc7_len_pos _)
      refine vwp_loop (vwp_seq (vwp_seq ?_))
      refine vwp_region ?_
      iterate 2 (refine vops_cons (n := 0) (by simp (maxSteps := 1000000) [s3, hc']; rfl) ?_)
      refine vops_nil ?_
      refine vwp_cond (t := true) (by simp [St.ev, St.slot_mk, sget_put]) (vwp_skip ?_)
      refine vwp_block (vwp_seq (vwp_region ?_))
      have hnx : mm.next < 1048576 := by omega
      have hrem : arith .rem .u64 ((u : Nat) : Int) 128 = some (.int .u64 ((u % 128 : Nat) : Int)) := rem_nat .u64 u 128 (by decide)
      have hquo : arith .quo .u64 ((u : Nat) : Int) 128 = some (.int .u64 ((u / 128 : Nat) : Int)) := quo_u64 u 128 (by decide) hu
      have hdd : u % 128 < 128 := by omega
      rw [he] at *
      have e1 : IntKind.u8.wrap ((u % 128 : Nat) : Int) = ((u % 128 : Nat) : Int) := by rw [u8w, Nat.mod_eq_of_lt (by omega)]
      have e2 : IntKind.u8.wrap (128 + ((u % 128 : Nat) : Int)) = (((UInt8.ofNat (u % 128 + 128)).toNat : Nat) : Int) := by
        rw [toNat_ofNat (by omega), show (128 : Int) + ((u % 128 : Nat) : Int) = ((u % 128 + 128 : Nat) : Int) by omega, u8w, Nat.mod_eq_of_lt (by omega)]
      generalize UInt8.ofNat (u % 128 + 128) = c at *
      have hq1 : u / 128 < u := by omega
      generalize u % 128 = d at *
      generalize hq : u / 128 = q at *
      iterate 6 (refine vops_cons (n := 0) (by simp (maxSteps := 1000000) [s3, s4, ty371, ty5, ty22, hrem, e1, e2, hnx]; rfl) ?_)
      obtain ⟨v', m', hap, hG, hu1, hu2, hk, href, _⟩ := GV.more (hv.add hnx ⟨5, B8 [c], 0⟩) [c] (by rw [next_add]; omega) (by simp; omega)
      have hF1 : Fr S0 m (mm.add ⟨5, B8 [c], 0⟩) (k + 1) := hF.trans (Fr.add _ _ hnx) (Nat.le_refl _)
      have hF2 : Fr S0 m m' (k + 1 + 1) := hF1.growNew hu1 hu2 hk hNew
      have hNew' := hNew.grow hF1 href
      rw [next_add] at hu1 hu2
      refine vops_append (v' := v') (m' := m') rfl rfl rfl rfl ty22 rfl ty5 rfl (k := 1) (cs := B8 [c]) ?_ ?_ ⟨_, by simp; rfl, ?_⟩
      · simp [appended, ty22, ty5, sliceLen, sliceCells, get_add_self _ _ hnx]; rfl
      · simp; exact hap
      iterate 1 (refine vops_cons (n := 0) (by simp (maxSteps := 1000000) []; rfl) ?_)
      refine vops_nil ?_
      refine vwp_region ?_
      iterate 3 (refine vops_cons (n := 0) (by simp (maxSteps := 1000000) [s3, hquo]; rfl) ?_)
      refine vops_nil ?_
      refine (ih q (by omega) (k + 2) (bs ++ [c]) v' _ m' (by omega) (by simp) (by simp) hG hNew' hF2 (by omega) (by rw [List.length_append, List.length_singleton]; omega)).mono ?_
      rintro ex st ⟨rfl, sl', mm', v2, pre, last, rfl, e, hl', a, b, hO, hN2, hFr⟩
      exact ⟨rfl, sl', mm', v2, c :: pre, last, rfl, by rw [e]; rfl, hl', a, b, by simpa using hO, hN2, hFr.le (by rw [List.length_cons]; omega)⟩

/-- A number's bytes. -/
theorem refNum_ok {m : Mem} {v : Int} (h1 : -9223372036854775808 ≤ v) (h2 : v ≤ 9223372036854775807) (hn : m.next ≤ 900000) :
    vcall ES 144 [.int .i64 v] m fun r m' => GV m' r (numB v) ∧ NewR m r ∧ Fr S0 m m' 30 := by
  have hz := zig_lt h1 h2
  have hz10 : (enc7 (zig v)).length ≤ 10 := enc7_len 9 _ (by have : (18446744073709551616 : Nat) ≤ 2 ^ (7 * (9 + 1)) := by decide
                                                             omega)
  refine vcall_body (fn := f144) (c := ((f144.body).getD .skip)) rfl fns144 body144 (by rw [vntmps144]; show 1 ≤ 32; decide) (by rw [vntmps144]; decide) ?_
  rw [vntmps144]
  simp only [vresults144]
  unfold f144
  simp only [Option.getD_some]
  refine vwp_seq ?_
  refine vwp_region ?_
  iterate 1 (refine vops_cons (n := 0) (by simp (maxSteps := 1000000) []; rfl) ?_)
  refine vops_nil ?_
  refine vwp_seq (vwp_region ?_)
  iterate 4 (refine vops_cons (n := 0) (by simp (maxSteps := 1000000) [ty2, ty371]; rfl) ?_)
  refine vops_nil (vwp_seq (vwp_seq ?_))
  have rest : ∀ (sl : Slots), sget sl 3 = .int .u64 ((zig v : Nat) : Int) → vwp ES (match f144.body with | some (.seq _ (.seq _ (.seq _ c))) => c | _ => .skip) (fun ex st => (ex = .normal ∨ ex = .ret) ∧ ∃ vs, resultVals ES st [.tmp 2] = some vs ∧ (GV st.mem (oneOr vs) (numB v) ∧ NewR m (oneOr vs) ∧ Fr S0 m st.mem 30)) ⟨144, 32, sl, m⟩ := by
    intro sl s3
    unfold f144
    refine vwp_seq ?_
    refine vwp_region ?_
    iterate 1 (refine vops_cons (n := 0) (by simp (maxSteps := 1000000) []; rfl) ?_)
    refine vops_nil ?_
    refine vwp_seq (vwp_block ?_)
    refine (refNum_loop m (zig v) 0 [] (.nil true) _ m hz (by simp [s3]) (by simp) (GrowV.nil _ _ _) (NewR.nil _ _) (.refl _ _) (by omega) (by simp; omega)).mono ?_
    rintro ex st ⟨rfl, sl', mm, w, pre, last, rfl, he, hl', s3', s4', hv, hNew, hF⟩
    rw [List.nil_append] at hv
    have hpl : pre.length ≤ 9 := by have := congrArg List.length he; rw [List.length_append, List.length_singleton] at this; omega
    have hmx := hF.most
    have hnx : mm.next < 1048576 := by omega
    have e1 : IntKind.u8.wrap ((last : Nat) : Int) = (((UInt8.ofNat last).toNat : Nat) : Int) := by rw [toNat_ofNat (by omega), u8w, Nat.mod_eq_of_lt (by omega)]
    have hN : numB v = pre ++ [UInt8.ofNat last] := he
    rw [hN]
    generalize UInt8.ofNat last = c at *
    refine vwp_seq (vwp_region ?_)
    iterate 4 (refine vops_cons (n := 0) (by simp (maxSteps := 1000000) [s3', s4', ty371, ty5, ty22, e1, hnx]; rfl) ?_)
    obtain ⟨v', m', hap, hG, hu1, hu2, hk, href, _⟩ := GV.more (hv.add hnx ⟨5, B8 [c], 0⟩) [c] (by rw [next_add]; omega) (by simp; omega)
    have hF1 : Fr S0 m (mm.add ⟨5, B8 [c], 0⟩) (0 + 2 * pre.length + 1) := hF.trans (Fr.add _ _ hnx) (Nat.le_refl _)
    have hF2 := hF1.growNew hu1 hu2 hk hNew
    have hNew' := hNew.grow hF1 href
    refine vops_append (v' := v') (m' := m') rfl rfl rfl rfl ty22 rfl ty5 rfl (k := 1) (cs := B8 [c]) ?_ ?_ ⟨_, by simp; rfl, ?_⟩
    · simp [appended, ty22, ty5, sliceLen, sliceCells, get_add_self _ _ hnx]; rfl
    · simp; exact hap
    iterate 1 (refine vops_cons (n := 0) (by simp (maxSteps := 1000000) []; rfl) ?_)
    exact vops_nil (vwp_ret ⟨.inr rfl, [v'], by simp [resultVals], hG, hNew', hF2.le (by omega)⟩)
  by_cases c1 : v < 0
  · have e0 : IntKind.i64.wrap (v + 1) = v + 1 := i64w (by omega) (by omega)
    have e1 : IntKind.i64.wrap (-(v + 1)) = -(v + 1) := i64w (by omega) (by omega)
    have e1' : IntKind.i64.wrap (-1 + -v) = -(v + 1) := by rw [show (-1 + -v : Int) = -(v + 1) by omega]; exact e1
    have e2 : arith .mul .u64 2 (IntKind.u64.wrap (-(v + 1))) = some (.int .u64 ((zig v - 1 : Nat) : Int)) := by
      rw [ar_mul, u64i, u64i]; congr 2; unfold zig at *; rw [if_neg (by omega)] at *; omega
    have e3 : arith .add .u64 ((zig v - 1 : Nat) : Int) 1 = some (.int .u64 ((zig v : Nat) : Int)) := by
      rw [ar_add, u64i]; congr 2; unfold zig at *; rw [if_neg (by omega)] at *; omega
    generalize hzz : zig v - 1 = zz at *
    refine vwp_region ?_
    iterate 2 (refine vops_cons (n := 0) (by simp (maxSteps := 1000000) [c1]; rfl) ?_)
    refine vops_nil ?_
    refine vwp_cond (t := true) (by simp [St.ev, St.slot_mk, sget_put]) (vwp_region ?_)
    iterate 2 (refine vops_cons (n := 0) (by simp (maxSteps := 1000000) [e0, -ar_mul]; rfl) ?_)
    refine vops_val (v := .int .i64 (-(v + 1))) rfl rfl ?_ ⟨_, by simp; rfl, ?_⟩
    · simp only [light, St.ev, St.slot_mk, sget_put, Nat.reduceLT, Nat.reduceEqDiff, if_true, if_false, un, Int.zero_sub, e1, Option.map_some]
    refine vops_val (v := .int .u64 (IntKind.u64.wrap (-(v + 1)))) rfl rfl ?_ ⟨_, by simp; rfl, ?_⟩
    · simp only [light, St.ev, St.slot_mk, sget_put, Nat.reduceLT, Nat.reduceEqDiff, if_true, if_false, ty2, ty371]
    refine vops_val (v := .int .u64 ((zz : Nat) : Int)) rfl rfl ?_ ⟨_, by simp; rfl, ?_⟩
    · simp only [light, St.ev, St.slot_mk, sget_put, Nat.reduceLT, Nat.reduceEqDiff, if_true, if_false, ofConst, ofConst1, bin, e2, Option.map_some]
    refine vops_val (v := .int .u64 ((zig v : Nat) : Int)) rfl rfl ?_ ⟨_, by simp; rfl, ?_⟩
    · simp only [light, St.ev, St.slot_mk, sget_put, Nat.reduceLT, Nat.reduceEqDiff, if_true, if_false, ofConst, ofConst1, bin, e3, Option.map_some]
    iterate 1 (refine vops_cons (n := 0) (by simp (maxSteps := 1000000) []; rfl) ?_)
    refine vops_nil ?_
    refine rest _ ?_
    simp
  · have e2 : IntKind.u64.wrap (2 * IntKind.u64.wrap v) = ((zig v : Nat) : Int) := by
      rw [u64i, u64i]; unfold zig at *; rw [if_pos (by omega)] at *; omega
    refine vwp_region ?_
    iterate 2 (refine vops_cons (n := 0) (by simp (maxSteps := 1000000) [c1]; rfl) ?_)
    refine vops_nil ?_
    refine vwp_cond (t := false) (by simp [St.ev, St.slot_mk, sget_put]) (vwp_skip ?_)
    refine rest _ ?_
    simp [e2]

/-- A text's bytes. -/
theorem refText_ok {m : Mem} {s : List UInt8} (hs : s.length ≤ 1000) (hn : m.next ≤ 900000) : vcall ES 143 [.str (mkS s)] m fun r m' => GV m' r (txtB s) ∧ NewR m r ∧ Fr S0 m m' 31 := by
  refine vcall_body (fn := f143) (c := ((f143.body).getD .skip)) rfl fns143 body143 (by rw [vntmps143]; show 1 ≤ 8; decide) (by rw [vntmps143]; decide) ?_
  rw [vntmps143]
  simp only [vresults143]
  unfold f143
  simp only [Option.getD_some]
  refine vwp_seq ?_
  refine vwp_region ?_
  iterate 1 (refine vops_cons (n := 0) (by simp (maxSteps := 1000000) []; rfl) ?_)
  refine vops_nil ?_
  refine vwp_seq (vwp_region ?_)
  iterate 2 (refine vops_cons (n := 0) (by simp (maxSteps := 1000000) [ty9, mkS_size]; rfl) ?_)
  refine vops_callv (g := 144) (first := []) (cap := []) (avs := [.int .i64 ((s.length : Nat) : Int)]) rfl rfl rfl (by simp) ?_
  refine (refNum_ok (by omega) (by omega) hn).mono fun r m' h => ?_
  obtain ⟨hG, hNew, hF⟩ := h
  have hmx := hF.most
  have hnx : m'.next < 1048576 := by omega
  refine ⟨_, by simp; rfl, ?_⟩
  iterate 1 (refine vops_cons (n := 0) (by simp (maxSteps := 1000000) []; rfl) ?_)
  have hln : (numB s.length).length ≤ 2 := numB_nat (by omega)
  obtain ⟨v', m2, hap, hG2, hu1, hu2, hk, href, _⟩ := GV.more hG s hnx (by omega)
  refine vops_append (v' := v') (m' := m2) rfl rfl rfl rfl ty22 rfl ty5 rfl (k := s.length) (cs := B8 s) ?_ ?_ ⟨_, by simp; rfl, ?_⟩
  · simp [appended, ty9, mkS_size, mkS_data]; rfl
  · simp; exact hap
  iterate 1 (refine vops_cons (n := 0) (by simp (maxSteps := 1000000) []; rfl) ?_)
  exact vops_nil (vwp_ret ⟨.inr rfl, [v'], by simp [resultVals], hG2, hNew.grow hF href, hF.growNew hu1 hu2 hk hNew⟩)

noncomputable def loop142 : Code := match f142.body with
  | some (.seq _ (.seq _ (.seq (.seq _ (.block _ l)) _))) => l
  | _ => .skip
def numsB (l : List Int) : List UInt8 := (l.map numB).flatten

theorem nums_loop (m : Mem) (w : AVal) (l : List Int) (hw : SlV m 3 1 w (intE l)) (hl : l.length ≤ 100) (hb : ∀ n ∈ l, -9223372036854775808 ≤ n ∧ n ≤ 9223372036854775807) (hm : m.next ≤ 800000) :
    ∀ (j k : Nat) (v : AVal) (sl : Slots) (mm : Mem), k + j = l.length → sget sl 0 = w → sget sl 3 = v → sget sl 6 = .int .i64 (l.length : Nat) → sget sl 7 = .int .i64 (k : Nat) → GV mm v (numsB (l.take k)) → NewR m v → Fr S0 m mm (31 * k) → (numsB (l.take k)).length ≤ 10 * k →
    vwp ES loop142 (fun ex st => ex = .exit 0 ∧ ∃ sl' mm' v', st = ⟨142, 19, sl', mm'⟩ ∧ sget sl' 3 = v' ∧ GV mm' v' (numsB l) ∧ NewR m v' ∧ Fr S0 m mm' (31 * l.length)) ⟨142, 19, sl, mm⟩ := by
  intro j
  induction j with
  | zero =>
    intro k v sl mm hij s0 s3 s6 s7 hv hNew hF hlen
    obtain rfl : k = l.length := by omega
    unfold loop142 f142
    refine vwp_loop (vwp_seq ?_)
    refine vwp_region ?_
    iterate 1 (refine vops_cons (n := 0) (by simp (maxSteps := 1000000) [s6, s7]; rfl) ?_)
    refine vops_nil ?_
    refine vwp_seq (vwp_cond (t := false) (by simp [St.ev, St.slot_mk, sget_put]) (vwp_exit ?_))
    rw [List.take_length] at hv
    exact ⟨rfl, _, mm, v, rfl, by simp [s3], hv, hNew, hF⟩
  | succ j ih =>
    intro k v sl mm hij s0 s3 s6 s7 hv hNew hF hlen
    have hk : k < l.length := by omega
    have hk' : (k : Int) < (l.length : Int) := by omega
    obtain ⟨n, hn⟩ : ∃ n, l[k]? = some n := ⟨l[k], List.getElem?_eq_getElem hk⟩
    have hnb := hb n (List.mem_of_getElem? hn)
    have htk : l.take (k + 1) = l.take k ++ [n] := by rw [List.take_add_one, hn]; rfl
    have hmx := hF.most
    obtain ⟨q, hA, hR⟩ := (hw.fr hF rfl).elem (E := ES) ty230 rfl ty3 rfl (by decide) (i := k) (x := [.int .i64 n]) (by simp [intE, hn])
    unfold loop142 f142
    refine vwp_loop (vwp_seq ?_)
    refine vwp_region ?_
    iterate 1 (refine vops_cons (n := 0) (by simp (maxSteps := 1000000) [s6, s7, hk']; rfl) ?_)
    refine vops_nil ?_
    refine vwp_seq (vwp_cond (t := true) (by simp [St.ev, St.slot_mk, sget_put]) (vwp_skip ?_))
    refine vwp_seq (vwp_block (vwp_seq ?_))
    refine vwp_region ?_
    iterate 2 (refine vops_cons (n := 0) (by simp (maxSteps := 1000000) [s7]; rfl) ?_)
    refine vops_nil ?_
    refine vwp_region ?_
    iterate 4 (refine vops_cons (n := 0) (by simp (maxSteps := 1000000) [s0, s3, hA]; rfl) ?_)
    refine vops_load (v := .int .i64 n) rfl rfl ty3 (by simp; exact hR) rfl ⟨_, by simp; rfl, ?_⟩
    refine vops_callv (g := 144) (first := []) (cap := []) (avs := [.int .i64 n]) rfl rfl rfl (by simp) ?_
    refine (refNum_ok (m := mm) hnb.1 hnb.2 (by omega)).mono fun r m1 h => ?_
    obtain ⟨hG1, _, hF1⟩ := h
    have hmx1 := hF1.most
    have hnx : m1.next < 1048576 := by omega
    have hv1 := hv.fr hF1 rfl
    have hFm := hF.trans hF1 (Nat.le_refl _)
    have hz10 : (numB n).length ≤ 10 := enc7_len 9 _ (by have : (18446744073709551616 : Nat) ≤ 2 ^ (7 * (9 + 1)) := by decide
                                                         have := zig_lt hnb.1 hnb.2
                                                         omega)
    refine ⟨_, by simp; rfl, ?_⟩
    obtain ⟨v', m2, hap, hG2, hu1, hu2, hkk, href, _⟩ := GV.more hv1 (numB n) hnx (by omega)
    refine vops_append (v' := v') (m' := m2) rfl rfl rfl rfl ty22 rfl ty5 rfl (k := (numB n).length) (cs := B8 (numB n)) ?_ ?_ ⟨_, by simp; rfl, ?_⟩
    · simp; exact appended_bv hG1.bv
    · simp; exact hap
    iterate 1 (refine vops_cons (n := 0) (by simp (maxSteps := 1000000) []; rfl) ?_)
    refine vops_nil ?_
    refine vwp_region ?_
    iterate 2 (refine vops_cons (n := 0) (by simp (maxSteps := 1000000) [s7, wrap_up (show k < 1000000000 by omega)]; rfl) ?_)
    refine vops_nil ?_
    have hnn : numsB (l.take (k + 1)) = numsB (l.take k) ++ numB n := by rw [htk]; simp [numsB]
    exact ih (k + 1) v' _ m2 (by omega) (by simp [s0]) (by simp) (by simp [s6]) (by simp) (by rw [hnn]; exact hG2) (hNew.grow hFm href) ((hFm.growNew hu1 hu2 hkk hNew).le (by omega)) (by rw [hnn, List.length_append]; omega)

/-- Numbers' bytes. -/
theorem nums_ok {m : Mem} {w : AVal} {l : List Int} (hw : SlV m 3 1 w (intE l)) (hl : l.length ≤ 100) (hb : ∀ n ∈ l, -9223372036854775808 ≤ n ∧ n ≤ 9223372036854775807) (hm : m.next ≤ 800000) : vcall ES 142 [w] m fun r m' => GV m' r (numsB l) ∧ NewR m r ∧ Fr S0 m m' (31 * l.length) := by
  have hwl : sliceLen w = some l.length := by rw [hw.len]; simp [intE]
  refine vcall_body (fn := f142) (c := ((f142.body).getD .skip)) rfl fns142 body142 (by rw [vntmps142]; show 1 ≤ 19; decide) (by rw [vntmps142]; decide) ?_
  rw [vntmps142]
  simp only [vresults142]
  unfold f142
  simp only [Option.getD_some]
  refine vwp_seq ?_
  refine vwp_region ?_
  iterate 1 (refine vops_cons (n := 0) (by simp (maxSteps := 1000000) []; rfl) ?_)
  refine vops_nil ?_
  refine vwp_seq ?_
  refine vwp_region ?_
  iterate 1 (refine vops_cons (n := 0) (by simp (maxSteps := 1000000) []; rfl) ?_)
  refine vops_nil ?_
  refine vwp_seq (vwp_seq ?_)
  refine vwp_region ?_
  iterate 3 (refine vops_cons (n := 0) (by simp (maxSteps := 1000000) [ty230, hwl]; rfl) ?_)
  refine vops_nil ?_
  refine vwp_block ?_
  refine (nums_loop m w l hw hl hb hm l.length 0 (.nil true) _ m (by omega) (by simp) (by simp) (by simp) (by simp) (GrowV.nil _ _ _) (NewR.nil _ _) (.refl _ _) (by simp [numsB])).mono ?_
  rintro ex st ⟨rfl, sl, mm, v, rfl, s3, hG, hNew, hF⟩
  refine vwp_seq ?_
  refine vwp_region ?_
  iterate 2 (refine vops_cons (n := 0) (by simp (maxSteps := 1000000) [s3]; rfl) ?_)
  refine vops_nil ?_
  exact vwp_ret ⟨.inr rfl, [v], by simp [resultVals], hG, hNew, hF⟩
end Go.Proofs.Tryz
