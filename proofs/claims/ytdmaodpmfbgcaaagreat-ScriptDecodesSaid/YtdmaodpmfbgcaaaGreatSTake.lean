/-
  Texts, counts and whole scripts taken, on the abstract machine.
-/
import Derived.Test.YtdmaodpmfbgcaaaGreatSNum
set_option maxRecDepth 100000
namespace Go.Proofs.Tryz
open Go Go.V Go.SC
attribute [local simp] runOp wanted isHeavy light St.ev St.slot_mk sget_put St.put_mk cl_int cl_bool cl_str cl_ptr cl_nil cl_ref cl_imm cl_agg cl_nilp NewV.at nblt nble nbeq ofConst ofConst1 fieldOf sh_ptr sh_iptr rc_ptr rc_iptr lget mkVal VD.isAgg lenOf bin ar_add ar_sub ar_mul ar_eql ar_neq ar_lss ar_leq ar_gtr ar_geq argSlots un heavy writeCells lput eqVals next_add next_upd fillA zeros natOf_cast natOf_succ
/-! ### How much is left -/
def IsL (st : IS) (n : Nat) : Prop := ∀ bs, st = some bs → bs.length ≤ n
theorem isl_num {most : Int} {st : IS} {n : Nat} (h : IsL st n) : IsL (dNum most st).2 n := by
  intro bs hb
  obtain ⟨h1, _⟩ := dNum_some (pe hb)
  have := h _ h1
  rw [List.length_append] at this; omega
theorem isl_text {most : Int} {st : IS} {n : Nat} (h : IsL st n) : IsL (dText most st).2 n := by
  intro bs hb
  obtain ⟨h1, _⟩ := dText_some (pe hb)
  have := h _ h1
  rw [List.length_append] at this; omega
theorem isl_count {most : Int} {st : IS} {n : Nat} (h : IsL st n) : IsL (dCount most st).2 n := by
  intro bs hb
  obtain ⟨h1, _⟩ := dCount_some (pe hb)
  have := h _ h1
  rw [List.length_append] at this; omega
theorem isl_texts {k : Nat} {st : IS} {n : Nat} (h : IsL st n) : IsL (dTexts k st).2 n := by
  intro bs hb
  obtain ⟨h1, _⟩ := dTexts_some (pe hb)
  have := h _ h1
  rw [List.length_append] at this; omega
theorem isl_step {st : IS} {n : Nat} (h : IsL st n) : IsL (dStep st).2 n := by
  intro bs hb
  obtain ⟨h1, _⟩ := dStep_some (pe hb)
  have := h _ h1
  rw [List.length_append] at this; omega

theorem conv_str {m : Mem} {v : AVal} {bs : List UInt8} (hv : BV m v bs) {ρ : Operand → AVal} {x : Operand} (hx : ρ x = v) : light ES m ρ (.convert 22 9 x) = some (.val (.str (mkS bs))) := by
  have h1 : sliceLen v = some bs.length := by rw [hv.len, E8_len]
  have h2 : sliceCells m v bs.length 1 = some (B8 bs) := by
    rw [hv.cells (by rw [E8_len]; exact Nat.le_refl _), E8_take, List.take_of_length_le (Nat.le_refl _), E8_flat]
  have h3 := bytesOf_str bs
  unfold light
  simp only [ty22, ty9, hx]
  obtain ⟨els, hE⟩ : ∃ els, els = E8 bs := ⟨_, rfl⟩
  have hv' : SlV m 5 1 v els := by rw [hE]; exact hv
  clear hv hE
  cases hv' <;> simp only [ty5, h1, h2, h3, Option.bind_some, Option.map_some]
theorem fns140 : ES.fns.get 140 = some f140 := by kernel_rfl
theorem vntmps140 : f140.ntmps = 44 := by kernel_rfl
theorem vresults140 : f140.results.toList = [.cell 2 119] := by kernel_rfl
theorem body140 : f140.body = some ((f140.body).getD .skip) := by kernel_rfl
theorem fns54 : ES.fns.get 54 = some f54 := by kernel_rfl
theorem vntmps54 : f54.ntmps = 32 := by kernel_rfl
theorem vresults54 : f54.results.toList = [.cell 2 130, .tmp 3] := by kernel_rfl
theorem body54 : f54.body = some ((f54.body).getD .skip) := by kernel_rfl
noncomputable def fail249 : Code := match f249.body with
  | some (.seq _ (.seq _ (.seq _ (.seq (.seq _ (.cond _ c _)) _)))) => c
  | _ => .skip
/-- A text is taken. -/
theorem inText_ok {m : Mem} {i : Nat} {st : IS} {most : Int} (h : InR m i st) (hN : m.next ≤ 900000) (hl : IsL st 1000000) (hm0 : 0 ≤ most) (hm1 : most ≤ 1000000) :
    vcall ES 249 [.ptr i 2 0, .int .i64 most] m fun r m' => r = .str (mkS (dText most st).1) ∧ InR m' i (dText most st).2 ∧ Fr SI m m' 0 := by
  refine vcall_body (fn := f249) (c := ((f249.body).getD .skip)) rfl fns249 body249 (by rw [vntmps249]; show 2 ≤ 48; decide) (by rw [vntmps249]; decide) ?_
  rw [vntmps249]
  simp only [vresults249]
  unfold f249
  simp only [Option.getD_some]
  refine vwp_seq ?_
  refine vwp_region ?_
  iterate 1 (refine vops_cons (n := 0) (by simp (maxSteps := 1000000) []; rfl) ?_)
  refine vops_nil ?_
  refine vwp_seq (vwp_region ?_)
  iterate 2 (refine vops_cons (n := 0) (by simp (maxSteps := 1000000) []; rfl) ?_)
  refine vops_callv (g := 157) (first := []) (cap := []) (avs := [.ptr i 2 0, .int .i64 most]) rfl rfl rfl (by simp) ?_
  refine (inNum_ok h (by omega) hl hm0 (by omega)).mono fun r m' hr => ?_
  obtain ⟨rfl, hR, hF⟩ := hr
  refine ⟨_, by simp; rfl, ?_⟩
  iterate 1 (refine vops_cons (n := 0) (by simp (maxSteps := 1000000) []; rfl) ?_)
  refine vops_nil (vwp_seq (vwp_seq ?_))
  have hlen2 := isl_num (most := most) hl
  have hT : dText most st = match dNum most st with
    | (_, none) => ([], none)
    | (n, some b) => if n < 0 ∨ (b.length : Int) < n then ([], none) else (b.take n.toNat, some (b.drop n.toNat)) := rfl
  rcases hd : dNum most st with ⟨n, st2⟩
  rw [hd] at hT hR hlen2
  simp only at hR hlen2
  have hmx := hF.most
  cases st2 with
  | none =>
    have hb : m'.at i ⟨378, [.nil true, .bool true], 0⟩ := hR
    refine vwp_region ?_
    iterate 8 (refine vops_cons (n := 0) (by simp (maxSteps := 1000000) [ty238, ty378, ty4, hb.2]; rfl) ?_)
    refine vops_nil ?_
    refine vwp_cond (t := true) (by simp [St.ev, St.slot_mk, sget_put]) ?_
    refine vwp_seq ?_
    refine vwp_region ?_
    iterate 1 (refine vops_cons (n := 0) (by simp (maxSteps := 1000000) []; rfl) ?_)
    refine vops_nil ?_
    rw [hT]
    exact vwp_ret ⟨.inr rfl, _, by simp [resultVals]; rfl, rfl, hR, hF⟩
  | some b =>
    obtain ⟨v, hb, hv⟩ := id hR
    have hvl : sliceLen v = some b.length := by rw [hv.len, E8_len]
    have hvc := hv.cl
    refine vwp_region ?_
    iterate 8 (refine vops_cons (n := 0) (by simp (maxSteps := 1000000) [ty238, ty378, ty4, hb.2]; rfl) ?_)
    refine vops_nil ?_
    refine vwp_cond (t := false) (by simp [St.ev, St.slot_mk, sget_put]) (vwp_skip ?_)
    refine vwp_seq (vwp_seq ?_)
    have failing : ∀ (sl : Slots) (Q' : Ex → St → Prop), sget sl 0 = .ptr i 2 0 → (∀ sl2 m2, InR m2 i none → Fr SI m m2 0 → sget sl2 4 = .str (mkS []) → Q' .ret ⟨249, 48, sl2, m2⟩) → vwp ES fail249 Q' ⟨249, 48, sl, m'⟩ := by
      intro sl Q' s0 hQ
      unfold fail249 f249
      refine vwp_seq (vwp_region ?_)
      iterate 1 (refine vops_cons (n := 0) (by simp (maxSteps := 1000000) [s0]; rfl) ?_)
      refine vops_callv (g := 248) (first := []) (cap := []) (avs := [.ptr i 2 0]) rfl rfl rfl (by simp) ?_
      refine (fail_ok hR (by omega)).mono fun r m2 hr => ?_
      obtain ⟨rfl, hR2, hF2⟩ := hr
      refine ⟨_, by simp; rfl, ?_⟩
      refine vops_nil (vwp_seq ?_)
      refine vwp_region ?_
      iterate 1 (refine vops_cons (n := 0) (by simp (maxSteps := 1000000) []; rfl) ?_)
      refine vops_nil ?_
      exact vwp_ret (hQ _ _ hR2 (hF.trans hF2 (Nat.le_refl _)) (by simp; rfl))
    by_cases c1 : n < 0
    · have hd' : dText most st = ([], none) := by rw [hT]; simp only; rw [if_pos (.inl c1)]
      refine vwp_region ?_
      iterate 11 (refine vops_cons (n := 0) (by simp (maxSteps := 1000000) [c1]; rfl) ?_)
      refine vops_nil ?_
      refine vwp_cond (t := true) (by simp [St.ev, St.slot_mk, sget_put]) ?_
      refine failing _ _ ?_ ?_
      · simp
      · exact fun sl2 m2 k1 k2 k3 => ⟨.inr rfl, _, by simp [resultVals, k3]; rfl, by rw [hd']; rfl, by rw [hd']; exact k1, k2⟩
    · by_cases c2 : (b.length : Int) < n
      · have hd' : dText most st = ([], none) := by rw [hT]; simp only; rw [if_pos (.inr c2)]
        refine vwp_region ?_
        iterate 11 (refine vops_cons (n := 0) (by simp (maxSteps := 1000000) [c1, c2, ty378, ty22, hb.2, hvl]; rfl) ?_)
        refine vops_nil ?_
        refine vwp_cond (t := true) (by simp [St.ev, St.slot_mk, sget_put]) ?_
        refine failing _ _ ?_ ?_
        · simp
        · exact fun sl2 m2 k1 k2 k3 => ⟨.inr rfl, _, by simp [resultVals, k3]; rfl, by rw [hd']; rfl, by rw [hd']; exact k1, k2⟩
      · have hd' : dText most st = (b.take n.toNat, some (b.drop n.toNat)) := by rw [hT]; simp only; rw [if_neg (by omega)]
        obtain ⟨k, rfl⟩ := Int.eq_ofNat_of_zero_le (show 0 ≤ n by omega)
        rw [Int.toNat_natCast] at hd'
        have hlss : arith .lss .i64 ((k : Nat) : Int) 0 = some (.bool false) := by rw [ar_lss, decide_eq_false c1]
        have hgtr : arith .gtr .i64 ((k : Nat) : Int) ((b.length : Nat) : Int) = some (.bool false) := by rw [ar_gtr, decide_eq_false c2]
        refine vwp_region ?_
        iterate 11 (refine vops_cons (n := 0) (by simp (maxSteps := 1000000) [hlss, hgtr, ty378, ty22, hb.2, hvl, -ar_lss, -ar_gtr]; rfl) ?_)
        refine vops_nil ?_
        refine vwp_cond (t := false) (by simp [St.ev, St.slot_mk, sget_put]) (vwp_skip ?_)
        refine vwp_seq (vwp_region ?_)
        obtain ⟨v1, hc1, hv1⟩ := hv.take (E := ES) ty22 rfl ty5 rfl (n := k) (by rw [E8_len]; omega)
        obtain ⟨v2, hc2, hv2⟩ := hv.drop (E := ES) ty22 rfl ty5 rfl (n := k) (by rw [E8_len]; omega)
        rw [E8_take] at hv1
        rw [E8_drop] at hv2
        have hv2c := hv2.cl
        iterate 6 (refine vops_cons (n := 0) (by simp (maxSteps := 1000000) [ty378, ty22, hb.2, optNat, hc1]; rfl) ?_)
        refine vops_val rfl rfl (conv_str hv1 (by simp)) ⟨_, by simp; rfl, ?_⟩
        iterate 1 (refine vops_cons (n := 0) (by simp (maxSteps := 1000000) []; rfl) ?_)
        refine vops_nil (vwp_seq ?_)
        refine vwp_region ?_
        iterate 10 (refine vops_cons (n := 0) (by simp (maxSteps := 1000000) [ty378, ty22, hb.2, optNat, hc2, hv2c]; rfl) ?_)
        refine vops_nil ?_
        refine vwp_seq ?_
        refine vwp_region ?_
        iterate 2 (refine vops_cons (n := 0) (by simp (maxSteps := 1000000) []; rfl) ?_)
        refine vops_nil ?_
        rw [hd']
        exact vwp_ret ⟨.inr rfl, _, by simp [resultVals]; rfl, rfl, InR.upd hb (by omega) rfl hv2, hF.trans (Fr.upd hb (by omega) rfl _) (Nat.le_refl _)⟩

theorem number_ok {m : Mem} {i : Nat} {st : IS} (h : InR m i st) (hN : m.next ≤ 900000) (hl : IsL st 1000000) : vcall ES 138 [.ptr i 2 0] m fun r m' => r = .int .i64 (dNum mostN st).1 ∧ InR m' i (dNum mostN st).2 ∧ Fr SI m m' 0 := by
  refine vcall_body (fn := f138) (c := ((f138.body).getD .skip)) rfl fns138 body138 (by rw [vntmps138]; show 1 ≤ 5; decide) (by rw [vntmps138]; decide) ?_
  rw [vntmps138]
  simp only [vresults138]
  unfold f138
  simp only [Option.getD_some]
  refine vwp_seq ?_
  refine vwp_region ?_
  iterate 1 (refine vops_cons (n := 0) (by simp (maxSteps := 1000000) []; rfl) ?_)
  refine vops_nil ?_
  refine vwp_seq (vwp_region ?_)
  iterate 1 (refine vops_cons (n := 0) (by simp (maxSteps := 1000000) []; rfl) ?_)
  refine vops_callv (g := 157) (first := []) (cap := []) (avs := [.ptr i 2 0, .int .i64 mostN]) rfl rfl rfl (by simp; rfl) ?_
  refine (inNum_ok h (by omega) hl (by decide) (by decide)).mono fun r m' hr => ?_
  obtain ⟨rfl, hR, hF⟩ := hr
  refine ⟨_, by simp; rfl, ?_⟩
  iterate 1 (refine vops_cons (n := 0) (by simp (maxSteps := 1000000) []; rfl) ?_)
  exact vops_nil (vwp_ret ⟨.inr rfl, _, by simp [resultVals]; rfl, rfl, hR, hF⟩)

theorem count_ok {m : Mem} {i : Nat} {st : IS} {most : Int} (h : InR m i st) (hN : m.next ≤ 900000) (hl : IsL st 1000000) (hm0 : 0 ≤ most) (hm1 : most ≤ 1000000) : vcall ES 139 [.ptr i 2 0, .int .i64 most] m fun r m' => r = .int .i64 (((dCount most st).1 : Nat) : Int) ∧ InR m' i (dCount most st).2 ∧ Fr SI m m' 0 := by
  refine vcall_body (fn := f139) (c := ((f139.body).getD .skip)) rfl fns139 body139 (by rw [vntmps139]; show 2 ≤ 14; decide) (by rw [vntmps139]; decide) ?_
  rw [vntmps139]
  simp only [vresults139]
  unfold f139
  simp only [Option.getD_some]
  refine vwp_seq ?_
  refine vwp_region ?_
  iterate 1 (refine vops_cons (n := 0) (by simp (maxSteps := 1000000) []; rfl) ?_)
  refine vops_nil ?_
  refine vwp_seq (vwp_region ?_)
  iterate 2 (refine vops_cons (n := 0) (by simp (maxSteps := 1000000) []; rfl) ?_)
  refine vops_callv (g := 157) (first := []) (cap := []) (avs := [.ptr i 2 0, .int .i64 most]) rfl rfl rfl (by simp) ?_
  refine (inNum_ok h (by omega) hl hm0 (by omega)).mono fun r m' hr => ?_
  obtain ⟨rfl, hR, hF⟩ := hr
  have hT : dCount most st = if (dNum most st).1 < 0 then (0, none) else ((dNum most st).1.toNat, (dNum most st).2) := rfl
  generalize dNum most st = d at *
  refine ⟨_, by simp; rfl, ?_⟩
  iterate 1 (refine vops_cons (n := 0) (by simp (maxSteps := 1000000) []; rfl) ?_)
  refine vops_nil (vwp_seq (vwp_seq ?_))
  have hmx := hF.most
  by_cases c1 : d.1 < 0
  · rw [if_pos c1] at hT
    refine vwp_region ?_
    iterate 2 (refine vops_cons (n := 0) (by simp (maxSteps := 1000000) [c1]; rfl) ?_)
    refine vops_nil ?_
    refine vwp_cond (t := true) (by simp [St.ev, St.slot_mk, sget_put]) ?_
    refine vwp_seq (vwp_region ?_)
    iterate 1 (refine vops_cons (n := 0) (by simp (maxSteps := 1000000) []; rfl) ?_)
    refine vops_callv (g := 248) (first := []) (cap := []) (avs := [.ptr i 2 0]) rfl rfl rfl (by simp) ?_
    refine (fail_ok hR (by omega)).mono fun r m2 hr => ?_
    obtain ⟨rfl, hR2, hF2⟩ := hr
    refine ⟨_, by simp; rfl, ?_⟩
    refine vops_nil (vwp_seq ?_)
    refine vwp_region ?_
    iterate 1 (refine vops_cons (n := 0) (by simp (maxSteps := 1000000) []; rfl) ?_)
    refine vops_nil ?_
    rw [hT]
    exact vwp_ret ⟨.inr rfl, _, by simp [resultVals]; rfl, rfl, hR2, hF.trans hF2 (Nat.le_refl _)⟩
  · rw [if_neg c1] at hT
    refine vwp_region ?_
    iterate 2 (refine vops_cons (n := 0) (by simp (maxSteps := 1000000) [c1]; rfl) ?_)
    refine vops_nil ?_
    refine vwp_cond (t := false) (by simp [St.ev, St.slot_mk, sget_put]) (vwp_skip ?_)
    refine vwp_seq ?_
    refine vwp_region ?_
    iterate 2 (refine vops_cons (n := 0) (by simp (maxSteps := 1000000) []; rfl) ?_)
    refine vops_nil ?_
    rw [hT]
    exact vwp_ret ⟨.inr rfl, _, by simp [resultVals]; rfl, by show AVal.int _ _ = _; simp only; rw [Int.toNat_of_nonneg (by omega)], hR, hF⟩

def isDone : IS → Bool
  | some [] => true
  | _ => false
theorem done_ok {m : Mem} {i : Nat} {st : IS} (h : InR m i st) : vcall ES 141 [.ptr i 2 0] m fun r m' => r = .bool (isDone st) ∧ m' = m := by
  refine vcall_body (fn := f141) (c := ((f141.body).getD .skip)) rfl fns141 body141 (by rw [vntmps141]; show 1 ≤ 20; decide) (by rw [vntmps141]; decide) ?_
  rw [vntmps141]
  simp only [vresults141]
  unfold f141
  simp only [Option.getD_some]
  refine vwp_seq ?_
  refine vwp_region ?_
  iterate 1 (refine vops_cons (n := 0) (by simp (maxSteps := 1000000) []; rfl) ?_)
  refine vops_nil ?_
  refine vwp_seq (vwp_region ?_)
  cases st with
  | none =>
    have hb : m.at i ⟨378, [.nil true, .bool true], 0⟩ := h
    iterate 18 (refine vops_cons (n := 0) (by simp (maxSteps := 1000000) [ty238, ty378, ty4, hb.2]; rfl) ?_)
    exact vops_nil (vwp_ret ⟨.inr rfl, _, by simp [resultVals]; rfl, rfl, rfl⟩)
  | some b =>
    obtain ⟨v, hb, hv⟩ := id h
    have hvl : sliceLen v = some b.length := by rw [hv.len, E8_len]
    cases b with
    | nil =>
      iterate 18 (refine vops_cons (n := 0) (by simp (maxSteps := 1000000) [ty238, ty378, ty4, ty22, hb.2, hvl]; rfl) ?_)
      exact vops_nil (vwp_ret ⟨.inr rfl, _, by simp [resultVals]; rfl, rfl, rfl⟩)
    | cons x b =>
      have hE : arith .eql .i64 (((x :: b).length : Nat) : Int) 0 = some (.bool false) := by rw [ar_eql, decide_eq_false (by rw [List.length_cons]; omega)]
      generalize (x :: b).length = lb at *
      iterate 18 (refine vops_cons (n := 0) (by simp (maxSteps := 1000000) [ty238, ty378, ty4, ty22, hb.2, hvl, hE, -ar_eql]; rfl) ?_)
      exact vops_nil (vwp_ret ⟨.inr rfl, _, by simp [resultVals]; rfl, rfl, rfl⟩)

/-- What is read from is a copy. -/
theorem newIn_ok {m : Mem} {v : AVal} {bs : List UInt8} (hv : BV m v bs) (hN : v = .nil true ∨ v = .imm [] 0 ∨ (∃ a b c d e f g, v = .ref a b c d e f g) ∨ (∃ x l n, v = .imm (x :: l) n)) (hn : m.next ≤ 800000) (hl : bs.length ≤ 800000) :
    vcall ES 137 [v] m fun r m' => ∃ i, r = .ptr i 2 0 ∧ m.next ≤ i ∧ InR m' i (some bs) ∧ Fr S0 m m' 3 := by
  have hcl : vcall ES 64 [v] m fun r m' => BV m' r bs ∧ Fr S0 m m' 2 := by
    rcases hN with rfl | rfl | h | h
    · refine clone_nil.mono fun r m' h => ?_
      obtain ⟨rfl, rfl⟩ := h
      exact ⟨hv, (Fr.refl _ _).le (by decide)⟩
    · refine clone_imm0.mono fun r m' h => ?_
      obtain ⟨rfl, rfl⟩ := h
      have : E8 bs = [] := by have := hv.len; rw [E8_len] at this; simp [sliceLen] at this; rw [List.length_eq_zero_iff.1 this.symm]; rfl
      rw [BV, this]
      exact ⟨.nil false, (Fr.refl _ _).le (by decide)⟩
    · exact (clone_ok hv (.inl h) (by omega) (by omega)).mono fun r m' h => ⟨h.1.1, h.2⟩
    · exact (clone_ok hv (.inr h) (by omega) (by omega)).mono fun r m' h => ⟨h.1.1, h.2⟩
  refine vcall_body (fn := f137) (c := ((f137.body).getD .skip)) rfl fns137 body137 (by rw [vntmps137]; show 1 ≤ 7; decide) (by rw [vntmps137]; decide) ?_
  rw [vntmps137]
  simp only [vresults137]
  unfold f137
  simp only [Option.getD_some]
  refine vwp_seq ?_
  refine vwp_region ?_
  iterate 1 (refine vops_cons (n := 0) (by simp (maxSteps := 1000000) []; rfl) ?_)
  refine vops_nil ?_
  refine vwp_seq (vwp_region ?_)
  iterate 1 (refine vops_cons (n := 0) (by simp (maxSteps := 1000000) []; rfl) ?_)
  refine vops_callv (g := 64) (first := []) (cap := []) (avs := [v]) rfl rfl rfl (by simp) ?_
  refine hcl.mono fun r m' h => ?_
  obtain ⟨hB, hF⟩ := h
  have hmx := hF.most
  have hnx : m'.next < 1048576 := by omega
  have hrc := hB.cl
  refine ⟨_, by simp; rfl, ?_⟩
  iterate 3 (refine vops_cons (n := 0) (by simp (maxSteps := 1000000) [ty378, ty22, buildVal, structPlace, hrc, hnx]; rfl) ?_)
  refine vops_nil (vwp_ret ⟨.inr rfl, _, by simp [resultVals]; rfl, m'.next, rfl, hF.up, ?_, hF.trans (Fr.add _ _ hnx) (Nat.le_refl _)⟩)
  exact ⟨r, at_add_self _ _ hnx, hB.fr (Fr.add (S := S0) _ _ hnx) rfl⟩
end Go.Proofs.Tryz
