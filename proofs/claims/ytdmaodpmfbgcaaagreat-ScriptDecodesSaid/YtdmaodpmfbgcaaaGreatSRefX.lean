/-
  The reference's texts taken, on the abstract machine.
-/
import Derived.Test.YtdmaodpmfbgcaaaGreatSRefT
set_option maxRecDepth 100000
namespace Go.Proofs.Tryz
open Go Go.V Go.SC
attribute [local simp] runOp wanted isHeavy light St.ev St.slot_mk sget_put St.put_mk cl_int cl_bool cl_str cl_ptr cl_nil cl_ref cl_imm cl_agg cl_nilp NewV.at nblt nble nbeq ofConst ofConst1 fieldOf sh_ptr sh_iptr rc_ptr rc_iptr lget mkVal VD.isAgg lenOf bin ar_add ar_sub ar_mul ar_eql ar_neq ar_lss ar_leq ar_gtr ar_geq argSlots un heavy writeCells lput eqVals next_add next_upd fillA zeros natOf_cast natOf_succ
noncomputable def fail250 : Code := match f250.body with
  | some (.seq _ (.seq _ (.seq (.seq _ (.cond _ c _)) _))) => c
  | _ => .skip

theorem refInText_ok {m : Mem} {cs : List AVal} {st : IS} {most : Int} (h : InA m cs st) (hN : m.next ≤ 600000) (hl : IsL st 1000000) (hm0 : 0 ≤ most) (hm1 : most ≤ 1000000) :
    vcall ES 250 [.agg cs, .int .i64 most] m fun r m' => ∃ cs', r = .tup [.str (mkS (dText most st).1), .agg cs'] ∧ InA m' cs' (dText most st).2 ∧ Fr S0 m m' 60 := by
  obtain ⟨v, b, bs, rfl, hv, hvc, _, _⟩ := h.view
  have hnx : m.next < 1048576 := by omega
  have ha := at_add_self m ⟨180, [v, .bool b], 0⟩ hnx
  have hF1 := Fr.add (S := S0) m ⟨180, [v, .bool b], 0⟩ hnx
  have hn1 : (m.add ⟨180, [v, .bool b], 0⟩).next = m.next + 1 := rfl
  refine vcall_body (fn := f250) (c := ((f250.body).getD .skip)) rfl fns250 body250 (by rw [vntmps250]; show 2 ≤ 38; decide) (by rw [vntmps250]; decide) ?_
  rw [vntmps250]
  simp only [vresults250]
  unfold f250
  simp only [Option.getD_some]
  refine vwp_seq (vwp_region ?_)
  iterate 2 (refine vops_cons (n := 0) (by simp (maxSteps := 1000000) [hnx]; rfl) ?_)
  show vops _ _ _ _ ⟨250, 38, _, m.add ⟨180, [v, .bool b], 0⟩⟩
  generalize m.add ⟨180, [v, .bool b], 0⟩ = m1 at *
  have hnx1 : m1.next < 1048576 := by omega
  iterate 1 (refine vops_cons (n := 0) (by simp (maxSteps := 1000000) [ty180, hnx1]; rfl) ?_)
  have hz := at_add_self m1 ⟨180, [.nil true, .bool false], 0⟩ hnx1
  have hF2 := Fr.add (S := S0) m1 ⟨180, [.nil true, .bool false], 0⟩ hnx1
  have hn2 : (m1.add ⟨180, [.nil true, .bool false], 0⟩).next = m1.next + 1 := rfl
  have ha2 := hF2.keep _ _ ha rfl
  have hF02 := hF1.trans hF2 (Nat.le_refl _)
  have hA2 := h.fr hF02 rfl
  generalize m1.add ⟨180, [.nil true, .bool false], 0⟩ = m2 at *
  refine vops_nil (vwp_seq (vwp_region ?_))
  iterate 2 (refine vops_cons (n := 0) (by simp (maxSteps := 1000000) [ty180, ty22, ha2.2, hvc]; rfl) ?_)
  refine vops_callv (g := 77) (first := []) (cap := []) (avs := [.agg [v, .bool b], .int .i64 most]) rfl rfl rfl (by simp) ?_
  refine (refInNum_ok (m := m2) hA2 (by omega) hl hm0 (by omega)).mono fun r m3 hr => ?_
  obtain ⟨cs3, rfl, hA3, hF3⟩ := hr
  have hmx3 := hF3.most
  have hz3 := hF3.keep _ _ hz rfl
  have hF03 := hF02.trans hF3 (Nat.le_refl _)
  have hlen2 := isl_num (most := most) hl
  have hT : dText most st = match dNum most st with
    | (_, none) => ([], none)
    | (n, some b) => if n < 0 ∨ (b.length : Int) < n then ([], none) else (b.take n.toNat, some (b.drop n.toNat)) := rfl
  rcases hd : dNum most st with ⟨n, st2⟩
  rw [hd] at hT hA3 hlen2
  simp only at hA3 hlen2
  obtain ⟨v3, b3, bs3, rfl, hv3, hv3c, hnone, hsome⟩ := hA3.view
  have hv3l : sliceLen v3 = some bs3.length := by rw [hv3.len, E8_len]
  refine ⟨_, by simp; rfl, ?_⟩
  have hnx3 : m3.next < 1048576 := by omega
  iterate 4 (refine vops_cons (n := 0) (by simp (maxSteps := 1000000) [ty180, hnx3]; rfl) ?_)
  have hz4 := at_add_self m3 ⟨180, [.nil true, .bool false], 0⟩ hnx3
  have hF4 := Fr.add (S := S0) m3 ⟨180, [.nil true, .bool false], 0⟩ hnx3
  have hn4 : (m3.add ⟨180, [.nil true, .bool false], 0⟩).next = m3.next + 1 := rfl
  generalize m3.add ⟨180, [.nil true, .bool false], 0⟩ = m4 at *
  have hnx4 : m4.next ≤ 1048576 := by omega
  iterate 2 (refine vops_cons (n := 0) (by simp (maxSteps := 1000000) [ty180, hz4.2, hv3c]; rfl) ?_)
  show vops _ _ _ _ ⟨250, 38, _, m4.upd m3.next ⟨180, [v3, .bool b3], 0⟩⟩
  have hF5 : Fr S0 m3 (m4.upd m3.next ⟨180, [v3, .bool b3], 0⟩) 1 := hF4.updNew hz4 hnx4 (Nat.le_refl _) _
  have hb5 := at_upd_self hz4 hnx4 ⟨180, [v3, .bool b3], 0⟩
  have hn5 : (m4.upd m3.next ⟨180, [v3, .bool b3], 0⟩).next = m4.next := rfl
  generalize m4.upd m3.next ⟨180, [v3, .bool b3], 0⟩ = m5 at *
  have hz5 := hF5.keep _ _ hz3 rfl
  have hF05 := hF03.trans hF5 (Nat.le_refl _)
  have hv5 := hv3.fr hF5 rfl
  have hnx5 : m5.next ≤ 1048576 := by omega
  refine vops_nil (vwp_seq (vwp_seq ?_))
  have hup := at_upd_self hz5 hnx5 ⟨180, [.nil true, .bool true], 0⟩
  have hFu := (hF05.updNew hz5 hnx5 (by omega) ⟨180, [.nil true, .bool true], 0⟩).le (show _ ≤ 60 by omega)
  have bad : dText most st = ([], none) → ∀ (sl : Slots), sget sl 5 = .ptr m1.next 2 0 → ∀ K : St → Prop, vwp ES fail250 (Ex.thenV (fun ex st' => (ex = .normal ∨ ex = .ret) ∧ ∃ vs, resultVals ES st' [.tmp 4, .cell 5 180] = some vs ∧ (∃ cs', oneOr vs = .tup [.str (mkS (dText most st).1), .agg cs'] ∧ InA st'.mem cs' (dText most st).2 ∧ Fr S0 m st'.mem 60)) K) ⟨250, 38, sl, m5⟩ := by
    intro hd sl s5 K
    unfold fail250 f250
    refine vwp_seq ?_
    refine vwp_region ?_
    iterate 3 (refine vops_cons (n := 0) (by simp (maxSteps := 1000000) [s5, ty180, ty22, ty4, buildVal, structPlace, hz5.2]; rfl) ?_)
    refine vops_nil ?_
    exact vwp_ret ⟨.inr rfl, _, by simp [resultVals, s5, ty180, hup.2]; rfl, _, by rw [hd]; rfl, by rw [hd]; rfl, hFu⟩
  cases st2 with
  | none =>
    obtain ⟨rfl, rfl⟩ := hnone rfl
    refine vwp_region ?_
    iterate 13 (refine vops_cons (n := 0) (by simp (maxSteps := 1000000) [ty180, ty4, hb5.2]; rfl) ?_)
    refine vops_nil ?_
    refine vwp_cond (t := true) (by simp [St.ev, St.slot_mk, sget_put]) ?_
    refine bad (by rw [hT]) _ ?_ _
    simp
  | some x =>
    obtain ⟨rfl, rfl⟩ := hsome x rfl
    by_cases c1 : n < 0
    · have hd' : dText most st = ([], none) := by rw [hT]; simp only; rw [if_pos (.inl c1)]
      refine vwp_region ?_
      iterate 13 (refine vops_cons (n := 0) (by simp (maxSteps := 1000000) [ty180, ty4, hb5.2, c1]; rfl) ?_)
      refine vops_nil ?_
      refine vwp_cond (t := true) (by simp [St.ev, St.slot_mk, sget_put]) ?_
      refine bad hd' _ ?_ _
      simp
    · by_cases c2 : (bs3.length : Int) < n
      · have hd' : dText most st = ([], none) := by rw [hT]; simp only; rw [if_pos (.inr c2)]
        refine vwp_region ?_
        iterate 13 (refine vops_cons (n := 0) (by simp (maxSteps := 1000000) [ty180, ty4, ty22, hb5.2, c1, c2, hv3c, hv3l]; rfl) ?_)
        refine vops_nil ?_
        refine vwp_cond (t := true) (by simp [St.ev, St.slot_mk, sget_put]) ?_
        refine bad hd' _ ?_ _
        simp
      · have hd' : dText most st = (bs3.take n.toNat, some (bs3.drop n.toNat)) := by rw [hT]; simp only; rw [if_neg (by omega)]
        obtain ⟨k, rfl⟩ := Int.eq_ofNat_of_zero_le (show 0 ≤ n by omega)
        rw [Int.toNat_natCast] at hd'
        have hlss : arith .lss .i64 ((k : Nat) : Int) 0 = some (.bool false) := by rw [ar_lss, decide_eq_false c1]
        have hgtr : arith .gtr .i64 ((k : Nat) : Int) ((bs3.length : Nat) : Int) = some (.bool false) := by rw [ar_gtr, decide_eq_false c2]
        refine vwp_region ?_
        iterate 13 (refine vops_cons (n := 0) (by simp (maxSteps := 1000000) [ty180, ty4, ty22, hb5.2, hlss, hgtr, hv3c, hv3l, -ar_lss, -ar_gtr]; rfl) ?_)
        refine vops_nil ?_
        refine vwp_cond (t := false) (by simp [St.ev, St.slot_mk, sget_put]) (vwp_skip ?_)
        obtain ⟨v1, hc1, hv1⟩ := hv5.take (E := ES) ty22 rfl ty5 rfl (n := k) (by rw [E8_len]; omega)
        obtain ⟨v2, hc2, hv2⟩ := hv5.drop (E := ES) ty22 rfl ty5 rfl (n := k) (by rw [E8_len]; omega)
        rw [E8_take] at hv1
        rw [E8_drop] at hv2
        have hv2c := hv2.cl
        refine vwp_seq (vwp_draw plan250 rfl ?_)
        iterate 4 (refine vpl_run (n := 0) rfl (by simp (maxSteps := 1000000) [ty180, ty22, hb5.2, hv3c, optNat, hc1]; rfl) ?_)
        refine vpl_val (v := .str (mkS (bs3.take k))) rfl rfl rfl (conv_str hv1 (by simp)) ⟨_, by simp; rfl, ?_⟩
        iterate 7 (refine vpl_run (n := 0) rfl (by simp (maxSteps := 1000000) [ty180, ty22, ty4, hb5.2, hv3c, optNat, hc2, hv2c, buildVal, structPlace, hz5.2]; rfl) ?_)
        have hup2 := at_upd_self hz5 hnx5 ⟨180, [v2, .bool false], 0⟩
        have hFu2 := (hF05.updNew hz5 hnx5 (by omega) ⟨180, [v2, .bool false], 0⟩).le (show _ ≤ 60 by omega)
        refine vpl_nil (vwp_ret ⟨.inr rfl, _, by simp [resultVals, ty180, hup2.2]; rfl, _, by rw [hd']; rfl, ?_, hFu2⟩)
        rw [hd']
        exact ⟨v2, rfl, hv2.fr (Fr.upd (S := fun t => Nat.beq t 180) hz5 hnx5 rfl _) rfl⟩

theorem refDone_ok {m : Mem} {cs : List AVal} {st : IS} (h : InA m cs st) (hN : m.next ≤ 900000) : vcall ES 78 [.agg cs] m fun r m' => r = .bool (isDone st) ∧ Fr S0 m m' 1 := by
  obtain ⟨v, b, bs, rfl, hv, hvc, hnone, hsome⟩ := h.view
  have hvl : sliceLen v = some bs.length := by rw [hv.len, E8_len]
  have hnx : m.next < 1048576 := by omega
  have ha := at_add_self m ⟨180, [v, .bool b], 0⟩ hnx
  have hF1 := Fr.add (S := S0) m ⟨180, [v, .bool b], 0⟩ hnx
  refine vcall_body (fn := f78) (c := ((f78.body).getD .skip)) rfl fns78 body78 (by rw [vntmps78]; show 1 ≤ 12; decide) (by rw [vntmps78]; decide) ?_
  rw [vntmps78]
  simp only [vresults78]
  unfold f78
  simp only [Option.getD_some]
  refine vwp_seq (vwp_region ?_)
  iterate 2 (refine vops_cons (n := 0) (by simp (maxSteps := 1000000) [hnx]; rfl) ?_)
  show vops _ _ _ _ ⟨78, 12, _, m.add ⟨180, [v, .bool b], 0⟩⟩
  generalize m.add ⟨180, [v, .bool b], 0⟩ = m1 at *
  refine vops_nil (vwp_seq (vwp_region ?_))
  cases st with
  | none =>
    obtain ⟨rfl, rfl⟩ := hnone rfl
    iterate 10 (refine vops_cons (n := 0) (by simp (maxSteps := 1000000) [ty180, ty4, ha.2]; rfl) ?_)
    exact vops_nil (vwp_ret ⟨.inr rfl, _, by simp [resultVals]; rfl, rfl, hF1⟩)
  | some x =>
    obtain ⟨rfl, rfl⟩ := hsome x rfl
    cases bs with
    | nil =>
      iterate 10 (refine vops_cons (n := 0) (by simp (maxSteps := 1000000) [ty180, ty4, ty22, ha.2, hvc, hvl]; rfl) ?_)
      exact vops_nil (vwp_ret ⟨.inr rfl, _, by simp [resultVals]; rfl, rfl, hF1⟩)
    | cons x b =>
      have hE : arith .eql .i64 (((x :: b).length : Nat) : Int) 0 = some (.bool false) := by rw [ar_eql, decide_eq_false (by rw [List.length_cons]; omega)]
      generalize (x :: b).length = lb at *
      iterate 10 (refine vops_cons (n := 0) (by simp (maxSteps := 1000000) [ty180, ty4, ty22, ha.2, hvc, hvl, hE, -ar_eql]; rfl) ?_)
      exact vops_nil (vwp_ret ⟨.inr rfl, _, by simp [resultVals]; rfl, rfl, hF1⟩)
end Go.Proofs.Tryz
