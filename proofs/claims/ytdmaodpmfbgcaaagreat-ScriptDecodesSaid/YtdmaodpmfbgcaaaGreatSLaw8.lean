/-
  ScriptDecodes answers true, whatever the bytes: on the abstract machine.
-/
import Derived.Test.YtdmaodpmfbgcaaaGreatSDecR
set_option maxRecDepth 100000
namespace Go.Proofs.Tryz
open Go Go.V Go.SC
attribute [local simp] runOp wanted isHeavy light St.ev St.slot_mk sget_put St.put_mk cl_int cl_bool cl_str cl_ptr cl_nil cl_ref cl_imm cl_agg cl_nilp NewV.at nblt nble nbeq ofConst ofConst1 fieldOf sh_ptr sh_iptr rc_ptr rc_iptr lget mkVal VD.isAgg lenOf bin ar_add ar_sub ar_mul ar_eql ar_neq ar_lss ar_leq ar_gtr ar_geq argSlots un heavy writeCells lput eqVals next_add next_upd fillA zeros natOf_cast natOf_succ
theorem fns8 : ES.fns.get 8 = some f8 := by kernel_rfl
theorem vntmps8 : f8.ntmps = 57 := by kernel_rfl
theorem vresults8 : f8.results.toList = [.tmp 2] := by kernel_rfl
theorem body8 : f8.body = some ((f8.body).getD .skip) := by kernel_rfl
theorem plan8 : ES.plans.get 32773 = some [.run 0, .run 1, .run 2, .run 3, .run 4, .run 6, .run 5, .chk 6, .run 7, .run 8, .run 9] := by kernel_rfl
theorem zero_scr (m : Mem) (ty : TypeId) : ScrR m ty [.int .i64 0, .int .i64 0, .int .i64 0, .nil true] ⟨0, 0, 0, []⟩ := ⟨.nil true, rfl, [], .nil true, rfl, fun i x h => by cases h⟩

theorem scriptDecodes_ok {m : Mem} {v : AVal} {bs : List UInt8} (hvv : ∀ m, BV m v bs) (hIn : InputB v) (hn : m.next ≤ 1000) : vcall ES 8 [v] m fun r _ => r = .bool true := by
  have hv := hvv m
  have hvl : sliceLen v = some bs.length := by rw [hv.len, E8_len]
  refine vcall_body (fn := f8) (c := ((f8.body).getD .skip)) rfl fns8 body8 (by rw [vntmps8]; show 1 ≤ 57; decide) (by rw [vntmps8]; decide) ?_
  rw [vntmps8]
  simp only [vresults8]
  unfold f8
  simp only [Option.getD_some]
  refine vwp_seq ?_
  refine vwp_region ?_
  iterate 1 (refine vops_cons (n := 0) (by simp (maxSteps := 1000000) []; rfl) ?_)
  refine vops_nil ?_
  refine vwp_seq (vwp_seq (vwp_region ?_))
  refine vops_callv (g := 49) (first := []) (cap := []) (avs := []) rfl rfl rfl (by simp) ?_
  refine (awake_told m).mono fun r m' hr => ?_
  obtain ⟨rfl, rfl⟩ := hr
  refine ⟨_, by simp; rfl, ?_⟩
  by_cases c0 : (5000 : Int) < (bs.length : Int)
  · skip
    iterate 6 (refine vops_cons (n := 0) (by simp (maxSteps := 1000000) [ty22, hvl, c0]; rfl) ?_)
    refine vops_nil (vwp_cond (t := true) (by simp [St.ev, St.slot_mk, sget_put]) ?_)
    refine vwp_seq (vwp_region ?_)
    refine vops_callv (g := 49) (first := []) (cap := []) (avs := []) rfl rfl rfl (by simp) ?_
    refine (awake_told m').mono fun r m2 hr => ?_
    obtain ⟨rfl, rfl⟩ := hr
    refine ⟨_, by simp; rfl, ?_⟩
    iterate 1 (refine vops_cons (n := 0) (by simp (maxSteps := 1000000) []; rfl) ?_)
    exact vops_nil (vwp_ret ⟨.inr rfl, _, by simp [resultVals]; rfl, rfl⟩)
  have hlen : bs.length ≤ 5000 := by omega
  iterate 6 (refine vops_cons (n := 0) (by simp (maxSteps := 1000000) [ty22, hvl, c0]; rfl) ?_)
  refine vops_nil (vwp_cond (t := false) (by simp [St.ev, St.slot_mk, sget_put]) (vwp_skip ?_))
  refine vwp_seq (vwp_region ?_)
  iterate 1 (refine vops_cons (n := 0) (by simp (maxSteps := 1000000) []; rfl) ?_)
  refine vops_callv (g := 54) (first := []) (cap := []) (avs := [v]) rfl rfl rfl (by simp) ?_
  refine (decode_ok (m := m') hv hIn (by omega) (by omega)).mono fun r m1 hr => ?_
  obtain ⟨cs1, e1, rfl, hF1, hD1⟩ := hr
  have hmx1 := hF1.most
  have hv1 := hv.fr hF1 rfl
  obtain ⟨x, hx1, hok, hkind, he1⟩ : ∃ x, ScrR m1 119 cs1 x ∧ x.steps.length ≤ 200 ∧ (∀ y ∈ x.steps, y.path.length ≤ 100000000) ∧ ((e1 = 0 ∧ dScript bs = some x) ∨ (e1 = 2 ∧ dScript bs = none ∧ x = ⟨0, 0, 0, []⟩)) := by
    cases hd : dScript bs with
    | none =>
      rw [hd] at hD1
      obtain ⟨rfl, rfl⟩ := hD1
      exact ⟨⟨0, 0, 0, []⟩, zero_scr _ _, by simp, fun y hy => (by cases hy), .inr ⟨rfl, rfl, rfl⟩⟩
    | some x =>
      rw [hd] at hD1
      obtain ⟨rfl, h⟩ := hD1
      have hS := (dScript_some hd).2
      exact ⟨x, h, hS.len, fun y hy => by have := (hS.steps y hy).path; omega, .inl ⟨rfl, rfl⟩⟩
  obtain ⟨w1, rfl, hw1⟩ := hx1
  have hw1c := steps_cl hw1
  have hnx1 : m1.next < 1048576 := by omega
  refine ⟨_, by simp; rfl, ?_⟩
  iterate 4 (refine vops_cons (n := 0) (by simp (maxSteps := 1000000) [ty130, hnx1]; rfl) ?_)
  have hz1 := at_add_self m1 ⟨130, [.int .i64 0, .int .i64 0, .int .i64 0, .nil true], 0⟩ hnx1
  have hF2 := Fr.add (S := S0) m1 ⟨130, [.int .i64 0, .int .i64 0, .int .i64 0, .nil true], 0⟩ hnx1
  have hn2 : (m1.add ⟨130, [.int .i64 0, .int .i64 0, .int .i64 0, .nil true], 0⟩).next = m1.next + 1 := rfl
  generalize m1.add ⟨130, [.int .i64 0, .int .i64 0, .int .i64 0, .nil true], 0⟩ = m2 at *
  have hnx2 : m2.next ≤ 1048576 := by omega
  iterate 2 (refine vops_cons (n := 0) (by simp (maxSteps := 1000000) [ty130, hz1.2, hw1c]; rfl) ?_)
  show vops _ _ _ _ ⟨8, 57, _, m2.upd m1.next ⟨130, [.int .i64 x.c, .int .i64 x.s, .int .i64 x.cap, w1], 0⟩⟩
  have hF3 : Fr S0 m1 (m2.upd m1.next ⟨130, [.int .i64 x.c, .int .i64 x.s, .int .i64 x.cap, w1], 0⟩) 1 := hF2.updNew hz1 hnx2 (Nat.le_refl _) _
  have hb3 := at_upd_self hz1 hnx2 ⟨130, [.int .i64 x.c, .int .i64 x.s, .int .i64 x.cap, w1], 0⟩
  have hn3 : (m2.upd m1.next ⟨130, [.int .i64 x.c, .int .i64 x.s, .int .i64 x.cap, w1], 0⟩).next = m2.next := rfl
  generalize m2.upd m1.next ⟨130, [.int .i64 x.c, .int .i64 x.s, .int .i64 x.cap, w1], 0⟩ = m3 at *
  have hv3 := hv1.fr hF3 rfl
  have hw3 := hw1.fr hF3 rfl rfl
  refine vops_nil (vwp_seq (vwp_region ?_))
  iterate 1 (refine vops_cons (n := 0) (by simp (maxSteps := 1000000) []; rfl) ?_)
  refine vops_callv (g := 58) (first := []) (cap := []) (avs := [v]) rfl rfl rfl (by simp) ?_
  refine (refDecode_ok (m := m3) hv3 (by omega) (by omega)).mono fun r m4 hr => ?_
  obtain ⟨cs4, e4, rfl, hF4, hD4⟩ := hr
  have hmx4 := hF4.most
  have hv4 := hv3.fr hF4 rfl
  have hw4 := hw3.fr hF4 rfl rfl
  have hb4 := hF4.keep _ _ hb3 rfl
  obtain ⟨hx4, rfl⟩ : ScrR m4 115 cs4 x ∧ e4 = e1 := by
    rcases he1 with ⟨rfl, hd⟩ | ⟨rfl, hd, rfl⟩
    · rw [hd] at hD4; exact ⟨hD4.2, hD4.1⟩
    · rw [hd] at hD4
      obtain ⟨rfl, rfl⟩ := hD4
      exact ⟨zero_scr _ _, rfl⟩
  obtain ⟨w2, rfl, hw2⟩ := hx4
  have hw2c := steps_cl hw2
  have hw2s := steps_same hw2
  have hnx4 : m4.next < 1048576 := by omega
  refine ⟨_, by simp; rfl, ?_⟩
  iterate 4 (refine vops_cons (n := 0) (by simp (maxSteps := 1000000) [ty127, hnx4]; rfl) ?_)
  have hz4 := at_add_self m4 ⟨127, [.int .i64 0, .int .i64 0, .int .i64 0, .nil true], 0⟩ hnx4
  have hF5 := Fr.add (S := S0) m4 ⟨127, [.int .i64 0, .int .i64 0, .int .i64 0, .nil true], 0⟩ hnx4
  have hn5 : (m4.add ⟨127, [.int .i64 0, .int .i64 0, .int .i64 0, .nil true], 0⟩).next = m4.next + 1 := rfl
  generalize m4.add ⟨127, [.int .i64 0, .int .i64 0, .int .i64 0, .nil true], 0⟩ = m5 at *
  have hnx5 : m5.next ≤ 1048576 := by omega
  iterate 2 (refine vops_cons (n := 0) (by simp (maxSteps := 1000000) [ty127, hz4.2, hw2c]; rfl) ?_)
  show vops _ _ _ _ ⟨8, 57, _, m5.upd m4.next ⟨127, [.int .i64 x.c, .int .i64 x.s, .int .i64 x.cap, w2], 0⟩⟩
  have hF6 : Fr S0 m4 (m5.upd m4.next ⟨127, [.int .i64 x.c, .int .i64 x.s, .int .i64 x.cap, w2], 0⟩) 1 := hF5.updNew hz4 hnx5 (Nat.le_refl _) _
  have hc6 := at_upd_self hz4 hnx5 ⟨127, [.int .i64 x.c, .int .i64 x.s, .int .i64 x.cap, w2], 0⟩
  have hn6 : (m5.upd m4.next ⟨127, [.int .i64 x.c, .int .i64 x.s, .int .i64 x.cap, w2], 0⟩).next = m5.next := rfl
  generalize m5.upd m4.next ⟨127, [.int .i64 x.c, .int .i64 x.s, .int .i64 x.cap, w2], 0⟩ = m6 at *
  have hv6 := hv4.fr hF6 rfl
  have hw6 := hw4.fr hF6 rfl rfl
  have hb6 := hF6.keep _ _ hb4 rfl
  have hw26 := hw2.fr hF6 rfl rfl
  refine vops_nil (vwp_seq (vwp_seq (vwp_draw plan8 rfl ?_)))
  iterate 6 (refine vpl_run (n := 0) rfl (by simp (maxSteps := 1000000) [ty130, ty127, hb6.2, hc6.2, hw1c, hw2c]; rfl) ?_)
  refine vpl_call (g := 57) (first := []) (cap := []) (avs := [.agg [.int .i64 x.c, .int .i64 x.s, .int .i64 x.cap, w1]]) rfl (by simp) rfl rfl (by simp) ?_
  refine (of_ok (m := m6) ⟨w1, rfl, hw6⟩ (by omega) (by omega)).mono fun r m7 hr => ?_
  obtain ⟨_, rfl, ⟨w7, rfl, hw7⟩, hF7⟩ := hr
  have hmx7 := hF7.most
  have hv7 := hv6.fr hF7 rfl
  have hw17 := hw6.fr hF7 rfl rfl
  have hb7 := hF7.keep _ _ hb6 rfl
  have hc7 := hF7.keep _ _ hc6 rfl
  have hw27 := hw26.fr hF7 rfl rfl
  refine ⟨_, by simp; rfl, ?_⟩
  refine vpl_chk (d := 33) (v := .agg [.int .i64 x.c, .int .i64 x.s, .int .i64 x.cap, w2]) rfl (by simp) ?_ rfl ?_ ?_
  · simp [ty127, hc7.2]
  · simp [AVal.same, AVal.sames, hw2s]
  refine vpl_call (g := 56) (first := []) (cap := []) (avs := [.agg [.int .i64 x.c, .int .i64 x.s, .int .i64 x.cap, w7], .agg [.int .i64 x.c, .int .i64 x.s, .int .i64 x.cap, w2]]) rfl (by simp) rfl rfl (by simp) ?_
  refine (same_ok (m := m7) ⟨w7, rfl, hw7⟩ ⟨w2, rfl, hw27⟩ (by omega) hkind (by omega)).mono fun r m8 hr => ?_
  obtain ⟨rfl, hF8⟩ := hr
  have hmx8 := hF8.most
  have hv8 := hv7.fr hF8 rfl
  have hw18 := hw17.fr hF8 rfl rfl
  have hb8 := hF8.keep _ _ hb7 rfl
  refine ⟨_, by simp; rfl, ?_⟩
  iterate 2 (refine vpl_run (n := 0) rfl (by simp (maxSteps := 1000000) []; rfl) ?_)
  refine vpl_nil (vwp_cond (t := false) (by simp [St.ev, St.slot_mk, sget_put]) (vwp_skip ?_))
  refine vwp_seq (vwp_seq ?_)
  rcases he1 with ⟨rfl, hd⟩ | ⟨rfl, hd, rfl⟩
  · obtain ⟨hbs, hSO⟩ := dScript_some hd
    have hokB := (scriptOkB_iff x).2 hSO
    refine vwp_region ?_
    iterate 2 (refine vops_cons (n := 0) (by simp (maxSteps := 1000000) []; rfl) ?_)
    refine vops_nil ?_
    refine vwp_cond (t := false) (by simp [St.ev, St.slot_mk, sget_put]) (vwp_skip ?_)
    refine vwp_seq (vwp_region ?_)
    iterate 1 (refine vops_cons (n := 0) (by simp (maxSteps := 1000000) [ty130, hb8.2, hw1c]; rfl) ?_)
    refine vops_callv (g := 51) (first := []) (cap := []) (avs := [.agg [.int .i64 x.c, .int .i64 x.s, .int .i64 x.cap, w1]]) rfl rfl rfl (by simp) ?_
    refine (encode_ok (m := m8) ⟨w1, rfl, hw18⟩ (by omega) (by omega)).mono fun r m9 hr => ?_
    obtain ⟨hF9, hE⟩ := hr
    rw [hokB] at hE
    obtain ⟨bv, rfl, hB, hbv⟩ := hE
    have hmx9 := hF9.most
    have hw19 := hw18.fr hF9 rfl rfl
    have hb9 := hF9.keep _ _ hb8 rfl
    refine ⟨_, by simp; rfl, ?_⟩
    iterate 5 (refine vops_cons (n := 0) (by simp (maxSteps := 1000000) []; rfl) ?_)
    refine vops_nil (vwp_seq (vwp_region ?_))
    iterate 4 (refine vops_cons (n := 0) (by simp (maxSteps := 1000000) []; rfl) ?_)
    refine vops_val (v := .str (mkS (scriptB x))) (by simp) rfl (conv_str hB (by simp)) ⟨_, by simp; rfl, ?_⟩
    iterate 1 (refine vops_cons (n := 0) (by simp (maxSteps := 1000000) []; rfl) ?_)
    have hv9 := hvv m9
    refine vops_val (v := .str (mkS bs)) (by simp) rfl (conv_str hv9 (by simp)) ⟨_, by simp; rfl, ?_⟩
    rw [← hbs]
    iterate 4 (refine vops_cons (n := 0) (by simp (maxSteps := 1000000) [strOp_eql, mkS_toList, ty130, hb9.2, hw1c]; rfl) ?_)
    refine vops_callv (g := 53) (first := []) (cap := []) (avs := [.agg [.int .i64 x.c, .int .i64 x.s, .int .i64 x.cap, w1]]) (by simp) rfl rfl (by simp) ?_
    refine (right_ok (m := m9) ⟨w1, rfl, hw19⟩ (by omega) (by omega)).mono fun r m10 hr => ?_
    obtain ⟨rfl, hF10⟩ := hr
    rw [hokB]
    refine ⟨_, by simp; rfl, ?_⟩
    iterate 2 (refine vops_cons (n := 0) (by simp (maxSteps := 1000000) []; rfl) ?_)
    exact vops_nil (vwp_ret ⟨.inr rfl, _, by simp [resultVals]; rfl, rfl⟩)
  · skip
    refine vwp_region ?_
    iterate 2 (refine vops_cons (n := 0) (by simp (maxSteps := 1000000) []; rfl) ?_)
    refine vops_nil ?_
    refine vwp_cond (t := true) (by simp [St.ev, St.slot_mk, sget_put]) ?_
    refine vwp_seq ?_
    refine vwp_region ?_
    iterate 1 (refine vops_cons (n := 0) (by simp (maxSteps := 1000000) []; rfl) ?_)
    refine vops_nil ?_
    exact vwp_ret ⟨.inr rfl, _, by simp [resultVals]; rfl, rfl⟩
end Go.Proofs.Tryz
