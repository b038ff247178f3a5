/-
  ScriptRight answers true, whatever the script: on the abstract machine.
-/
import Derived.Test.YtdmaodpmfbgcaaaGreatSSame
import Derived.Test.YtdmaodpmfbgcaaaGreatSRefE
import Derived.Test.YtdmaodpmfbgcaaaGreatSRefR
set_option maxRecDepth 100000
namespace Go.Proofs.Tryz
open Go Go.V Go.SC
attribute [local simp] runOp wanted isHeavy light St.ev St.slot_mk sget_put St.put_mk cl_int cl_bool cl_str cl_ptr cl_nil cl_ref cl_imm cl_agg cl_nilp NewV.at nblt nble nbeq ofConst ofConst1 fieldOf sh_ptr sh_iptr rc_ptr rc_iptr lget mkVal VD.isAgg lenOf bin ar_add ar_sub ar_mul ar_eql ar_neq ar_lss ar_leq ar_gtr ar_geq argSlots un heavy writeCells lput eqVals next_add next_upd fillA zeros natOf_cast natOf_succ
theorem fns7 : ES.fns.get 7 = some f7 := by kernel_rfl
theorem vntmps7 : f7.ntmps = 68 := by kernel_rfl
theorem vresults7 : f7.results.toList = [.tmp 2] := by kernel_rfl
theorem body7 : f7.body = some ((f7.body).getD .skip) := by kernel_rfl
theorem strOp_eql (x y : ByteArray) : strOp .eql x y = some (.bool (x.toList == y.toList)) := rfl
theorem plan7 : ES.plans.get 28680 = some [.run 0, .run 1, .run 2, .run 3, .run 4, .run 5, .run 6, .run 7, .run 8, .run 9, .run 10, .chk 8, .run 11, .run 12, .run 13, .run 14, .run 15, .run 16, .run 17, .run 18, .run 19, .run 21, .run 20, .chk 21, .run 22, .run 23, .run 24] := by kernel_rfl
theorem awake_told (m : Mem) : vcall ES 49 [] m fun r m' => r = .bool true ∧ m' = m := ⟨0, _, _, rfl, rfl, rfl⟩
theorem steps_same {m : Mem} {ty : TypeId} {w : AVal} {l : List LStep} (h : StepsR m ty w l) : AVal.same w w = true := by
  obtain ⟨els, hs, hl, he⟩ := h
  refine SlV.same hs fun z hz => ?_
  obtain ⟨i, hi⟩ := List.getElem?_of_mem hz
  have hil : i < l.length := by rw [← hl]; exact (List.getElem?_eq_some_iff.1 hi).1
  obtain ⟨c, e1, r, rfl, e2⟩ := he i _ (List.getElem?_eq_getElem hil)
  rw [hi] at e1; cases e1
  exact stepC_same e2
theorem steps_cl {m : Mem} {ty : TypeId} {w : AVal} {l : List LStep} (h : StepsR m ty w l) : AVal.cells? w = some [w] := by
  obtain ⟨els, h1, _⟩ := h; exact h1.cl

theorem scriptRight_ok {m : Mem} {cs : List AVal} {x : LScript} (h : ScrR m 115 cs x) (hn : m.next ≤ 1000) : vcall ES 7 [.agg cs] m fun r _ => r = .bool true := by
  obtain ⟨w, rfl, hw⟩ := h
  have hnx : m.next < 1048576 := by omega
  have hwl := hw.len
  have hwc := steps_cl hw
  have hws := steps_same hw
  have ha1 := at_add_self m ⟨127, [.int .i64 x.c, .int .i64 x.s, .int .i64 x.cap, w], 0⟩ hnx
  have hF1 := Fr.add (S := S0) m ⟨127, [.int .i64 x.c, .int .i64 x.s, .int .i64 x.cap, w], 0⟩ hnx
  have hn1 : (m.add ⟨127, [.int .i64 x.c, .int .i64 x.s, .int .i64 x.cap, w], 0⟩).next = m.next + 1 := rfl
  have hw1 := hw.fr hF1 rfl rfl
  refine vcall_body (fn := f7) (c := ((f7.body).getD .skip)) rfl fns7 body7 (by rw [vntmps7]; show 1 ≤ 68; decide) (by rw [vntmps7]; decide) ?_
  rw [vntmps7]
  simp only [vresults7]
  unfold f7
  simp only [Option.getD_some]
  refine vwp_seq (vwp_region ?_)
  iterate 1 (refine vops_cons (n := 0) (by simp (maxSteps := 1000000) [hnx]; rfl) ?_)
  show vops _ _ _ _ ⟨7, 68, _, m.add ⟨127, [.int .i64 x.c, .int .i64 x.s, .int .i64 x.cap, w], 0⟩⟩
  generalize m.add ⟨127, [.int .i64 x.c, .int .i64 x.s, .int .i64 x.cap, w], 0⟩ = m1 at *
  iterate 1 (refine vops_cons (n := 0) (by simp (maxSteps := 1000000) []; rfl) ?_)
  refine vops_nil (vwp_seq (vwp_seq (vwp_region ?_)))
  refine vops_callv (g := 49) (first := []) (cap := []) (avs := []) rfl rfl rfl (by simp) ?_
  refine (awake_told m1).mono fun r m' hr => ?_
  obtain ⟨rfl, rfl⟩ := hr
  refine ⟨_, by simp; rfl, ?_⟩
  by_cases c0 : (300 : Int) < (x.steps.length : Int)
  · skip
    iterate 7 (refine vops_cons (n := 0) (by simp (maxSteps := 1000000) [ty127, ty125, ha1.2, hwl, hwc, c0]; rfl) ?_)
    refine vops_nil (vwp_cond (t := true) (by simp [St.ev, St.slot_mk, sget_put]) ?_)
    refine vwp_seq (vwp_region ?_)
    refine vops_callv (g := 49) (first := []) (cap := []) (avs := []) rfl rfl rfl (by simp) ?_
    refine (awake_told m').mono fun r m2 hr => ?_
    obtain ⟨rfl, rfl⟩ := hr
    refine ⟨_, by simp; rfl, ?_⟩
    iterate 1 (refine vops_cons (n := 0) (by simp (maxSteps := 1000000) []; rfl) ?_)
    exact vops_nil (vwp_ret ⟨.inr rfl, _, by simp [resultVals]; rfl, rfl⟩)
  have hlen : x.steps.length ≤ 300 := by omega
  iterate 7 (refine vops_cons (n := 0) (by simp (maxSteps := 1000000) [ty127, ty125, ha1.2, hwl, hwc, c0]; rfl) ?_)
  refine vops_nil (vwp_cond (t := false) (by simp [St.ev, St.slot_mk, sget_put]) (vwp_skip ?_))
  refine vwp_seq (vwp_region ?_)
  iterate 1 (refine vops_cons (n := 0) (by simp (maxSteps := 1000000) [ty127, ha1.2]; rfl) ?_)
  refine vops_callv (g := 50) (first := []) (cap := []) (avs := [.agg [.int .i64 x.c, .int .i64 x.s, .int .i64 x.cap, w]]) rfl rfl rfl (by simp) ?_
  refine (to_ok (m := m') ⟨w, rfl, hw1⟩ (by omega) (by omega)).mono fun r m2 hr => ?_
  obtain ⟨_, rfl, ⟨v2, rfl, hv2⟩, hF2⟩ := hr
  have hmx2 := hF2.most
  have hnx2 : m2.next < 1048576 := by omega
  have ha2 := hF2.keep _ _ ha1 rfl
  have hw2 := hw1.fr hF2 rfl rfl
  have hv2c := steps_cl hv2
  refine ⟨_, by simp; rfl, ?_⟩
  iterate 1 (refine vops_cons (n := 0) (by simp (maxSteps := 1000000) [ty130, hnx2]; rfl) ?_)
  have hz := at_add_self m2 ⟨130, [.int .i64 0, .int .i64 0, .int .i64 0, .nil true], 0⟩ hnx2
  have hF3 := Fr.add (S := S0) m2 ⟨130, [.int .i64 0, .int .i64 0, .int .i64 0, .nil true], 0⟩ hnx2
  have hn3 : (m2.add ⟨130, [.int .i64 0, .int .i64 0, .int .i64 0, .nil true], 0⟩).next = m2.next + 1 := rfl
  generalize m2.add ⟨130, [.int .i64 0, .int .i64 0, .int .i64 0, .nil true], 0⟩ = m3 at *
  have hnx3 : m3.next ≤ 1048576 := by omega
  iterate 1 (refine vops_cons (n := 0) (by simp (maxSteps := 1000000) [ty130, hz.2, hv2c]; rfl) ?_)
  show vops _ _ _ _ ⟨7, 68, _, m3.upd m2.next ⟨130, [.int .i64 x.c, .int .i64 x.s, .int .i64 x.cap, v2], 0⟩⟩
  have hF4 : Fr S0 m2 (m3.upd m2.next ⟨130, [.int .i64 x.c, .int .i64 x.s, .int .i64 x.cap, v2], 0⟩) 1 := hF3.updNew hz hnx3 (Nat.le_refl _) _
  have hb4 := at_upd_self hz hnx3 ⟨130, [.int .i64 x.c, .int .i64 x.s, .int .i64 x.cap, v2], 0⟩
  have hn4 : (m3.upd m2.next ⟨130, [.int .i64 x.c, .int .i64 x.s, .int .i64 x.cap, v2], 0⟩).next = m3.next := rfl
  generalize m3.upd m2.next ⟨130, [.int .i64 x.c, .int .i64 x.s, .int .i64 x.cap, v2], 0⟩ = m4 at *
  have ha4 := hF4.keep _ _ ha2 rfl
  have hw4 := hw2.fr hF4 rfl rfl
  have hv4 := hv2.fr hF4 rfl rfl
  refine vops_nil (vwp_seq (vwp_region ?_))
  iterate 1 (refine vops_cons (n := 0) (by simp (maxSteps := 1000000) [ty130, hb4.2, hv2c]; rfl) ?_)
  refine vops_callv (g := 51) (first := []) (cap := []) (avs := [.agg [.int .i64 x.c, .int .i64 x.s, .int .i64 x.cap, v2]]) rfl rfl rfl (by simp) ?_
  refine (encode_ok (m := m4) ⟨v2, rfl, hv4⟩ (by omega) (by omega)).mono fun r m5 hr => ?_
  obtain ⟨hF5, hE⟩ := hr
  have hmx5 := hF5.most
  have ha5 := hF5.keep _ _ ha4 rfl
  have hb5 := hF5.keep _ _ hb4 rfl
  have hw5 := hw4.fr hF5 rfl rfl
  have hv5 := hv4.fr hF5 rfl rfl
  cases hok : scriptOkB x with
  | false =>
    rw [hok] at hE
    subst hE
    refine ⟨_, by simp; rfl, ?_⟩
    iterate 5 (refine vops_cons (n := 0) (by simp (maxSteps := 1000000) []; rfl) ?_)
    refine vops_nil (vwp_seq (vwp_seq (vwp_region ?_)))
    iterate 1 (refine vops_cons (n := 0) (by simp (maxSteps := 1000000) [ty127, ha5.2, hwc]; rfl) ?_)
    refine vops_callv (g := 52) (first := []) (cap := []) (avs := [.agg [.int .i64 x.c, .int .i64 x.s, .int .i64 x.cap, w]]) rfl rfl rfl (by simp) ?_
    refine (refRight_ok (m := m5) ⟨w, rfl, hw5⟩ (by omega)).mono fun r m6 hr => ?_
    obtain ⟨rfl, hF6⟩ := hr
    have hmx6 := hF6.most
    have hb6 := hF6.keep _ _ hb5 rfl
    rw [hok]
    refine ⟨_, by simp; rfl, ?_⟩
    iterate 1 (refine vops_cons (n := 0) (by simp (maxSteps := 1000000) []; rfl) ?_)
    refine vops_nil (vwp_cond (t := true) (by simp [St.ev, St.slot_mk, sget_put]) ?_)
    refine vwp_seq (vwp_region ?_)
    iterate 1 (refine vops_cons (n := 0) (by simp (maxSteps := 1000000) [ty130, hb6.2, hv2c]; rfl) ?_)
    refine vops_callv (g := 53) (first := []) (cap := []) (avs := [.agg [.int .i64 x.c, .int .i64 x.s, .int .i64 x.cap, v2]]) rfl rfl rfl (by simp) ?_
    refine (right_ok (m := m6) ⟨v2, rfl, hv5.fr hF6 rfl rfl⟩ (by omega) (by omega)).mono fun r m7 hr => ?_
    obtain ⟨rfl, hF7⟩ := hr
    rw [hok]
    refine ⟨_, by simp; rfl, ?_⟩
    iterate 11 (refine vops_cons (n := 0) (by simp (maxSteps := 1000000) [ty22, sliceLen]; rfl) ?_)
    exact vops_nil (vwp_ret ⟨.inr rfl, _, by simp [resultVals]; rfl, rfl⟩)
  | true =>
    rw [hok] at hE
    obtain ⟨bv, rfl, hB, hbv⟩ := hE
    have hSO := (scriptOkB_iff x).1 hok
    have hpp : ∀ y ∈ x.steps, y.path.length ≤ 100000000 := fun y hy => by have := (hSO.steps y hy).path; omega
    have hsbl := scriptB_len hSO
    refine ⟨_, by simp; rfl, ?_⟩
    iterate 5 (refine vops_cons (n := 0) (by simp (maxSteps := 1000000) []; rfl) ?_)
    refine vops_nil (vwp_seq (vwp_seq (vwp_region ?_)))
    iterate 1 (refine vops_cons (n := 0) (by simp (maxSteps := 1000000) [ty127, ha5.2, hwc]; rfl) ?_)
    refine vops_callv (g := 52) (first := []) (cap := []) (avs := [.agg [.int .i64 x.c, .int .i64 x.s, .int .i64 x.cap, w]]) rfl rfl rfl (by simp) ?_
    refine (refRight_ok (m := m5) ⟨w, rfl, hw5⟩ (by omega)).mono fun r m6 hr => ?_
    obtain ⟨rfl, hF6⟩ := hr
    have hmx6 := hF6.most
    have ha6 := hF6.keep _ _ ha5 rfl
    have hb6 := hF6.keep _ _ hb5 rfl
    have hw6 := hw5.fr hF6 rfl rfl
    have hv6 := hv5.fr hF6 rfl rfl
    have hB6 := hB.fr hF6 rfl
    rw [hok]
    refine ⟨_, by simp; rfl, ?_⟩
    iterate 1 (refine vops_cons (n := 0) (by simp (maxSteps := 1000000) []; rfl) ?_)
    refine vops_nil (vwp_cond (t := false) (by simp [St.ev, St.slot_mk, sget_put]) (vwp_skip ?_))
    refine vwp_seq (vwp_region ?_)
    iterate 1 (refine vops_cons (n := 0) (by simp (maxSteps := 1000000) []; rfl) ?_)
    refine vops_callv (g := 54) (first := []) (cap := []) (avs := [bv]) rfl rfl rfl (by simp) ?_
    refine (decode_ok (m := m6) hB6 (by rcases hbv with h | h; exact .inl h; exact .inr (.inr (.inl h))) (by omega) (by omega)).mono fun r m7 hr => ?_
    obtain ⟨cs3, e3, rfl, hF7, hD⟩ := hr
    rw [dScript_put hSO] at hD
    obtain ⟨rfl, v3, rfl, hv3⟩ := hD
    have hmx7 := hF7.most
    have ha7 := hF7.keep _ _ ha6 rfl
    have hb7 := hF7.keep _ _ hb6 rfl
    have hw7 := hw6.fr hF7 rfl rfl
    have hv7 := hv6.fr hF7 rfl rfl
    have hB7 := hB6.fr hF7 rfl
    have hv3c := steps_cl hv3
    have hnx7 : m7.next < 1048576 := by omega
    refine ⟨_, by simp; rfl, ?_⟩
    iterate 4 (refine vops_cons (n := 0) (by simp (maxSteps := 1000000) [ty130, hnx7]; rfl) ?_)
    have hz7 := at_add_self m7 ⟨130, [.int .i64 0, .int .i64 0, .int .i64 0, .nil true], 0⟩ hnx7
    have hF8 := Fr.add (S := S0) m7 ⟨130, [.int .i64 0, .int .i64 0, .int .i64 0, .nil true], 0⟩ hnx7
    have hn8 : (m7.add ⟨130, [.int .i64 0, .int .i64 0, .int .i64 0, .nil true], 0⟩).next = m7.next + 1 := rfl
    generalize m7.add ⟨130, [.int .i64 0, .int .i64 0, .int .i64 0, .nil true], 0⟩ = m8 at *
    have hnx8 : m8.next ≤ 1048576 := by omega
    iterate 2 (refine vops_cons (n := 0) (by simp (maxSteps := 1000000) [ty130, hz7.2, hv3c]; rfl) ?_)
    show vops _ _ _ _ ⟨7, 68, _, m8.upd m7.next ⟨130, [.int .i64 x.c, .int .i64 x.s, .int .i64 x.cap, v3], 0⟩⟩
    have hF9 : Fr S0 m7 (m8.upd m7.next ⟨130, [.int .i64 x.c, .int .i64 x.s, .int .i64 x.cap, v3], 0⟩) 1 := hF8.updNew hz7 hnx8 (Nat.le_refl _) _
    have hc9 := at_upd_self hz7 hnx8 ⟨130, [.int .i64 x.c, .int .i64 x.s, .int .i64 x.cap, v3], 0⟩
    have hn9 : (m8.upd m7.next ⟨130, [.int .i64 x.c, .int .i64 x.s, .int .i64 x.cap, v3], 0⟩).next = m8.next := rfl
    generalize m8.upd m7.next ⟨130, [.int .i64 x.c, .int .i64 x.s, .int .i64 x.cap, v3], 0⟩ = m9 at *
    have ha9 := hF9.keep _ _ ha7 rfl
    have hb9 := hF9.keep _ _ hb7 rfl
    have hw9 := hw7.fr hF9 rfl rfl
    have hv9 := hv7.fr hF9 rfl rfl
    have hB9 := hB7.fr hF9 rfl
    have hv39 := hv3.fr hF9 rfl rfl
    refine vops_nil (vwp_seq (vwp_draw plan7 rfl ?_))
    iterate 1 (refine vpl_run (n := 0) rfl (by simp (maxSteps := 1000000) [ty130, hb9.2, hv2c]; rfl) ?_)
    refine vpl_call (g := 53) (first := []) (cap := []) (avs := [.agg [.int .i64 x.c, .int .i64 x.s, .int .i64 x.cap, v2]]) rfl rfl rfl rfl (by simp) ?_
    refine (right_ok (m := m9) ⟨v2, rfl, hv9⟩ (by omega) (by omega)).mono fun r m10 hr => ?_
    obtain ⟨rfl, hF10⟩ := hr
    have hmx10 := hF10.most
    have ha10 := hF10.keep _ _ ha9 rfl
    have hc10 := hF10.keep _ _ hc9 rfl
    have hw10 := hw9.fr hF10 rfl rfl
    have hB10 := hB9.fr hF10 rfl
    have hv310 := hv39.fr hF10 rfl rfl
    rw [hok]
    refine ⟨_, by simp; rfl, ?_⟩
    iterate 6 (refine vpl_run (n := 0) rfl (by simp (maxSteps := 1000000) []; rfl) ?_)
    refine vpl_val (v := .str (mkS (scriptB x))) rfl (by simp) rfl (conv_str hB10 (by simp)) ⟨_, by simp; rfl, ?_⟩
    iterate 1 (refine vpl_run (n := 0) rfl (by simp (maxSteps := 1000000) [ty127, ha10.2, hwc]; rfl) ?_)
    refine vpl_call (g := 55) (first := []) (cap := []) (avs := [.agg [.int .i64 x.c, .int .i64 x.s, .int .i64 x.cap, w]]) rfl (by simp) rfl rfl (by simp) ?_
    refine (refEncode_ok (m := m10) ⟨w, rfl, hw10⟩ hSO (by omega)).mono fun r m11 hr => ?_
    obtain ⟨hR11, _, hF11⟩ := hr
    have hmx11 := hF11.most
    have ha11 := hF11.keep _ _ ha10 rfl
    have hc11 := hF11.keep _ _ hc10 rfl
    have hw11 := hw10.fr hF11 rfl rfl
    have hB11 := hB10.fr hF11 rfl
    have hv311 := hv310.fr hF11 rfl rfl
    refine ⟨_, by simp; rfl, ?_⟩
    refine vpl_chk (d := 52) (v := .str (mkS (scriptB x))) rfl (by simp) (conv_str hB11 (by simp)) rfl (by simp [AVal.same]) ?_
    refine vpl_val (v := .str (mkS (scriptB x))) rfl (by simp) rfl (conv_str hR11 (by simp)) ⟨_, by simp; rfl, ?_⟩
    iterate 8 (refine vpl_run (n := 0) rfl (by simp (maxSteps := 1000000) [strOp_eql, mkS_toList, ty130, hc11.2, hv3c]; rfl) ?_)
    iterate 1 (refine vpl_run (n := 0) rfl (by simp (maxSteps := 1000000) [ty127, ha11.2, hwc]; rfl) ?_)
    refine vpl_call (g := 57) (first := []) (cap := []) (avs := [.agg [.int .i64 x.c, .int .i64 x.s, .int .i64 x.cap, v3]]) rfl (by simp) rfl rfl (by simp) ?_
    refine (of_ok (m := m11) ⟨v3, rfl, hv311⟩ (by omega) (by omega)).mono fun r m12 hr => ?_
    obtain ⟨_, rfl, ⟨v5, rfl, hv5'⟩, hF12⟩ := hr
    have hmx12 := hF12.most
    have ha12 := hF12.keep _ _ ha11 rfl
    have hw12 := hw11.fr hF12 rfl rfl
    refine ⟨_, by simp; rfl, ?_⟩
    refine vpl_chk (d := 65) (v := .agg [.int .i64 x.c, .int .i64 x.s, .int .i64 x.cap, w]) rfl (by simp) ?_ rfl ?_ ?_
    · simp [ty127, ha12.2]
    · simp [AVal.same, AVal.sames, hws]
    refine vpl_call (g := 56) (first := []) (cap := []) (avs := [.agg [.int .i64 x.c, .int .i64 x.s, .int .i64 x.cap, v5], .agg [.int .i64 x.c, .int .i64 x.s, .int .i64 x.cap, w]]) rfl (by simp) rfl rfl (by simp) ?_
    refine (same_ok (m := m12) ⟨v5, rfl, hv5'⟩ ⟨w, rfl, hw12⟩ (by omega) hpp (by omega)).mono fun r m13 hr => ?_
    obtain ⟨rfl, hF13⟩ := hr
    refine ⟨_, by simp; rfl, ?_⟩
    iterate 2 (refine vpl_run (n := 0) rfl (by simp (maxSteps := 1000000) []; rfl) ?_)
    exact vpl_nil (vwp_ret ⟨.inr rfl, _, by simp [resultVals]; rfl, rfl⟩)
end Go.Proofs.Tryz
