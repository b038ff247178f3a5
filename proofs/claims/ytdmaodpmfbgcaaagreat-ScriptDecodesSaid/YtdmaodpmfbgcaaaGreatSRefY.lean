/-
  The reference's six numbers taken, and four, on the abstract machine.
-/
import Derived.Test.YtdmaodpmfbgcaaaGreatSRefX
set_option maxRecDepth 100000
namespace Go.Proofs.Tryz
open Go Go.V Go.SC
attribute [local simp] runOp wanted isHeavy light St.ev St.slot_mk sget_put St.put_mk cl_int cl_bool cl_str cl_ptr cl_nil cl_ref cl_imm cl_agg cl_nilp NewV.at nblt nble nbeq ofConst ofConst1 fieldOf sh_ptr sh_iptr rc_ptr rc_iptr lget mkVal VD.isAgg lenOf bin ar_add ar_sub ar_mul ar_eql ar_neq ar_lss ar_leq ar_gtr ar_geq argSlots un heavy writeCells lput eqVals next_add next_upd fillA zeros natOf_cast natOf_succ
theorem fns146 : ES.fns.get 146 = some f146 := by kernel_rfl
theorem vntmps146 : f146.ntmps = 94 := by kernel_rfl
theorem vresults146 : f146.results.toList = [.cell 2 115, .cell 3 180] := by kernel_rfl
theorem body146 : f146.body = some ((f146.body).getD .skip) := by kernel_rfl
theorem fns58 : ES.fns.get 58 = some f58 := by kernel_rfl
theorem vntmps58 : f58.ntmps = 59 := by kernel_rfl
theorem vresults58 : f58.results.toList = [.cell 2 127, .tmp 3] := by kernel_rfl
theorem body58 : f58.body = some ((f58.body).getD .skip) := by kernel_rfl
def dNums : Nat → IS → List Int × IS
  | 0, i => ([], i)
  | n + 1, i => ((dNum mostN i).1 :: (dNums n (dNum mostN i).2).1, (dNums n (dNum mostN i).2).2)
theorem lput_mid : ∀ (pre : List Int) (j k : Nat) (z : Int), pre.length = k → lput (pre.map (AVal.int .i64) ++ List.replicate (j + 1) (AVal.int .i64 0)) k [.int .i64 z] = (pre ++ [z]).map (AVal.int .i64) ++ List.replicate j (.int .i64 0)
  | [], j, k, z, h => by
    subst h
    simp [List.replicate_succ, lput]
  | x :: pre, j, k, z, h => by
    cases k with
    | zero => simp at h
    | succ k =>
      have := lput_mid pre j k z (by simpa using h)
      simp only [List.map_cons, List.cons_append, lput]
      rw [this]


noncomputable def loopN146 : Code := match f146.body with
  | some (.seq _ (.seq _ (.seq (.seq _ (.block _ l)) _))) => l
  | _ => .skip
theorem ea380 (b i : Nat) (h : i < 6) : elemAddr ES 380 (.ptr b 6 0) i = some (.ptr b 6 i) := by
  simp [elemAddr, ty380, ty2, shift, nblt, h]
theorem six_loop (m : Mem) (b1 b4 : Nat) (hm : m.next ≤ 400000) (hb1 : m.next ≤ b1) (hb4 : m.next ≤ b4) :
    ∀ (j k : Nat) (st : IS) (pre : List Int) (cs : List AVal) (sl : Slots) (mm : Mem), k + j = 6 → pre.length = k → IsL st 1000000 → InA mm cs st → mm.at b1 ⟨180, cs, 0⟩ → mm.at b4 ⟨380, pre.map (AVal.int .i64) ++ List.replicate j (.int .i64 0), 0⟩ → Fr S0 m mm (10 + 50 * k) →
      sget sl 1 = .ptr b1 2 0 → sget sl 4 = .ptr b4 6 0 → sget sl 9 = .int .i64 (k : Nat) →
    vwp ES loopN146 (fun ex s => ex = .exit 0 ∧ ∃ sl' mm' cs', s = ⟨146, 94, sl', mm'⟩ ∧ (∀ d ∈ [1, 2, 3, 4], sget sl' d = sget sl d) ∧ InA mm' cs' (dNums j st).2 ∧ mm'.at b1 ⟨180, cs', 0⟩ ∧ mm'.at b4 ⟨380, (pre ++ (dNums j st).1).map (AVal.int .i64), 0⟩ ∧ Fr S0 m mm' (10 + 50 * 6) ∧ ∀ b B, mm.at b B → b ≠ b1 → b ≠ b4 → mm'.at b B) ⟨146, 94, sl, mm⟩ := by
  intro j
  induction j with
  | zero =>
    intro k st pre cs sl mm hij hpl hil hA hb hc hF s1 s4 s9
    obtain rfl : k = 6 := by omega
    unfold loopN146 f146
    refine vwp_loop (vwp_seq ?_)
    refine vwp_region ?_
    iterate 1 (refine vops_cons (n := 0) (by simp (maxSteps := 1000000) [s9]; rfl) ?_)
    refine vops_nil ?_
    refine vwp_seq (vwp_cond (t := false) (by simp [St.ev, St.slot_mk, sget_put]) (vwp_exit ?_))
    refine ⟨rfl, _, mm, cs, rfl, ?_, hA, hb, by simpa [dNums] using hc, hF, fun _ _ h _ _ => h⟩
    intro d hd
    simp only [List.mem_cons, List.not_mem_nil, or_false] at hd
    rcases hd with rfl | rfl | rfl | rfl <;> simp
  | succ j ih =>
    intro k st pre cs sl mm hij hpl hil hA hb hc hF s1 s4 s9
    have hk : k < 6 := by omega
    have hk' : ((k : Nat) : Int) < 6 := by omega
    have hlt : arith .lss .i64 ((k : Nat) : Int) 6 = some (.bool true) := by rw [ar_lss, decide_eq_true hk']
    have hmx := hF.most
    obtain ⟨v, b, bs, rfl, hv, hvc, _, _⟩ := hA.view
    unfold loopN146 f146
    refine vwp_loop (vwp_seq ?_)
    refine vwp_region ?_
    iterate 1 (refine vops_cons (n := 0) (by simp (maxSteps := 1000000) [s9, hlt, -ar_lss]; rfl) ?_)
    refine vops_nil ?_
    refine vwp_seq (vwp_cond (t := true) (by simp [St.ev, St.slot_mk, sget_put]) (vwp_skip ?_))
    refine vwp_seq (vwp_block (vwp_seq ?_))
    refine vwp_region ?_
    iterate 2 (refine vops_cons (n := 0) (by simp (maxSteps := 1000000) [s9]; rfl) ?_)
    refine vops_nil ?_
    refine vwp_region ?_
    iterate 2 (refine vops_cons (n := 0) (by simp (maxSteps := 1000000) [s1, ty180, hb.2]; rfl) ?_)
    refine vops_callv (g := 77) (first := []) (cap := []) (avs := [.agg [v, .bool b], .int .i64 mostN]) rfl rfl rfl (by simp; rfl) ?_
    refine (refInNum_ok (m := mm) hA (by omega) hil (by decide) (by decide)).mono fun r m1 hr => ?_
    obtain ⟨cs1, rfl, hA1, hF1⟩ := hr
    have hil1 := isl_num (most := mostN) hil
    have hT : dNums (j + 1) st = ((dNum mostN st).1 :: (dNums j (dNum mostN st).2).1, (dNums j (dNum mostN st).2).2) := rfl
    generalize dNum mostN st = d at *
    obtain ⟨v1, b1', bs1, rfl, hv1, hvc1, _, _⟩ := hA1.view
    have hmx1 := hF1.most
    have hn1 : m1.next ≤ 1048576 := by omega
    have hb1x := hF1.keep _ _ hb rfl
    have hc1 := hF1.keep _ _ hc rfl
    have hFm := hF.trans hF1 (Nat.le_refl _)
    have hne : b4 ≠ b1 := by rintro rfl; have := hb.2.symm.trans hc.2; cases this
    refine ⟨_, by simp; rfl, ?_⟩
    iterate 3 (refine vops_cons (n := 0) (by simp (maxSteps := 1000000) []; rfl) ?_)
    have hlen : (pre.map (AVal.int .i64) ++ List.replicate (j + 1) (AVal.int .i64 0)).length = 6 := by simp; omega
    have hput : lput (pre.map (AVal.int .i64) ++ List.replicate (j + 1) (AVal.int .i64 0)) k [.int .i64 d.1] = (pre ++ [d.1]).map (AVal.int .i64) ++ List.replicate j (.int .i64 0) := lput_mid pre j k d.1 hpl
    obtain ⟨L', hL'⟩ : ∃ L', L' = (pre ++ [d.1]).map (AVal.int .i64) ++ List.replicate j (AVal.int .i64 0) := ⟨_, rfl⟩
    rw [← hL'] at hput
    generalize hL : pre.map (AVal.int .i64) ++ List.replicate (j + 1) (AVal.int .i64 0) = L at *
    have hk1 : k + 1 ≤ 6 := by omega
    iterate 1 (refine vops_cons (n := 0) (by simp (maxSteps := 1000000) [s4, s9, ea380 b4 k hk]; rfl) ?_)
    iterate 1 (refine vops_cons (n := 0) (by simp (maxSteps := 1000000) [ty2, hc1.2, hlen, hk1, hput, -lput]; rfl) ?_)
    show vops _ _ _ _ ⟨146, 94, _, m1.upd b4 ⟨380, L', 0⟩⟩
    have hF2 : Fr S0 m (m1.upd b4 ⟨380, L', 0⟩) (10 + 50 * k + 50) := hFm.updNew hc1 hn1 hb4 _
    have hc2 := at_upd_self hc1 hn1 ⟨380, L', 0⟩
    have hb2 := at_upd hc1 hn1 hb1x (fun e => hne e.symm) ⟨380, L', 0⟩
    have hup4 : ∀ b B, m1.at b B → b ≠ b4 → (m1.upd b4 ⟨380, L', 0⟩).at b B := fun b B hB e => at_upd hc1 hn1 hB e _
    have hA2 := hA1.fr (Fr.upd (S := fun t => Nat.beq t 380) hc1 hn1 rfl ⟨380, L', 0⟩) rfl
    have hn2 : (m1.upd b4 ⟨380, L', 0⟩).next ≤ 1048576 := hn1
    generalize m1.upd b4 ⟨380, L', 0⟩ = m2 at *
    iterate 1 (refine vops_cons (n := 0) (by simp (maxSteps := 1000000) [s1, ty180, hb2.2, hvc1]; rfl) ?_)
    refine vops_nil ?_
    refine vwp_region ?_
    iterate 2 (refine vops_cons (n := 0) (by simp (maxSteps := 1000000) [s9, wrap_up (show k < 1000000000 by omega)]; rfl) ?_)
    refine vops_nil ?_
    have hA3 := hA2.fr (Fr.upd (S := fun t => Nat.beq t 180) hb2 hn2 rfl ⟨180, [v1, .bool b1'], 0⟩) rfl
    have hF3 := hF2.updNew hb2 hn2 hb1 ⟨180, [v1, .bool b1'], 0⟩
    have g1 := at_upd_self hb2 hn2 ⟨180, [v1, .bool b1'], 0⟩
    have g2 := at_upd hb2 hn2 hc2 hne ⟨180, [v1, .bool b1'], 0⟩
    have g3 := hF3.le (show 10 + 50 * k + 50 ≤ 10 + 50 * (k + 1) by omega)
    have g4 : k + 1 + j = 6 := by omega
    have g5 : (pre ++ [d.1]).length = k + 1 := by simp [hpl]
    have g6 : ∀ b B, mm.at b B → b ≠ b1 → b ≠ b4 → (m2.upd b1 ⟨180, [v1, .bool b1'], 0⟩).at b B := fun b B hB e1 e4 => at_upd hb2 hn2 (hup4 b B (hF1.keep b B hB rfl) e4) e1 _
    generalize m2.upd b1 ⟨180, [v1, .bool b1'], 0⟩ = m3 at *
    rw [hL'] at g2
    clear hup4 hF2 hc2 hb2 hA2 hn2 hput hlen hc1 hb1x hFm hL hlt hF hb hc hA hA1 hv hv1
    refine (ih (k + 1) d.2 (pre ++ [d.1]) [v1, .bool b1'] _ m3 g4 g5 hil1 hA3 g1 g2 g3 ?_ ?_ ?_).mono ?_
    · simp [s1]
    · simp [s4]
    · simp
    rintro ex s ⟨rfl, sl', mm', cs', rfl, hK, h1, h2, h3, h4, h5⟩
    refine ⟨rfl, sl', mm', cs', rfl, ?_, by rw [hT]; exact h1, h2, by rw [hT]; simpa using h3, h4, fun b B hB e1 e4 => h5 b B (g6 b B hB e1 e4) e1 e4⟩
    intro d' hd
    rw [hK d' hd]
    simp only [List.mem_cons, List.not_mem_nil, or_false] at hd
    rcases hd with rfl | rfl | rfl | rfl <;> simp


noncomputable def loopN58 : Code := match f58.body with
  | some (.seq _ (.seq _ (.seq _ (.seq (.seq _ (.block _ l)) _)))) => l
  | _ => .skip
theorem ea49 (b i : Nat) (h : i < 4) : elemAddr ES 49 (.ptr b 4 0) i = some (.ptr b 4 i) := by
  simp [elemAddr, ty49, ty2, shift, nblt, h]
theorem four_loop (m : Mem) (b1 b4 : Nat) (hm : m.next ≤ 400000) (hb1 : m.next ≤ b1) (hb4 : m.next ≤ b4) :
    ∀ (j k : Nat) (st : IS) (pre : List Int) (cs : List AVal) (sl : Slots) (mm : Mem), k + j = 4 → pre.length = k → IsL st 1000000 → InA mm cs st → mm.at b1 ⟨180, cs, 0⟩ → mm.at b4 ⟨49, pre.map (AVal.int .i64) ++ List.replicate j (.int .i64 0), 0⟩ → Fr S0 m mm (10 + 50 * k) →
      sget sl 4 = .ptr b1 2 0 → sget sl 5 = .ptr b4 4 0 → sget sl 11 = .int .i64 (k : Nat) →
    vwp ES loopN58 (fun ex s => ex = .exit 0 ∧ ∃ sl' mm' cs', s = ⟨58, 59, sl', mm'⟩ ∧ (∀ d ∈ [2, 3, 4, 5], sget sl' d = sget sl d) ∧ InA mm' cs' (dNums j st).2 ∧ mm'.at b1 ⟨180, cs', 0⟩ ∧ mm'.at b4 ⟨49, (pre ++ (dNums j st).1).map (AVal.int .i64), 0⟩ ∧ Fr S0 m mm' (10 + 50 * 4) ∧ ∀ b B, mm.at b B → b ≠ b1 → b ≠ b4 → mm'.at b B) ⟨58, 59, sl, mm⟩ := by
  intro j
  induction j with
  | zero =>
    intro k st pre cs sl mm hij hpl hil hA hb hc hF s1 s4 s9
    obtain rfl : k = 4 := by omega
    unfold loopN58 f58
    refine vwp_loop (vwp_seq ?_)
    refine vwp_region ?_
    iterate 1 (refine vops_cons (n := 0) (by simp (maxSteps := 1000000) [s9]; rfl) ?_)
    refine vops_nil ?_
    refine vwp_seq (vwp_cond (t := false) (by simp [St.ev, St.slot_mk, sget_put]) (vwp_exit ?_))
    refine ⟨rfl, _, mm, cs, rfl, ?_, hA, hb, by simpa [dNums] using hc, hF, fun _ _ h _ _ => h⟩
    intro d hd
    simp only [List.mem_cons, List.not_mem_nil, or_false] at hd
    rcases hd with rfl | rfl | rfl | rfl <;> simp
  | succ j ih =>
    intro k st pre cs sl mm hij hpl hil hA hb hc hF s1 s4 s9
    have hk : k < 4 := by omega
    have hk' : ((k : Nat) : Int) < 4 := by omega
    have hlt : arith .lss .i64 ((k : Nat) : Int) 4 = some (.bool true) := by rw [ar_lss, decide_eq_true hk']
    have hmx := hF.most
    obtain ⟨v, b, bs, rfl, hv, hvc, _, _⟩ := hA.view
    unfold loopN58 f58
    refine vwp_loop (vwp_seq ?_)
    refine vwp_region ?_
    iterate 1 (refine vops_cons (n := 0) (by simp (maxSteps := 1000000) [s9, hlt, -ar_lss]; rfl) ?_)
    refine vops_nil ?_
    refine vwp_seq (vwp_cond (t := true) (by simp [St.ev, St.slot_mk, sget_put]) (vwp_skip ?_))
    refine vwp_seq (vwp_block (vwp_seq ?_))
    refine vwp_region ?_
    iterate 2 (refine vops_cons (n := 0) (by simp (maxSteps := 1000000) [s9]; rfl) ?_)
    refine vops_nil ?_
    refine vwp_region ?_
    iterate 2 (refine vops_cons (n := 0) (by simp (maxSteps := 1000000) [s1, ty180, hb.2]; rfl) ?_)
    refine vops_callv (g := 77) (first := []) (cap := []) (avs := [.agg [v, .bool b], .int .i64 mostN]) rfl rfl rfl (by simp; rfl) ?_
    refine (refInNum_ok (m := mm) hA (by omega) hil (by decide) (by decide)).mono fun r m1 hr => ?_
    obtain ⟨cs1, rfl, hA1, hF1⟩ := hr
    have hil1 := isl_num (most := mostN) hil
    have hT : dNums (j + 1) st = ((dNum mostN st).1 :: (dNums j (dNum mostN st).2).1, (dNums j (dNum mostN st).2).2) := rfl
    generalize dNum mostN st = d at *
    obtain ⟨v1, b1', bs1, rfl, hv1, hvc1, _, _⟩ := hA1.view
    have hmx1 := hF1.most
    have hn1 : m1.next ≤ 1048576 := by omega
    have hb1x := hF1.keep _ _ hb rfl
    have hc1 := hF1.keep _ _ hc rfl
    have hFm := hF.trans hF1 (Nat.le_refl _)
    have hne : b4 ≠ b1 := by rintro rfl; have := hb.2.symm.trans hc.2; cases this
    refine ⟨_, by simp; rfl, ?_⟩
    iterate 3 (refine vops_cons (n := 0) (by simp (maxSteps := 1000000) []; rfl) ?_)
    have hlen : (pre.map (AVal.int .i64) ++ List.replicate (j + 1) (AVal.int .i64 0)).length = 4 := by simp; omega
    have hput : lput (pre.map (AVal.int .i64) ++ List.replicate (j + 1) (AVal.int .i64 0)) k [.int .i64 d.1] = (pre ++ [d.1]).map (AVal.int .i64) ++ List.replicate j (.int .i64 0) := lput_mid pre j k d.1 hpl
    obtain ⟨L', hL'⟩ : ∃ L', L' = (pre ++ [d.1]).map (AVal.int .i64) ++ List.replicate j (AVal.int .i64 0) := ⟨_, rfl⟩
    rw [← hL'] at hput
    generalize hL : pre.map (AVal.int .i64) ++ List.replicate (j + 1) (AVal.int .i64 0) = L at *
    have hk1 : k + 1 ≤ 4 := by omega
    iterate 1 (refine vops_cons (n := 0) (by simp (maxSteps := 1000000) [s4, s9, ea49 b4 k hk]; rfl) ?_)
    iterate 1 (refine vops_cons (n := 0) (by simp (maxSteps := 1000000) [ty2, hc1.2, hlen, hk1, hput, -lput]; rfl) ?_)
    show vops _ _ _ _ ⟨58, 59, _, m1.upd b4 ⟨49, L', 0⟩⟩
    have hF2 : Fr S0 m (m1.upd b4 ⟨49, L', 0⟩) (10 + 50 * k + 50) := hFm.updNew hc1 hn1 hb4 _
    have hc2 := at_upd_self hc1 hn1 ⟨49, L', 0⟩
    have hb2 := at_upd hc1 hn1 hb1x (fun e => hne e.symm) ⟨49, L', 0⟩
    have hup4 : ∀ b B, m1.at b B → b ≠ b4 → (m1.upd b4 ⟨49, L', 0⟩).at b B := fun b B hB e => at_upd hc1 hn1 hB e _
    have hA2 := hA1.fr (Fr.upd (S := fun t => Nat.beq t 49) hc1 hn1 rfl ⟨49, L', 0⟩) rfl
    have hn2 : (m1.upd b4 ⟨49, L', 0⟩).next ≤ 1048576 := hn1
    generalize m1.upd b4 ⟨49, L', 0⟩ = m2 at *
    iterate 1 (refine vops_cons (n := 0) (by simp (maxSteps := 1000000) [s1, ty180, hb2.2, hvc1]; rfl) ?_)
    refine vops_nil ?_
    refine vwp_region ?_
    iterate 2 (refine vops_cons (n := 0) (by simp (maxSteps := 1000000) [s9, wrap_up (show k < 1000000000 by omega)]; rfl) ?_)
    refine vops_nil ?_
    have hA3 := hA2.fr (Fr.upd (S := fun t => Nat.beq t 180) hb2 hn2 rfl ⟨180, [v1, .bool b1'], 0⟩) rfl
    have hF3 := hF2.updNew hb2 hn2 hb1 ⟨180, [v1, .bool b1'], 0⟩
    have g1 := at_upd_self hb2 hn2 ⟨180, [v1, .bool b1'], 0⟩
    have g2 := at_upd hb2 hn2 hc2 hne ⟨180, [v1, .bool b1'], 0⟩
    have g3 := hF3.le (show 10 + 50 * k + 50 ≤ 10 + 50 * (k + 1) by omega)
    have g4 : k + 1 + j = 4 := by omega
    have g5 : (pre ++ [d.1]).length = k + 1 := by simp [hpl]
    have g6 : ∀ b B, mm.at b B → b ≠ b1 → b ≠ b4 → (m2.upd b1 ⟨180, [v1, .bool b1'], 0⟩).at b B := fun b B hB e1 e4 => at_upd hb2 hn2 (hup4 b B (hF1.keep b B hB rfl) e4) e1 _
    generalize m2.upd b1 ⟨180, [v1, .bool b1'], 0⟩ = m3 at *
    rw [hL'] at g2
    clear hup4 hF2 hc2 hb2 hA2 hn2 hput hlen hc1 hb1x hFm hL hlt hF hb hc hA hA1 hv hv1
    refine (ih (k + 1) d.2 (pre ++ [d.1]) [v1, .bool b1'] _ m3 g4 g5 hil1 hA3 g1 g2 g3 ?_ ?_ ?_).mono ?_
    · simp [s1]
    · simp [s4]
    · simp
    rintro ex s ⟨rfl, sl', mm', cs', rfl, hK, h1, h2, h3, h4, h5⟩
    refine ⟨rfl, sl', mm', cs', rfl, ?_, by rw [hT]; exact h1, h2, by rw [hT]; simpa using h3, h4, fun b B hB e1 e4 => h5 b B (g6 b B hB e1 e4) e1 e4⟩
    intro d' hd
    rw [hK d' hd]
    simp only [List.mem_cons, List.not_mem_nil, or_false] at hd
    rcases hd with rfl | rfl | rfl | rfl <;> simp

end Go.Proofs.Tryz
