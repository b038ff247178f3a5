/-
  What the reference says a script may be: on the abstract machine.
-/
import Derived.Test.YtdmaodpmfbgcaaaGreatSRight
set_option maxRecDepth 100000
namespace Go.Proofs.Tryz
open Go Go.V Go.SC
attribute [local simp] runOp wanted isHeavy light St.ev St.slot_mk sget_put St.put_mk cl_int cl_bool cl_str cl_ptr cl_nil cl_ref cl_imm cl_agg cl_nilp NewV.at nblt nble nbeq ofConst ofConst1 fieldOf sh_ptr sh_iptr rc_ptr rc_iptr lget mkVal VD.isAgg lenOf bin ar_add ar_sub ar_mul ar_eql ar_neq ar_lss ar_leq ar_gtr ar_geq argSlots un heavy writeCells lput eqVals next_add next_upd fillA zeros natOf_cast
theorem fns131 : ES.fns.get 131 = some f131 := by kernel_rfl
theorem vntmps131 : f131.ntmps = 9 := by kernel_rfl
theorem vresults131 : f131.results.toList = [.tmp 2] := by kernel_rfl
theorem body131 : f131.body = some ((f131.body).getD .skip) := by kernel_rfl
theorem fns132 : ES.fns.get 132 = some f132 := by kernel_rfl
theorem vntmps132 : f132.ntmps = 71 := by kernel_rfl
theorem vresults132 : f132.results.toList = [.tmp 2] := by kernel_rfl
theorem body132 : f132.body = some ((f132.body).getD .skip) := by kernel_rfl
theorem fns52 : ES.fns.get 52 = some f52 := by kernel_rfl
theorem vntmps52 : f52.ntmps = 40 := by kernel_rfl
theorem vresults52 : f52.results.toList = [.tmp 2] := by kernel_rfl
theorem body52 : f52.body = some ((f52.body).getD .skip) := by kernel_rfl
theorem refSmall_ok {m : Mem} (n : Int) : vcall ES 131 [.int .i64 n] m fun r m' => r = .bool (smallB n) ∧ m' = m := by
  refine vcall_body (fn := f131) (c := ((f131.body).getD .skip)) rfl fns131 body131 (by rw [vntmps131]; show 1 ≤ 9; decide) (by rw [vntmps131]; decide) ?_
  rw [vntmps131]
  simp only [vresults131]
  unfold f131
  simp only [Option.getD_some]
  refine vwp_seq ?_
  refine vwp_region ?_
  iterate 1 (refine vops_cons (n := 0) (by simp (maxSteps := 1000000) []; rfl) ?_)
  refine vops_nil ?_
  have e : mostN = 2147483647 := rfl
  refine vwp_seq (vwp_region ?_)
  by_cases c1 : (-2147483647 : Int) ≤ n
  · by_cases c2 : n ≤ (2147483647 : Int)
    · have hs : smallB n = true := decide_eq_true (⟨by omega, by omega⟩ : small n)
      iterate 7 (refine vops_cons (n := 0) (by simp (maxSteps := 1000000) [c1, c2]; rfl) ?_)
      exact vops_nil (vwp_ret ⟨.inr rfl, _, by simp [resultVals]; rfl, by rw [hs]; rfl, rfl⟩)
    · have hs : smallB n = false := decide_eq_false (fun h => by have := h.2; omega)
      iterate 7 (refine vops_cons (n := 0) (by simp (maxSteps := 1000000) [c1, c2]; rfl) ?_)
      exact vops_nil (vwp_ret ⟨.inr rfl, _, by simp [resultVals]; rfl, by rw [hs]; rfl, rfl⟩)
  · have hs : smallB n = false := decide_eq_false (fun h => by have := h.1; omega)
    iterate 7 (refine vops_cons (n := 0) (by simp (maxSteps := 1000000) [c1]; rfl) ?_)
    exact vops_nil (vwp_ret ⟨.inr rfl, _, by simp [resultVals]; rfl, by rw [hs]; rfl, rfl⟩)

noncomputable def loop132 : Code := match f132.body with
  | some (.seq _ (.seq _ (.seq _ (.seq (.seq _ (.block _ l)) _)))) => l
  | _ => .skip

theorem refStep_loop (b3 : Nat) (mm : Mem) (x : LStep) (p : AVal) (hb : mm.at b3 ⟨65, [p, .int .i64 x.act, .str (mkS x.s), .int .i64 x.num], 0⟩) (hp : SlV mm 9 1 p (strE x.path)) (hl : x.path.length ≤ 100) :
    ∀ (j k : Nat) (sl : Slots), k + j = x.path.length → (∀ i t, i < k → x.path[i]? = some t → t.length ≤ 30) → sget sl 3 = .ptr b3 4 0 → sget sl 59 = .int .i64 (x.path.length : Nat) → sget sl 60 = .int .i64 (k : Nat) →
    vwp ES loop132 (fun ex st => (ex = .exit 0 ∧ (x.path.any fun t => decide (30 < t.length)) = false ∧ ∃ sl', st = ⟨132, 71, sl', mm⟩) ∨ (ex = .ret ∧ (x.path.any fun t => decide (30 < t.length)) = true ∧ ∃ sl', st = ⟨132, 71, sl', mm⟩ ∧ sget sl' 2 = .bool false)) ⟨132, 71, sl, mm⟩ := by
  intro j
  induction j with
  | zero =>
    intro k sl hij hok s3 s59 s60
    obtain rfl : k = x.path.length := by omega
    unfold loop132 f132
    refine vwp_loop (vwp_seq ?_)
    refine vwp_region ?_
    iterate 1 (refine vops_cons (n := 0) (by simp (maxSteps := 1000000) [s59, s60]; rfl) ?_)
    refine vops_nil ?_
    refine vwp_seq (vwp_cond (t := false) (by simp [St.ev, St.slot_mk, sget_put]) (vwp_exit ?_))
    refine .inl ⟨rfl, ?_, _, rfl⟩
    rw [List.any_eq_false]
    intro t ht
    obtain ⟨i, hi⟩ := List.getElem?_of_mem ht
    have := hok i t (List.getElem?_eq_some_iff.1 hi).1 hi
    simp; omega
  | succ j ih =>
    intro k sl hij hok s3 s59 s60
    have hk : k < x.path.length := by omega
    have hk' : (k : Int) < (x.path.length : Int) := by omega
    obtain ⟨t, ht⟩ : ∃ t, x.path[k]? = some t := ⟨x.path[k], List.getElem?_eq_getElem hk⟩
    obtain ⟨q, hA, hR⟩ := hp.elem (E := ES) ty63 rfl ty9 rfl (by decide) (i := k) (x := [.str (mkS t)]) (by simp [strE, ht])
    have hpc := hp.cl
    unfold loop132 f132
    refine vwp_loop (vwp_seq ?_)
    refine vwp_region ?_
    iterate 1 (refine vops_cons (n := 0) (by simp (maxSteps := 1000000) [s59, s60, hk']; rfl) ?_)
    refine vops_nil ?_
    refine vwp_seq (vwp_cond (t := true) (by simp [St.ev, St.slot_mk, sget_put]) (vwp_skip ?_))
    refine vwp_seq (vwp_block (vwp_seq ?_))
    refine vwp_region ?_
    iterate 2 (refine vops_cons (n := 0) (by simp (maxSteps := 1000000) [s60]; rfl) ?_)
    refine vops_nil ?_
    refine vwp_seq (vwp_region ?_)
    iterate 4 (refine vops_cons (n := 0) (by simp (maxSteps := 1000000) [s3, ty65, ty63, hb.2, hA]; rfl) ?_)
    refine vops_load (v := .str (mkS t)) rfl rfl ty9 (by simp; exact hR) rfl ⟨_, by simp; rfl, ?_⟩
    by_cases c : (30 : Int) < (t.length : Int)
    · have hgt : arith .gtr .i64 ((t.length : Nat) : Int) 30 = some (.bool true) := by rw [ar_gtr, decide_eq_true c]
      iterate 2 (refine vops_cons (n := 0) (by simp (maxSteps := 1000000) [ty9, mkS_size, hgt, -ar_gtr]; rfl) ?_)
      refine vops_nil (vwp_cond (t := true) (by simp [St.ev, St.slot_mk, sget_put]) ?_)
      refine vwp_seq ?_
      refine vwp_region ?_
      iterate 1 (refine vops_cons (n := 0) (by simp (maxSteps := 1000000) []; rfl) ?_)
      refine vops_nil ?_
      refine vwp_ret (.inr ⟨rfl, ?_, _, rfl, by simp⟩)
      rw [List.any_eq_true]
      exact ⟨t, List.mem_of_getElem? ht, decide_eq_true (by omega)⟩
    · have hgt : arith .gtr .i64 ((t.length : Nat) : Int) 30 = some (.bool false) := by rw [ar_gtr, decide_eq_false c]
      iterate 2 (refine vops_cons (n := 0) (by simp (maxSteps := 1000000) [ty9, mkS_size, hgt, -ar_gtr]; rfl) ?_)
      refine vops_nil (vwp_cond (t := false) (by simp [St.ev, St.slot_mk, sget_put]) (vwp_skip ?_))
      refine vwp_region ?_
      iterate 2 (refine vops_cons (n := 0) (by simp (maxSteps := 1000000) [s60, wrap_up (show k < 1000000000 by omega)]; rfl) ?_)
      refine vops_nil ?_
      refine ih (k + 1) _ (by omega) ?_ (by simp [s3]) (by simp [s59]) (by simp)
      intro i t' hi hi'
      rcases Nat.lt_succ_iff_lt_or_eq.1 hi with h | rfl
      · exact hok i t' h hi'
      · rw [ht] at hi'; cases hi'; omega

theorem refStep_ok {m : Mem} {cs : List AVal} {x : LStep} (h : StepR m cs x) (hn : m.next ≤ 900000) : vcall ES 132 [.agg cs] m fun r m' => r = .bool (stepOkB x) ∧ Fr S0 m m' 2 := by
  obtain ⟨p, rfl, hp⟩ := h
  have hpl : sliceLen p = some x.path.length := by rw [hp.len, strE_len]
  have hpc : AVal.cells? p = some [p] := hp.cl
  have hnx : m.next < 1048576 := by omega
  have ha1 : (m.add ⟨115, stepC x p, 0⟩).at m.next ⟨115, [.int .i64 x.kind, .int .i64 x.a, .int .i64 x.n, .int .i64 x.n2, .int .u8 (x.who.toNat : Nat), p, .int .i64 x.act, .str (mkS x.s), .int .i64 x.num], 0⟩ := at_add_self m _ hnx
  have hF1 := Fr.add (S := S0) m ⟨115, stepC x p, 0⟩ hnx
  have hn1 : (m.add ⟨115, stepC x p, 0⟩).next = m.next + 1 := rfl
  refine vcall_body (fn := f132) (c := ((f132.body).getD .skip)) rfl fns132 body132 (by rw [vntmps132]; show 1 ≤ 71; decide) (by rw [vntmps132]; decide) ?_
  rw [vntmps132]
  simp only [vresults132]
  unfold f132
  simp only [Option.getD_some]
  refine vwp_seq (vwp_region ?_)
  iterate 1 (refine vops_cons (n := 0) (by simp (maxSteps := 1000000) [hnx]; rfl) ?_)
  show vops _ _ _ _ ⟨132, 71, (Slots.put (argSlots 0 [.agg (stepC x p)] Slots.nil) 1 (.ptr m.next 9 0)), m.add ⟨115, stepC x p, 0⟩⟩
  generalize m.add ⟨115, stepC x p, 0⟩ = m1 at *
  iterate 1 (refine vops_cons (n := 0) (by simp (maxSteps := 1000000) []; rfl) ?_)
  refine vops_nil (vwp_seq (vwp_region ?_))
  have hnx1 : m1.next < 1048576 := by omega
  iterate 3 (refine vops_cons (n := 0) (by simp (maxSteps := 1000000) [ty115, ty65, ha1.2, hnx1]; rfl) ?_)
  have hz := at_add_self m1 ⟨65, [.nil true, .int .i64 0, .str ⟨#[]⟩, .int .i64 0], 0⟩ hnx1
  have hF2 := Fr.add (S := S0) m1 ⟨65, [.nil true, .int .i64 0, .str ⟨#[]⟩, .int .i64 0], 0⟩ hnx1
  have hn2 : (m1.add ⟨65, [.nil true, .int .i64 0, .str ⟨#[]⟩, .int .i64 0], 0⟩).next = m1.next + 1 := rfl
  generalize m1.add ⟨65, [.nil true, .int .i64 0, .str ⟨#[]⟩, .int .i64 0], 0⟩ = m2 at *
  have hnx2 : m2.next ≤ 1048576 := by omega
  iterate 1 (refine vops_cons (n := 0) (by simp (maxSteps := 1000000) [ty65, hz.2]; rfl) ?_)
  show vops _ _ _ _ ⟨132, 71, _, m2.upd m1.next ⟨65, [p, .int .i64 x.act, .str (mkS x.s), .int .i64 x.num], 0⟩⟩
  have hF3 : Fr S0 m1 (m2.upd m1.next ⟨65, [p, .int .i64 x.act, .str (mkS x.s), .int .i64 x.num], 0⟩) 1 := hF2.updNew hz hnx2 (Nat.le_refl _) _
  have hb := at_upd_self hz hnx2 ⟨65, [p, .int .i64 x.act, .str (mkS x.s), .int .i64 x.num], 0⟩
  generalize m2.upd m1.next ⟨65, [p, .int .i64 x.act, .str (mkS x.s), .int .i64 x.num], 0⟩ = m3 at *
  have ha := hF3.keep _ _ ha1 rfl
  have hF : Fr S0 m m3 2 := hF1.trans hF3 (Nat.le_refl _)
  have hp3 := hp.fr hF rfl
  refine vops_nil (vwp_seq (vwp_seq (vwp_region ?_)))

  iterate 2 (refine vops_cons (n := 0) (by simp (maxSteps := 1000000) [ty115, ty3, ha.2]; rfl) ?_)
  refine vops_callv (g := 131) (first := []) (cap := []) (avs := [.int .i64 x.kind]) (by simp) rfl rfl (by simp) ?_
  refine (refSmall_ok x.kind).mono fun r m' hr => ?_
  obtain ⟨rfl, rfl⟩ := hr
  cases c0 : smallB x.kind with
  | false =>
    have hbad : stepOkB x = false := by simp [stepOkB, c0]
    refine ⟨_, by simp; rfl, ?_⟩
    iterate 47 (refine vops_cons (n := 0) (by simp (maxSteps := 1000000) []; rfl) ?_)
    refine vops_nil (vwp_cond (t := true) (by simp [St.ev, St.slot_mk, sget_put]) ?_)
    refine vwp_seq ?_
    refine vwp_region ?_
    iterate 1 (refine vops_cons (n := 0) (by simp (maxSteps := 1000000) []; rfl) ?_)
    refine vops_nil ?_
    exact vwp_ret ⟨.inr rfl, _, by simp [resultVals]; rfl, by rw [hbad]; rfl, hF⟩
  | true =>
    refine ⟨_, by simp; rfl, ?_⟩
    iterate 4 (refine vops_cons (n := 0) (by simp (maxSteps := 1000000) [ty115, ty3, ha.2]; rfl) ?_)
    refine vops_callv (g := 131) (first := []) (cap := []) (avs := [.int .i64 x.a]) (by simp) rfl rfl (by simp) ?_
    refine (refSmall_ok x.a).mono fun r m' hr => ?_
    obtain ⟨rfl, rfl⟩ := hr
    cases c1 : smallB x.a with
    | false =>
      have hbad : stepOkB x = false := by simp [stepOkB, c1]
      refine ⟨_, by simp; rfl, ?_⟩
      iterate 42 (refine vops_cons (n := 0) (by simp (maxSteps := 1000000) []; rfl) ?_)
      refine vops_nil (vwp_cond (t := true) (by simp [St.ev, St.slot_mk, sget_put]) ?_)
      refine vwp_seq ?_
      refine vwp_region ?_
      iterate 1 (refine vops_cons (n := 0) (by simp (maxSteps := 1000000) []; rfl) ?_)
      refine vops_nil ?_
      exact vwp_ret ⟨.inr rfl, _, by simp [resultVals]; rfl, by rw [hbad]; rfl, hF⟩
    | true =>
      refine ⟨_, by simp; rfl, ?_⟩
      iterate 5 (refine vops_cons (n := 0) (by simp (maxSteps := 1000000) [ty115, ty3, ha.2]; rfl) ?_)
      refine vops_callv (g := 131) (first := []) (cap := []) (avs := [.int .i64 x.n]) (by simp) rfl rfl (by simp) ?_
      refine (refSmall_ok x.n).mono fun r m' hr => ?_
      obtain ⟨rfl, rfl⟩ := hr
      cases c2 : smallB x.n with
      | false =>
        have hbad : stepOkB x = false := by simp [stepOkB, c2]
        refine ⟨_, by simp; rfl, ?_⟩
        iterate 36 (refine vops_cons (n := 0) (by simp (maxSteps := 1000000) []; rfl) ?_)
        refine vops_nil (vwp_cond (t := true) (by simp [St.ev, St.slot_mk, sget_put]) ?_)
        refine vwp_seq ?_
        refine vwp_region ?_
        iterate 1 (refine vops_cons (n := 0) (by simp (maxSteps := 1000000) []; rfl) ?_)
        refine vops_nil ?_
        exact vwp_ret ⟨.inr rfl, _, by simp [resultVals]; rfl, by rw [hbad]; rfl, hF⟩
      | true =>
        refine ⟨_, by simp; rfl, ?_⟩
        iterate 5 (refine vops_cons (n := 0) (by simp (maxSteps := 1000000) [ty115, ty3, ha.2]; rfl) ?_)
        refine vops_callv (g := 131) (first := []) (cap := []) (avs := [.int .i64 x.n2]) (by simp) rfl rfl (by simp) ?_
        refine (refSmall_ok x.n2).mono fun r m' hr => ?_
        obtain ⟨rfl, rfl⟩ := hr
        cases c3 : smallB x.n2 with
        | false =>
          have hbad : stepOkB x = false := by simp [stepOkB, c3]
          refine ⟨_, by simp; rfl, ?_⟩
          iterate 30 (refine vops_cons (n := 0) (by simp (maxSteps := 1000000) []; rfl) ?_)
          refine vops_nil (vwp_cond (t := true) (by simp [St.ev, St.slot_mk, sget_put]) ?_)
          refine vwp_seq ?_
          refine vwp_region ?_
          iterate 1 (refine vops_cons (n := 0) (by simp (maxSteps := 1000000) []; rfl) ?_)
          refine vops_nil ?_
          exact vwp_ret ⟨.inr rfl, _, by simp [resultVals]; rfl, by rw [hbad]; rfl, hF⟩
        | true =>
          refine ⟨_, by simp; rfl, ?_⟩
          iterate 5 (refine vops_cons (n := 0) (by simp (maxSteps := 1000000) [ty65, ty3, hb.2]; rfl) ?_)
          refine vops_callv (g := 131) (first := []) (cap := []) (avs := [.int .i64 x.act]) (by simp) rfl rfl (by simp) ?_
          refine (refSmall_ok x.act).mono fun r m' hr => ?_
          obtain ⟨rfl, rfl⟩ := hr
          cases c4 : smallB x.act with
          | false =>
            have hbad : stepOkB x = false := by simp [stepOkB, c4]
            refine ⟨_, by simp; rfl, ?_⟩
            iterate 24 (refine vops_cons (n := 0) (by simp (maxSteps := 1000000) []; rfl) ?_)
            refine vops_nil (vwp_cond (t := true) (by simp [St.ev, St.slot_mk, sget_put]) ?_)
            refine vwp_seq ?_
            refine vwp_region ?_
            iterate 1 (refine vops_cons (n := 0) (by simp (maxSteps := 1000000) []; rfl) ?_)
            refine vops_nil ?_
            exact vwp_ret ⟨.inr rfl, _, by simp [resultVals]; rfl, by rw [hbad]; rfl, hF⟩
          | true =>
            refine ⟨_, by simp; rfl, ?_⟩
            have em : mostInc = 1099511627776 := rfl
            by_cases d0 : (3 : Int) < (x.path.length : Int)
            · have e0 : ¬ x.path.length ≤ 3 := by omega
              have hbad : stepOkB x = false := by simp [stepOkB, e0]
              iterate 24 (refine vops_cons (n := 0) (by simp (maxSteps := 1000000) [ty65, ty63, hb.2, hpl, d0]; rfl) ?_)
              refine vops_nil (vwp_cond (t := true) (by simp [St.ev, St.slot_mk, sget_put]) ?_)
              refine vwp_seq ?_
              refine vwp_region ?_
              iterate 1 (refine vops_cons (n := 0) (by simp (maxSteps := 1000000) []; rfl) ?_)
              refine vops_nil ?_
              exact vwp_ret ⟨.inr rfl, _, by simp [resultVals]; rfl, by rw [hbad]; rfl, hF⟩
            · skip
              by_cases d1 : (30 : Int) < (x.s.length : Int)
              · have e1 : ¬ x.s.length ≤ 30 := by omega
                have hbad : stepOkB x = false := by simp [stepOkB, e1]
                iterate 24 (refine vops_cons (n := 0) (by simp (maxSteps := 1000000) [ty65, ty63, ty9, hb.2, hpl, mkS_size, d0, d1]; rfl) ?_)
                refine vops_nil (vwp_cond (t := true) (by simp [St.ev, St.slot_mk, sget_put]) ?_)
                refine vwp_seq ?_
                refine vwp_region ?_
                iterate 1 (refine vops_cons (n := 0) (by simp (maxSteps := 1000000) []; rfl) ?_)
                refine vops_nil ?_
                exact vwp_ret ⟨.inr rfl, _, by simp [resultVals]; rfl, by rw [hbad]; rfl, hF⟩
              · skip
                by_cases d2 : (1099511627776 : Int) < x.num
                · have e2 : ¬ x.num ≤ mostInc := by omega
                  have hbad : stepOkB x = false := by simp [stepOkB, e2]
                  iterate 24 (refine vops_cons (n := 0) (by simp (maxSteps := 1000000) [ty65, ty63, ty9, ty2, hb.2, hpl, mkS_size, d0, d1, d2]; rfl) ?_)
                  refine vops_nil (vwp_cond (t := true) (by simp [St.ev, St.slot_mk, sget_put]) ?_)
                  refine vwp_seq ?_
                  refine vwp_region ?_
                  iterate 1 (refine vops_cons (n := 0) (by simp (maxSteps := 1000000) []; rfl) ?_)
                  refine vops_nil ?_
                  exact vwp_ret ⟨.inr rfl, _, by simp [resultVals]; rfl, by rw [hbad]; rfl, hF⟩
                · skip
                  by_cases d3 : x.num < (-1099511627776 : Int)
                  · have e3 : ¬ -mostInc ≤ x.num := by omega
                    have hbad : stepOkB x = false := by simp [stepOkB, e3]
                    iterate 24 (refine vops_cons (n := 0) (by simp (maxSteps := 1000000) [ty65, ty63, ty9, ty2, hb.2, hpl, mkS_size, d0, d1, d2, d3]; rfl) ?_)
                    refine vops_nil (vwp_cond (t := true) (by simp [St.ev, St.slot_mk, sget_put]) ?_)
                    refine vwp_seq ?_
                    refine vwp_region ?_
                    iterate 1 (refine vops_cons (n := 0) (by simp (maxSteps := 1000000) []; rfl) ?_)
                    refine vops_nil ?_
                    exact vwp_ret ⟨.inr rfl, _, by simp [resultVals]; rfl, by rw [hbad]; rfl, hF⟩
                  · skip
                    have hgood : stepOkB x = !(x.path.any fun t => decide (30 < t.length)) := by
                      have a1 : x.path.length ≤ 3 := by omega
                      have a2 : x.s.length ≤ 30 := by omega
                      have a3 : x.num ≤ mostInc := by omega
                      have a4 : -mostInc ≤ x.num := by omega
                      unfold stepOkB
                      simp only [List.all_cons, List.all_nil, c0, c1, c2, c3, c4, a1, a2, a3, a4, decide_true, Bool.true_and, Bool.and_true]
                    iterate 24 (refine vops_cons (n := 0) (by simp (maxSteps := 1000000) [ty65, ty63, ty9, ty2, hb.2, hpl, mkS_size, d0, d1, d2, d3]; rfl) ?_)
                    refine vops_nil (vwp_cond (t := false) (by simp [St.ev, St.slot_mk, sget_put]) (vwp_skip ?_))
                    refine vwp_seq (vwp_seq ?_)
                    refine vwp_region ?_
                    iterate 4 (refine vops_cons (n := 0) (by simp (maxSteps := 1000000) [ty65, ty63, hb.2, hpl]; rfl) ?_)
                    refine vops_nil ?_
                    refine vwp_block ?_
                    refine (refStep_loop m1.next _ x p hb hp3 (by omega) x.path.length 0 _ (by omega) (fun i t h => absurd h (Nat.not_lt_zero _)) (by simp) (by simp) (by simp)).mono ?_
                    rintro ex st (⟨rfl, ha', sl', rfl⟩ | ⟨rfl, ha', sl', rfl, s2⟩)
                    · refine vwp_seq ?_
                      refine vwp_region ?_
                      iterate 1 (refine vops_cons (n := 0) (by simp (maxSteps := 1000000) []; rfl) ?_)
                      refine vops_nil ?_
                      exact vwp_ret ⟨.inr rfl, _, by simp [resultVals]; rfl, by rw [hgood, ha']; rfl, hF⟩
                    · exact ⟨.inr rfl, _, by simp [resultVals, s2]; rfl, by rw [hgood, ha']; rfl, hF⟩


noncomputable def loop52 : Code := match f52.body with
  | some (.seq _ (.seq _ (.seq (.seq _ (.block _ l)) _))) => l
  | _ => .skip

theorem refRight_loop (b1 : Nat) (m : Mem) (x : LScript) (w : AVal) (hb : m.at b1 ⟨127, [.int .i64 x.c, .int .i64 x.s, .int .i64 x.cap, w], 0⟩) (hw : StepsR m 115 w x.steps) (hl : x.steps.length ≤ 200) (hm : m.next ≤ 800000) :
    ∀ (j k : Nat) (sl : Slots) (mm : Mem), k + j = x.steps.length → (∀ i y, i < k → x.steps[i]? = some y → stepOkB y = true) → Fr S0 m mm (2 * k) → sget sl 1 = .ptr b1 4 0 → sget sl 28 = .int .i64 (x.steps.length : Nat) → sget sl 29 = .int .i64 (k : Nat) →
    vwp ES loop52 (fun ex st => (ex = .exit 0 ∧ (x.steps.any fun y => !stepOkB y) = false ∧ ∃ sl' mm', st = ⟨52, 40, sl', mm'⟩ ∧ Fr S0 m mm' 400) ∨ (ex = .ret ∧ (x.steps.any fun y => !stepOkB y) = true ∧ ∃ sl' mm', st = ⟨52, 40, sl', mm'⟩ ∧ sget sl' 2 = .bool false ∧ Fr S0 m mm' 400)) ⟨52, 40, sl, mm⟩ := by
  intro j
  induction j with
  | zero =>
    intro k sl mm hij hok hF s1 s28 s29
    obtain rfl : k = x.steps.length := by omega
    unfold loop52 f52
    refine vwp_loop (vwp_seq ?_)
    refine vwp_region ?_
    iterate 1 (refine vops_cons (n := 0) (by simp (maxSteps := 1000000) [s28, s29]; rfl) ?_)
    refine vops_nil ?_
    refine vwp_seq (vwp_cond (t := false) (by simp [St.ev, St.slot_mk, sget_put]) (vwp_exit ?_))
    refine .inl ⟨rfl, ?_, _, mm, rfl, hF.le (by omega)⟩
    rw [List.any_eq_false]
    intro t ht
    obtain ⟨i, hi⟩ := List.getElem?_of_mem ht
    rw [hok i t (List.getElem?_eq_some_iff.1 hi).1 hi]; decide
  | succ j ih =>
    intro k sl mm hij hok hF s1 s28 s29
    have hk : k < x.steps.length := by omega
    have hk' : (k : Int) < (x.steps.length : Int) := by omega
    obtain ⟨y, hy⟩ : ∃ y, x.steps[k]? = some y := ⟨x.steps[k], List.getElem?_eq_getElem hk⟩
    have hmx := hF.most
    have hb' := hF.keep _ _ hb rfl
    obtain ⟨els, hs, hsl, hse⟩ := hw.fr hF rfl rfl
    obtain ⟨cs, hcs1, hX⟩ := hse k y hy
    have hwc := hs.cl
    obtain ⟨q, hA, hR⟩ := hs.elem (E := ES) ty125 rfl ty115 rfl (by decide) hcs1
    unfold loop52 f52
    refine vwp_loop (vwp_seq ?_)
    refine vwp_region ?_
    iterate 1 (refine vops_cons (n := 0) (by simp (maxSteps := 1000000) [s28, s29, hk']; rfl) ?_)
    refine vops_nil ?_
    refine vwp_seq (vwp_cond (t := true) (by simp [St.ev, St.slot_mk, sget_put]) (vwp_skip ?_))
    refine vwp_seq (vwp_block (vwp_seq ?_))
    refine vwp_region ?_
    iterate 2 (refine vops_cons (n := 0) (by simp (maxSteps := 1000000) [s29]; rfl) ?_)
    refine vops_nil ?_
    refine vwp_seq (vwp_region ?_)
    iterate 4 (refine vops_cons (n := 0) (by simp (maxSteps := 1000000) [s1, ty127, ty125, hb'.2, hA]; rfl) ?_)
    refine vops_load (cs := cs) (v := .agg cs) rfl rfl ty115 (by simp; exact hR) rfl ⟨_, by simp; rfl, ?_⟩
    refine vops_callv (g := 132) (first := []) (cap := []) (avs := [.agg cs]) rfl rfl rfl (by simp) ?_
    refine (refStep_ok (m := mm) hX (by omega)).mono fun r m' hr => ?_
    obtain ⟨rfl, hF1⟩ := hr
    have hFF := hF.trans hF1 (Nat.le_refl _)
    cases c : stepOkB y with
    | false =>
      refine ⟨_, by simp; rfl, ?_⟩
      iterate 1 (refine vops_cons (n := 0) (by simp (maxSteps := 1000000) []; rfl) ?_)
      refine vops_nil (vwp_cond (t := true) (by simp [St.ev, St.slot_mk, sget_put]) ?_)
      refine vwp_seq ?_
      refine vwp_region ?_
      iterate 1 (refine vops_cons (n := 0) (by simp (maxSteps := 1000000) []; rfl) ?_)
      refine vops_nil ?_
      refine vwp_ret (.inr ⟨rfl, ?_, _, m', rfl, by simp, hFF.le (by omega)⟩)
      rw [List.any_eq_true]
      exact ⟨y, List.mem_of_getElem? hy, by rw [c]; rfl⟩
    | true =>
      refine ⟨_, by simp; rfl, ?_⟩
      iterate 1 (refine vops_cons (n := 0) (by simp (maxSteps := 1000000) []; rfl) ?_)
      refine vops_nil (vwp_cond (t := false) (by simp [St.ev, St.slot_mk, sget_put]) (vwp_skip ?_))
      refine vwp_region ?_
      iterate 2 (refine vops_cons (n := 0) (by simp (maxSteps := 1000000) [s29, wrap_up (show k < 1000000000 by omega)]; rfl) ?_)
      refine vops_nil ?_
      refine ih (k + 1) _ m' (by omega) ?_ (hFF.le (by omega)) (by simp [s1]) (by simp [s28]) (by simp)
      intro i y' hi hi'
      rcases Nat.lt_succ_iff_lt_or_eq.1 hi with h | rfl
      · exact hok i y' h hi'
      · rw [hy] at hi'; cases hi'; exact c

theorem refRight_ok {m : Mem} {cs : List AVal} {x : LScript} (h : ScrR m 115 cs x) (hn : m.next ≤ 700000) : vcall ES 52 [.agg cs] m fun r m' => r = .bool (scriptOkB x) ∧ Fr S0 m m' 500 := by
  obtain ⟨w, rfl, hw⟩ := h
  have hwl := hw.len
  have hwc : AVal.cells? w = some [w] := by obtain ⟨els, h1, _⟩ := hw; exact h1.cl
  have hnx : m.next < 1048576 := by omega
  have ha := at_add_self m ⟨127, [.int .i64 x.c, .int .i64 x.s, .int .i64 x.cap, w], 0⟩ hnx
  have hF := Fr.add (S := S0) m ⟨127, [.int .i64 x.c, .int .i64 x.s, .int .i64 x.cap, w], 0⟩ hnx
  have hn1 : (m.add ⟨127, [.int .i64 x.c, .int .i64 x.s, .int .i64 x.cap, w], 0⟩).next = m.next + 1 := rfl
  have hw1 := hw.fr hF rfl rfl
  refine vcall_body (fn := f52) (c := ((f52.body).getD .skip)) rfl fns52 body52 (by rw [vntmps52]; show 1 ≤ 40; decide) (by rw [vntmps52]; decide) ?_
  rw [vntmps52]
  simp only [vresults52]
  unfold f52
  simp only [Option.getD_some]
  refine vwp_seq (vwp_region ?_)
  iterate 1 (refine vops_cons (n := 0) (by simp (maxSteps := 1000000) [hnx]; rfl) ?_)
  show vops _ _ _ _ ⟨52, 40, _, m.add ⟨127, [.int .i64 x.c, .int .i64 x.s, .int .i64 x.cap, w], 0⟩⟩
  generalize m.add ⟨127, [.int .i64 x.c, .int .i64 x.s, .int .i64 x.cap, w], 0⟩ = m1 at *
  iterate 1 (refine vops_cons (n := 0) (by simp (maxSteps := 1000000) []; rfl) ?_)
  refine vops_nil (vwp_seq (vwp_seq (vwp_region ?_)))

  iterate 2 (refine vops_cons (n := 0) (by simp (maxSteps := 1000000) [ty127, ty3, ha.2]; rfl) ?_)
  refine vops_callv (g := 131) (first := []) (cap := []) (avs := [.int .i64 x.c]) (by simp) rfl rfl (by simp) ?_
  refine (refSmall_ok x.c).mono fun r m' hr => ?_
  obtain ⟨rfl, rfl⟩ := hr
  cases c0 : smallB x.c with
  | false =>
    have hbad : scriptOkB x = false := by simp [scriptOkB, c0]
    refine ⟨_, by simp; rfl, ?_⟩
    iterate 19 (refine vops_cons (n := 0) (by simp (maxSteps := 1000000) []; rfl) ?_)
    refine vops_nil (vwp_cond (t := true) (by simp [St.ev, St.slot_mk, sget_put]) ?_)
    refine vwp_seq ?_
    refine vwp_region ?_
    iterate 1 (refine vops_cons (n := 0) (by simp (maxSteps := 1000000) []; rfl) ?_)
    refine vops_nil ?_
    exact vwp_ret ⟨.inr rfl, _, by simp [resultVals]; rfl, by rw [hbad]; rfl, hF.le (by decide)⟩
  | true =>
    refine ⟨_, by simp; rfl, ?_⟩
    iterate 4 (refine vops_cons (n := 0) (by simp (maxSteps := 1000000) [ty127, ty3, ha.2]; rfl) ?_)
    refine vops_callv (g := 131) (first := []) (cap := []) (avs := [.int .i64 x.s]) (by simp) rfl rfl (by simp) ?_
    refine (refSmall_ok x.s).mono fun r m' hr => ?_
    obtain ⟨rfl, rfl⟩ := hr
    cases c1 : smallB x.s with
    | false =>
      have hbad : scriptOkB x = false := by simp [scriptOkB, c1]
      refine ⟨_, by simp; rfl, ?_⟩
      iterate 14 (refine vops_cons (n := 0) (by simp (maxSteps := 1000000) []; rfl) ?_)
      refine vops_nil (vwp_cond (t := true) (by simp [St.ev, St.slot_mk, sget_put]) ?_)
      refine vwp_seq ?_
      refine vwp_region ?_
      iterate 1 (refine vops_cons (n := 0) (by simp (maxSteps := 1000000) []; rfl) ?_)
      refine vops_nil ?_
      exact vwp_ret ⟨.inr rfl, _, by simp [resultVals]; rfl, by rw [hbad]; rfl, hF.le (by decide)⟩
    | true =>
      refine ⟨_, by simp; rfl, ?_⟩
      iterate 5 (refine vops_cons (n := 0) (by simp (maxSteps := 1000000) [ty127, ty3, ha.2]; rfl) ?_)
      refine vops_callv (g := 131) (first := []) (cap := []) (avs := [.int .i64 x.cap]) (by simp) rfl rfl (by simp) ?_
      refine (refSmall_ok x.cap).mono fun r m' hr => ?_
      obtain ⟨rfl, rfl⟩ := hr
      cases c2 : smallB x.cap with
      | false =>
        have hbad : scriptOkB x = false := by simp [scriptOkB, c2]
        refine ⟨_, by simp; rfl, ?_⟩
        iterate 8 (refine vops_cons (n := 0) (by simp (maxSteps := 1000000) []; rfl) ?_)
        refine vops_nil (vwp_cond (t := true) (by simp [St.ev, St.slot_mk, sget_put]) ?_)
        refine vwp_seq ?_
        refine vwp_region ?_
        iterate 1 (refine vops_cons (n := 0) (by simp (maxSteps := 1000000) []; rfl) ?_)
        refine vops_nil ?_
        exact vwp_ret ⟨.inr rfl, _, by simp [resultVals]; rfl, by rw [hbad]; rfl, hF.le (by decide)⟩
      | true =>
        refine ⟨_, by simp; rfl, ?_⟩
        by_cases d : (200 : Int) < (x.steps.length : Int)
        · have e : ¬ x.steps.length ≤ 200 := by omega
          have hbad : scriptOkB x = false := by simp [scriptOkB, e]
          iterate 8 (refine vops_cons (n := 0) (by simp (maxSteps := 1000000) [ty127, ty125, ha.2, hwl, d]; rfl) ?_)
          refine vops_nil (vwp_cond (t := true) (by simp [St.ev, St.slot_mk, sget_put]) ?_)
          refine vwp_seq ?_
          refine vwp_region ?_
          iterate 1 (refine vops_cons (n := 0) (by simp (maxSteps := 1000000) []; rfl) ?_)
          refine vops_nil ?_
          exact vwp_ret ⟨.inr rfl, _, by simp [resultVals]; rfl, by rw [hbad]; rfl, hF.le (by decide)⟩
        · have e : x.steps.length ≤ 200 := by omega
          have hgood : scriptOkB x = !(x.steps.any fun y => !stepOkB y) := by
            unfold scriptOkB
            simp only [List.all_cons, List.all_nil, c0, c1, c2, e, decide_true, Bool.true_and, Bool.and_true]
          iterate 8 (refine vops_cons (n := 0) (by simp (maxSteps := 1000000) [ty127, ty125, ha.2, hwl, d]; rfl) ?_)
          refine vops_nil (vwp_cond (t := false) (by simp [St.ev, St.slot_mk, sget_put]) (vwp_skip ?_))
          refine vwp_seq (vwp_seq ?_)
          refine vwp_region ?_
          iterate 4 (refine vops_cons (n := 0) (by simp (maxSteps := 1000000) [ty127, ty125, ha.2, hwl]; rfl) ?_)
          refine vops_nil ?_
          refine vwp_block ?_
          refine (refRight_loop m.next _ x w ha hw1 e (by omega) x.steps.length 0 _ _ (by omega) (fun i t h => absurd h (Nat.not_lt_zero _)) (.refl _ _) (by simp) (by simp) (by simp)).mono ?_
          rintro ex st (⟨rfl, ha', sl', mm, rfl, hF2⟩ | ⟨rfl, ha', sl', mm, rfl, s2, hF2⟩)
          · refine vwp_seq ?_
            refine vwp_region ?_
            iterate 1 (refine vops_cons (n := 0) (by simp (maxSteps := 1000000) []; rfl) ?_)
            refine vops_nil ?_
            exact vwp_ret ⟨.inr rfl, _, by simp [resultVals]; rfl, by rw [hgood, ha']; rfl, hF.trans hF2 (by decide)⟩
          · exact ⟨.inr rfl, _, by simp [resultVals, s2]; rfl, by rw [hgood, ha']; rfl, hF.trans hF2 (by decide)⟩

end Go.Proofs.Tryz
