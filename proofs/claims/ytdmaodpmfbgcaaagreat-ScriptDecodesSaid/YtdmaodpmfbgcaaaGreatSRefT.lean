/-
  The reference's numbers and texts taken, on the abstract machine.
-/
import Derived.Test.YtdmaodpmfbgcaaaGreatSLaw7
set_option maxRecDepth 100000
namespace Go.Proofs.Tryz
open Go Go.V Go.SC
attribute [local simp] runOp wanted isHeavy light St.ev St.slot_mk sget_put St.put_mk cl_int cl_bool cl_str cl_ptr cl_nil cl_ref cl_imm cl_agg cl_nilp NewV.at nblt nble nbeq ofConst ofConst1 fieldOf sh_ptr sh_iptr rc_ptr rc_iptr lget mkVal VD.isAgg lenOf bin ar_add ar_sub ar_mul ar_eql ar_neq ar_lss ar_leq ar_gtr ar_geq argSlots un heavy writeCells lput eqVals next_add next_upd fillA zeros natOf_cast natOf_succ
theorem fns172 : ES.fns.get 172 = some f172 := by kernel_rfl
theorem vntmps172 : f172.ntmps = 53 := by kernel_rfl
theorem vresults172 : f172.results.toList = [.tmp 2, .tmp 3, .tmp 4] := by kernel_rfl
theorem body172 : f172.body = some ((f172.body).getD .skip) := by kernel_rfl
theorem fns77 : ES.fns.get 77 = some f77 := by kernel_rfl
theorem vntmps77 : f77.ntmps = 44 := by kernel_rfl
theorem vresults77 : f77.results.toList = [.tmp 4, .cell 5 180] := by kernel_rfl
theorem body77 : f77.body = some ((f77.body).getD .skip) := by kernel_rfl
theorem fns78 : ES.fns.get 78 = some f78 := by kernel_rfl
theorem vntmps78 : f78.ntmps = 12 := by kernel_rfl
theorem vresults78 : f78.results.toList = [.tmp 2] := by kernel_rfl
theorem body78 : f78.body = some ((f78.body).getD .skip) := by kernel_rfl
theorem fns250 : ES.fns.get 250 = some f250 := by kernel_rfl
theorem vntmps250 : f250.ntmps = 38 := by kernel_rfl
theorem vresults250 : f250.results.toList = [.tmp 4, .cell 5 180] := by kernel_rfl
theorem body250 : f250.body = some ((f250.body).getD .skip) := by kernel_rfl
theorem plan172 : ES.plans.get 704524 = some [.run 0, .run 1, .run 2, .run 3, .run 6, .run 7, .run 8, .run 9, .run 10, .run 4, .chk 10, .run 5, .run 11, .run 12, .run 13, .run 14] := by kernel_rfl
theorem plan77 : ES.plans.get 315396 = some [.run 0, .run 1, .run 2, .run 3, .run 4, .run 5, .run 6, .run 7] := by kernel_rfl
theorem plan250 : ES.plans.get 1024004 = some [.run 0, .run 1, .run 2, .run 3, .run 4, .run 5, .run 6, .run 7, .run 8, .run 9, .run 10, .run 11] := by kernel_rfl
noncomputable def loop172 : Code := match f172.body with
  | some (.seq _ (.seq _ (.seq (.seq _ (.block _ l)) _))) => l
  | _ => .skip
noncomputable def end172 : Code := match loop172 with
  | .loop (.seq _ (.seq _ (.seq (.block _ (.seq _ (.seq _ (.seq _ (.seq _ (.cond _ (.seq _ (.seq _ c)) _)))))) _))) => c
  | _ => .skip

theorem take_loop (m : Mem) (bs : List UInt8) (v : AVal) (hv : BV m v bs) (hN : m.next ≤ 800000) (hl : bs.length ≤ 1000000) :
    ∀ (j k u : Nat) (sl : Slots), k + j = bs.length → u < 18446744073709551616 → sget sl 0 = v → sget sl 5 = .int .u64 (u : Nat) → sget sl 9 = .int .i64 (bs.length : Nat) → sget sl 10 = .int .i64 (k : Nat) →
    vwp ES loop172 (fun ex st => ∃ sl' m', st = ⟨172, 53, sl', m'⟩ ∧ Fr S0 m m' 40 ∧ (match takeL k u (bs.drop k) with
      | none => ex = .exit 0 ∨ (ex = .ret ∧ sget sl' 2 = .int .i64 0 ∧ sget sl' 3 = .int .i64 0 ∧ sget sl' 4 = .bool false)
      | some (w, n) => ex = .ret ∧ sget sl' 2 = .int .i64 (unzig w) ∧ sget sl' 3 = .int .i64 (n : Nat) ∧ sget sl' 4 = .bool (enc7 w == bs.take n))) ⟨172, 53, sl, m⟩ := by
  intro j
  induction j with
  | zero =>
    intro k u sl hij hu s0 s5 s9 s10
    obtain rfl : k = bs.length := by omega
    unfold loop172 f172
    refine vwp_loop (vwp_seq ?_)
    refine vwp_region ?_
    iterate 1 (refine vops_cons (n := 0) (by simp (maxSteps := 1000000) [s9, s10]; rfl) ?_)
    refine vops_nil ?_
    refine vwp_seq (vwp_cond (t := false) (by simp [St.ev, St.slot_mk, sget_put]) (vwp_exit ?_))
    refine ⟨_, m, rfl, (Fr.refl _ _).le (by decide), ?_⟩
    rw [List.drop_length]
    exact .inl rfl
  | succ j ih =>
    intro k u sl hij hu s0 s5 s9 s10
    have hk : k < bs.length := by omega
    have hk' : (k : Int) < (bs.length : Int) := by omega
    obtain ⟨c, hc⟩ : ∃ c, bs[k]? = some c := ⟨bs[k], List.getElem?_eq_getElem hk⟩
    have hd : bs.drop k = c :: bs.drop (k + 1) := by
      rw [List.drop_eq_getElem_cons hk]; congr; exact (List.getElem?_eq_some_iff.1 hc).2
    have hclt := c.toNat_lt
    obtain ⟨q, hA, hR⟩ := hv.elem (E := ES) ty22 rfl ty5 rfl (by decide) (i := k) (x := u8 c) (by simp [E8, hc])
    rw [hd, takeL]
    unfold loop172 f172
    refine vwp_loop (vwp_seq ?_)
    refine vwp_region ?_
    iterate 1 (refine vops_cons (n := 0) (by simp (maxSteps := 1000000) [s9, s10, hk']; rfl) ?_)
    refine vops_nil ?_
    refine vwp_seq (vwp_cond (t := true) (by simp [St.ev, St.slot_mk, sget_put]) (vwp_skip ?_))
    refine vwp_seq (vwp_block (vwp_seq ?_))
    refine vwp_region ?_
    iterate 2 (refine vops_cons (n := 0) (by simp (maxSteps := 1000000) [s10]; rfl) ?_)
    refine vops_nil ?_
    refine vwp_seq (vwp_seq ?_)
    by_cases c1 : (9 : Int) < (k : Int)
    · rw [if_pos (by omega)]
      have hG : arith .gtr .i64 ((k : Nat) : Int) 9 = some (.bool true) := by rw [ar_gtr, decide_eq_true c1]
      refine vwp_region ?_
      iterate 2 (refine vops_cons (n := 0) (by simp (maxSteps := 1000000) [hG, -ar_gtr]; rfl) ?_)
      refine vops_nil ?_
      refine vwp_cond (t := true) (by simp [St.ev, St.slot_mk, sget_put]) ?_
      refine vwp_seq ?_
      refine vwp_region ?_
      iterate 3 (refine vops_cons (n := 0) (by simp (maxSteps := 1000000) []; rfl) ?_)
      refine vops_nil ?_
      exact vwp_ret ⟨_, m, rfl, (Fr.refl _ _).le (by decide), .inr ⟨rfl, by simp, by simp, by simp⟩⟩
    · rw [if_neg (by omega)]
      have hG : arith .gtr .i64 ((k : Nat) : Int) 9 = some (.bool false) := by rw [ar_gtr, decide_eq_false c1]
      refine vwp_region ?_
      iterate 2 (refine vops_cons (n := 0) (by simp (maxSteps := 1000000) [hG, -ar_gtr]; rfl) ?_)
      refine vops_nil ?_
      refine vwp_cond (t := false) (by simp [St.ev, St.slot_mk, sget_put]) (vwp_skip ?_)
      have hrem : arith .rem .u8 ((c.toNat : Nat) : Int) 128 = some (.int .u8 ((c.toNat % 128 : Nat) : Int)) := rem_nat .u8 c.toNat 128 (by decide)
      have e1 : IntKind.i64.wrap (7 * (k : Int)) = 7 * (k : Int) := i64w (by omega) (by omega)
      have hd128 : c.toNat % 128 < 128 := by omega
      have hd128' : (∀ h : c.toNat < 128, c.toNat % 128 = c.toNat) := fun h => by omega
      generalize hdd : c.toNat % 128 = d at *
      have e2 : IntKind.u64.wrap ((d : Nat) : Int) = ((d : Nat) : Int) := by rw [u64w, Nat.mod_eq_of_lt (by omega)]
      have e3 : bin ES .shl 371 (.int .u64 ((d : Nat) : Int)) (.int .i64 (7 * (k : Int))) = some (.int .u64 ((d * 2 ^ (7 * k) % 18446744073709551616 : Nat) : Int)) := by
        have h0 : ¬ (7 * (k : Int)) < 0 := by omega
        have h1 : min ((7 * (k : Int)).toNat) IntKind.u64.bits = 7 * k := by
          have : IntKind.u64.bits = 64 := rfl
          omega
        simp only [bin, h0, if_false, h1]
        rw [show ((d : Nat) : Int) * 2 ^ (7 * k) = ((d * 2 ^ (7 * k) : Nat) : Int) by simp, u64w]
      have e4 : arith .add .u64 ((u : Nat) : Int) ((d * 2 ^ (7 * k) % 18446744073709551616 : Nat) : Int) = some (.int .u64 (((u + d * 2 ^ (7 * k)) % 18446744073709551616 : Nat) : Int)) := by
        rw [ar_add, show ((u : Nat) : Int) + ((d * 2 ^ (7 * k) % 18446744073709551616 : Nat) : Int) = ((u + d * 2 ^ (7 * k) % 18446744073709551616 : Nat) : Int) by omega, u64w, Nat.add_mod_mod]
      have hS64 : (u + d * 2 ^ (7 * k)) % 18446744073709551616 < 18446744073709551616 := Nat.mod_lt _ (by decide)
      generalize (u + d * 2 ^ (7 * k)) % 18446744073709551616 = S at *
      generalize d * 2 ^ (7 * k) % 18446744073709551616 = D at *
      refine vwp_seq (vwp_region ?_)
      iterate 4 (refine vops_cons (n := 0) (by simp (maxSteps := 1000000) [s0, s5, hA]; rfl) ?_)
      refine vops_load (v := .int .u8 (c.toNat : Nat)) rfl rfl ty5 (by simp; exact hR) rfl ⟨_, by simp; rfl, ?_⟩
      iterate 4 (refine vops_cons (n := 0) (by simp (maxSteps := 1000000) [ty5, ty371, hrem, e1, e2]; rfl) ?_)
      refine vops_cons (n := 0) (by simp only [runOp, wanted, isHeavy, cond_false, light, St.ev, St.slot_mk, sget_put, Nat.reduceLT, Nat.reduceEqDiff, if_true, if_false, e3, Option.map_some]; exact St.put_mk _ _ _ _ _ _ (by decide)) ?_
      iterate 2 (refine vops_cons (n := 0) (by simp (maxSteps := 1000000) [e4, -ar_add]; rfl) ?_)
      refine vops_nil ?_
      refine vwp_seq (vwp_region ?_)
      iterate 3 (refine vops_cons (n := 0) (by simp (maxSteps := 1000000) [s0, hA]; rfl) ?_)
      refine vops_load (v := .int .u8 (c.toNat : Nat)) rfl rfl ty5 (by simp; exact hR) rfl ⟨_, by simp; rfl, ?_⟩
      by_cases c5 : c.toNat < 128
      · rw [if_pos c5]
        have hL : arith .lss .u8 ((c.toNat : Nat) : Int) 128 = some (.bool true) := by rw [ar_lss, decide_eq_true (by omega)]
        iterate 1 (refine vops_cons (n := 0) (by simp (maxSteps := 1000000) [hL, -ar_lss]; rfl) ?_)
        refine vops_nil (vwp_cond (t := true) (by simp [St.ev, St.slot_mk, sget_put]) ?_)
        have hq2 : arith .quo .u64 ((S : Nat) : Int) 2 = some (.int .u64 ((S / 2 : Nat) : Int)) := quo_u64 S 2 (by decide) hS64
        have hr2 : arith .rem .u64 ((S : Nat) : Int) 2 = some (.int .u64 ((S % 2 : Nat) : Int)) := rem_nat .u64 S 2 (by decide)
        have e5 : IntKind.i64.wrap ((S / 2 : Nat) : Int) = ((S / 2 : Nat) : Int) := i64n (by omega)
        have huz : unzig S = if S % 2 = 0 then ((S / 2 : Nat) : Int) else -((S / 2 : Nat) : Int) - 1 := rfl
        have hzig := zig_unzig S
        have hrange : -9223372036854775808 ≤ unzig S ∧ unzig S ≤ 9223372036854775807 := by rw [huz]; split <;> omega
        have hnB : numB (unzig S) = enc7 S := by unfold numB; rw [hzig]
        have hm2 : S % 2 = 0 ∨ S % 2 = 1 := Nat.mod_two_eq_zero_or_one S
        have hQ63 : S / 2 < 9223372036854775808 := by omega
        generalize hQ : S / 2 = Q at *
        refine vwp_seq ?_
        refine vwp_region ?_
        iterate 4 (refine vops_cons (n := 0) (by simp (maxSteps := 1000000) [hq2, ty371, ty2, e5]; rfl) ?_)
        refine vops_nil ?_
        have fin : ∀ (sl2 : Slots), sget sl2 7 = .int .i64 (unzig S) → sget sl2 0 = v → sget sl2 6 = .int .i64 (k : Nat) → vwp ES end172 (fun ex st => ∃ sl' m', st = ⟨172, 53, sl', m'⟩ ∧ Fr S0 m m' 40 ∧ (ex = .ret ∧ sget sl' 2 = .int .i64 (unzig S) ∧ sget sl' 3 = .int .i64 ((k + 1 : Nat) : Int) ∧ sget sl' 4 = .bool (enc7 S == bs.take (k + 1)))) ⟨172, 53, sl2, m⟩ := by
          intro sl2 t7 t0 t6
          obtain ⟨v1, hc1, hv1⟩ := hv.take (E := ES) ty22 rfl ty5 rfl (n := k + 1) (by rw [E8_len]; omega)
          rw [E8_take] at hv1
          unfold end172 loop172 f172
          refine vwp_seq (vwp_draw plan172 rfl ?_)
          iterate 8 (refine vpl_run (n := 0) rfl (by simp (maxSteps := 1000000) [t7, t0, t6, wrap_up (show k < 1000000000 by omega), ty22, optNat, hc1]; rfl) ?_)
          refine vpl_val (v := .str (mkS (bs.take (k + 1)))) rfl rfl rfl (conv_str hv1 (by simp)) ⟨_, by simp; rfl, ?_⟩
          refine vpl_call (g := 144) (first := []) (cap := []) (avs := [.int .i64 (unzig S)]) rfl rfl rfl rfl (by simp) ?_
          refine (refNum_ok (m := m) hrange.1 hrange.2 (by omega)).mono fun r m1 h => ?_
          obtain ⟨hG1, _, hF1⟩ := h
          rw [hnB] at hG1
          refine ⟨_, by simp; rfl, ?_⟩
          refine vpl_chk (d := 50) (v := .str (mkS (bs.take (k + 1)))) rfl rfl (conv_str (hv1.fr hF1 rfl) (by simp)) rfl (by simp [AVal.same]) ?_
          refine vpl_val (v := .str (mkS (enc7 S))) rfl rfl rfl (conv_str hG1.bv (by simp)) ⟨_, by simp; rfl, ?_⟩
          generalize bs.take (k + 1) = tk at *
          generalize enc7 S = en at *
          iterate 4 (refine vpl_run (n := 0) rfl (by simp (maxSteps := 1000000) [strOp_eql, mkS_toList]; rfl) ?_)
          exact vpl_nil (vwp_ret ⟨_, m1, rfl, hF1.le (by decide), rfl, by simp, by simp, by simp⟩)
        rcases hm2 with h0 | h1
        · rw [h0] at hr2
          rw [if_pos h0] at huz
          refine vwp_seq (vwp_seq ?_)
          refine vwp_region ?_
          iterate 3 (refine vops_cons (n := 0) (by simp (maxSteps := 1000000) [hr2]; rfl) ?_)
          refine vops_nil ?_
          refine vwp_cond (t := false) (by simp [St.ev, St.slot_mk, sget_put]) (vwp_skip ?_)
          refine (fin _ ?_ ?_ ?_).mono ?_
          · rw [huz]; simp
          · simp [s0]
          · simp
          · rintro ex st ⟨sl', m', rfl, h1, rfl, h3, h4, h5⟩
            exact ⟨sl', m', rfl, h1, rfl, h3, h4, h5⟩
        · rw [h1] at hr2
          rw [if_neg (by omega)] at huz
          have e6 : IntKind.i64.wrap (-((Q : Nat) : Int)) = -((Q : Nat) : Int) := i64w (by omega) (by omega)
          have e7 : IntKind.i64.wrap (-((Q : Nat) : Int) - 1) = -((Q : Nat) : Int) - 1 := i64w (by omega) (by omega)
          refine vwp_seq (vwp_seq ?_)
          refine vwp_region ?_
          iterate 3 (refine vops_cons (n := 0) (by simp (maxSteps := 1000000) [hr2]; rfl) ?_)
          refine vops_nil ?_
          refine vwp_cond (t := true) (by simp [St.ev, St.slot_mk, sget_put]) ?_
          refine vwp_region ?_
          iterate 4 (refine vops_cons (n := 0) (by simp (maxSteps := 1000000) [e6, e7]; rfl) ?_)
          refine vops_nil ?_
          refine (fin _ ?_ ?_ ?_).mono ?_
          · rw [huz]; simp
          · simp [s0]
          · simp
          · rintro ex st ⟨sl', m', rfl, h1, rfl, h3, h4, h5⟩
            exact ⟨sl', m', rfl, h1, rfl, h3, h4, h5⟩
      · rw [if_neg c5]
        have hL : arith .lss .u8 ((c.toNat : Nat) : Int) 128 = some (.bool false) := by rw [ar_lss, decide_eq_false (by omega)]
        iterate 1 (refine vops_cons (n := 0) (by simp (maxSteps := 1000000) [hL, -ar_lss]; rfl) ?_)
        refine vops_nil (vwp_cond (t := false) (by simp [St.ev, St.slot_mk, sget_put]) (vwp_skip ?_))
        refine vwp_region ?_
        iterate 2 (refine vops_cons (n := 0) (by simp (maxSteps := 1000000) [s10, wrap_up (show k < 1000000000 by omega)]; rfl) ?_)
        refine vops_nil ?_
        exact ih (k + 1) S _ (by omega) hS64 (by simp [s0]) (by simp) (by simp [s9]) (by simp)

/-- The number that bytes begin with. -/
theorem take_ok {m : Mem} {v : AVal} {bs : List UInt8} (hv : BV m v bs) (hN : m.next ≤ 800000) (hl : bs.length ≤ 1000000) :
    vcall ES 172 [v] m fun r m' => Fr S0 m m' 40 ∧ ∃ (n : Int) (k : Nat) (ok : Bool), r = .tup [.int .i64 n, .int .i64 (k : Nat), .bool ok] ∧ (match raw bs with
      | none => ok = false
      | some (u, rest) => ok = true ∧ n = unzig u ∧ k ≤ bs.length ∧ bs.drop k = rest) := by
  have hlen : sliceLen v = some bs.length := by rw [hv.len, E8_len]
  refine vcall_body (fn := f172) (c := ((f172.body).getD .skip)) rfl fns172 body172 (by rw [vntmps172]; show 1 ≤ 53; decide) (by rw [vntmps172]; decide) ?_
  rw [vntmps172]
  simp only [vresults172]
  unfold f172
  simp only [Option.getD_some]
  refine vwp_seq ?_
  refine vwp_region ?_
  iterate 3 (refine vops_cons (n := 0) (by simp (maxSteps := 1000000) []; rfl) ?_)
  refine vops_nil ?_
  refine vwp_seq ?_
  refine vwp_region ?_
  iterate 1 (refine vops_cons (n := 0) (by simp (maxSteps := 1000000) []; rfl) ?_)
  refine vops_nil ?_
  refine vwp_seq (vwp_seq ?_)
  refine vwp_region ?_
  iterate 3 (refine vops_cons (n := 0) (by simp (maxSteps := 1000000) [ty22, hlen]; rfl) ?_)
  refine vops_nil ?_
  refine vwp_block ?_
  refine (take_loop m bs v hv hN hl bs.length 0 0 _ (by omega) (by decide) (by simp) (by simp) (by simp) (by simp)).mono ?_
  rintro ex st ⟨sl', m', rfl, hF, h⟩
  rw [List.drop_zero] at h
  have hT := takeL_raw bs
  generalize takeL 0 0 bs = t at *
  cases t with
  | none =>
    simp only at h hT
    rcases h with rfl | ⟨rfl, s2, s3, s4⟩
    · refine vwp_seq ?_
      refine vwp_region ?_
      iterate 3 (refine vops_cons (n := 0) (by simp (maxSteps := 1000000) []; rfl) ?_)
      refine vops_nil ?_
      exact vwp_ret ⟨.inr rfl, _, by simp [resultVals]; rfl, hF, 0, 0, false, rfl, by rw [hT]⟩
    · exact ⟨.inr rfl, _, by simp [resultVals, s2, s3, s4]; rfl, hF, 0, 0, false, rfl, by rw [hT]⟩
  | some p =>
    obtain ⟨w, n⟩ := p
    simp only at h hT
    obtain ⟨rfl, s2, s3, s4⟩ := h
    obtain ⟨hn, hw, hr⟩ := hT
    refine ⟨.inr rfl, _, by simp [resultVals, s2, s3, s4]; rfl, hF, unzig w, n, _, rfl, ?_⟩
    rw [hr]
    by_cases he : enc7 w = bs.take n
    · rw [if_pos he]
      exact ⟨by rw [he]; simp, rfl, hn, rfl⟩
    · rw [if_neg he]
      simpa using he

/-! ### What is left of some bytes -/
def InA (m : Mem) (cs : List AVal) : IS → Prop
  | none => cs = [.nil true, .bool true]
  | some bs => ∃ v, cs = [v, .bool false] ∧ BV m v bs
theorem InA.fr {S : TypeId → Bool} {m m' : Mem} {k : Nat} {cs : List AVal} {st : IS} (hF : Fr S m m' k) (h2 : S 5 = false) (h : InA m cs st) : InA m' cs st := by
  cases st with
  | none => exact h
  | some bs => obtain ⟨v, h3, h4⟩ := h; exact ⟨v, h3, h4.fr hF h2⟩
theorem InA.view {m : Mem} {cs : List AVal} {st : IS} (h : InA m cs st) : ∃ v b bs, cs = [v, .bool b] ∧ BV m v bs ∧ AVal.cells? v = some [v] ∧ (st = none → b = true ∧ bs = []) ∧ (∀ x, st = some x → b = false ∧ bs = x) := by
  cases st with
  | none => exact ⟨.nil true, true, [], h, .nil true, rfl, fun _ => ⟨rfl, rfl⟩, fun x h => by cases h⟩
  | some bs => obtain ⟨v, rfl, hv⟩ := h; exact ⟨v, false, bs, rfl, hv, hv.cl, fun h => (by cases h), fun x h => (by cases h; exact ⟨rfl, rfl⟩)⟩
noncomputable def fail77 : Code := match f77.body with
  | some (.seq _ (.seq _ (.seq (.seq _ (.cond _ c _)) _))) => c
  | _ => .skip
noncomputable def good77 : Code := match f77.body with
  | some (.seq _ (.seq _ (.seq _ c))) => c
  | _ => .skip

theorem refInNum_ok {m : Mem} {cs : List AVal} {st : IS} {most : Int} (h : InA m cs st) (hN : m.next ≤ 700000) (hl : IsL st 1000000) (hm0 : 0 ≤ most) (hm1 : most ≤ 4611686018427387904) :
    vcall ES 77 [.agg cs, .int .i64 most] m fun r m' => ∃ cs', r = .tup [.int .i64 (dNum most st).1, .agg cs'] ∧ InA m' cs' (dNum most st).2 ∧ Fr S0 m m' 50 := by
  obtain ⟨v, b, bs, rfl, hv, hvc, hnone, hsome⟩ := h.view
  have hbl : bs.length ≤ 1000000 := by
    cases st with
    | none => rw [(hnone rfl).2]; decide
    | some x => rw [(hsome x rfl).2]; exact hl x rfl
  have hnx : m.next < 1048576 := by omega
  have ha := at_add_self m ⟨180, [v, .bool b], 0⟩ hnx
  have hF1 := Fr.add (S := S0) m ⟨180, [v, .bool b], 0⟩ hnx
  have hn1 : (m.add ⟨180, [v, .bool b], 0⟩).next = m.next + 1 := rfl
  refine vcall_body (fn := f77) (c := ((f77.body).getD .skip)) rfl fns77 body77 (by rw [vntmps77]; show 2 ≤ 44; decide) (by rw [vntmps77]; decide) ?_
  rw [vntmps77]
  simp only [vresults77]
  unfold f77
  simp only [Option.getD_some]
  refine vwp_seq (vwp_region ?_)
  iterate 2 (refine vops_cons (n := 0) (by simp (maxSteps := 1000000) [hnx]; rfl) ?_)
  show vops _ _ _ _ ⟨77, 44, _, m.add ⟨180, [v, .bool b], 0⟩⟩
  generalize m.add ⟨180, [v, .bool b], 0⟩ = m1 at *
  have hnx1 : m1.next < 1048576 := by omega
  iterate 1 (refine vops_cons (n := 0) (by simp (maxSteps := 1000000) [ty180, hnx1]; rfl) ?_)
  have hz := at_add_self m1 ⟨180, [.nil true, .bool false], 0⟩ hnx1
  have hF2 := Fr.add (S := S0) m1 ⟨180, [.nil true, .bool false], 0⟩ hnx1
  have hn2 : (m1.add ⟨180, [.nil true, .bool false], 0⟩).next = m1.next + 1 := rfl
  have ha2 := hF2.keep _ _ ha rfl
  have hF02 := hF1.trans hF2 (Nat.le_refl _)
  generalize m1.add ⟨180, [.nil true, .bool false], 0⟩ = m2 at *
  refine vops_nil (vwp_seq (vwp_region ?_))
  iterate 2 (refine vops_cons (n := 0) (by simp (maxSteps := 1000000) [ty180, ty22, ha2.2, hvc]; rfl) ?_)
  refine vops_callv (g := 172) (first := []) (cap := []) (avs := [v]) rfl rfl rfl (by simp) ?_
  refine (take_ok (m := m2) (hv.fr hF02 rfl) (by omega) hbl).mono fun r m3 hr => ?_
  obtain ⟨hF3, n, k, ok, rfl, hT⟩ := hr
  have hmx3 := hF3.most
  have hz3 := hF3.keep _ _ hz rfl
  have ha3 := hF3.keep _ _ ha2 rfl
  have hF03 := hF02.trans hF3 (Nat.le_refl _)
  refine ⟨_, by simp; rfl, ?_⟩
  iterate 7 (refine vops_cons (n := 0) (by simp (maxSteps := 1000000) []; rfl) ?_)
  refine vops_nil (vwp_seq (vwp_seq ?_))
  have hn3 : m3.next ≤ 1048576 := by omega
  have hneg : IntKind.i64.wrap (-most) = -most := i64w (by omega) (by omega)
  have hm0' : ¬ most < 0 := by omega
  have failing : ∀ (sl : Slots) (Q' : Ex → St → Prop), sget sl 5 = .ptr m1.next 2 0 → (∀ sl2, sget sl2 4 = .int .i64 0 → sget sl2 5 = .ptr m1.next 2 0 → Q' .ret ⟨77, 44, sl2, m3.upd m1.next ⟨180, [.nil true, .bool true], 0⟩⟩) → vwp ES fail77 Q' ⟨77, 44, sl, m3⟩ := by
    intro sl Q' s5 hQ
    unfold fail77 f77
    refine vwp_seq ?_
    refine vwp_region ?_
    iterate 3 (refine vops_cons (n := 0) (by simp (maxSteps := 1000000) [s5, ty180, ty22, ty4, buildVal, structPlace, hz3.2]; rfl) ?_)
    refine vops_nil ?_
    exact vwp_ret (hQ _ (by simp) (by simp [s5]))
  have hup := at_upd_self hz3 hn3 ⟨180, [.nil true, .bool true], 0⟩
  have hFu := (hF03.updNew hz3 hn3 (by omega) ⟨180, [.nil true, .bool true], 0⟩).le (show _ ≤ 50 by omega)
  have bad : dNum most st = (0, none) → ∀ (sl : Slots), sget sl 5 = .ptr m1.next 2 0 → ∀ K : St → Prop, vwp ES fail77 (Ex.thenV (fun ex st' => (ex = .normal ∨ ex = .ret) ∧ ∃ vs, resultVals ES st' [.tmp 4, .cell 5 180] = some vs ∧ (∃ cs', oneOr vs = .tup [.int .i64 (dNum most st).1, .agg cs'] ∧ InA st'.mem cs' (dNum most st).2 ∧ Fr S0 m st'.mem 50)) K) ⟨77, 44, sl, m3⟩ := by
    intro hd sl s5 K
    refine failing sl _ s5 fun sl2 k4 k5 => ⟨.inr rfl, _, by simp [resultVals, k4, k5, ty180, hup.2]; rfl, _, by rw [hd]; rfl, by rw [hd]; rfl, hFu⟩
  cases st with
  | none =>
    obtain ⟨rfl, rfl⟩ := hnone rfl
    refine vwp_region ?_
    iterate 21 (refine vops_cons (n := 0) (by simp (maxSteps := 1000000) [ty180, ty4, ha3.2]; rfl) ?_)
    refine vops_nil ?_
    refine vwp_cond (t := true) (by simp [St.ev, St.slot_mk, sget_put]) ?_
    exact bad rfl _ (by simp) _
  | some x =>
    obtain ⟨rfl, rfl⟩ := hsome x rfl
    cases hr : raw bs with
    | none =>
      rw [hr] at hT
      simp only at hT
      subst hT
      refine vwp_region ?_
      iterate 21 (refine vops_cons (n := 0) (by simp (maxSteps := 1000000) [ty180, ty4, ha3.2]; rfl) ?_)
      refine vops_nil ?_
      refine vwp_cond (t := true) (by simp [St.ev, St.slot_mk, sget_put]) ?_
      refine bad (dNum_none hr) _ ?_ _
      simp
    | some p =>
      obtain ⟨u, rest⟩ := p
      rw [hr] at hT
      simp only at hT
      obtain ⟨rfl, hn, hk, hrest⟩ := hT
      subst hn
      by_cases c1 : most < unzig u
      · skip
        refine vwp_region ?_
        iterate 21 (refine vops_cons (n := 0) (by simp (maxSteps := 1000000) [ty180, ty4, ha3.2, hm0', c1]; rfl) ?_)
        refine vops_nil ?_
        refine vwp_cond (t := true) (by simp [St.ev, St.slot_mk, sget_put]) ?_
        refine bad (dNum_out hr (.inr (.inl c1))) _ ?_ _
        simp
      · by_cases c2 : unzig u < -most
        · skip
          refine vwp_region ?_
          iterate 21 (refine vops_cons (n := 0) (by simp (maxSteps := 1000000) [ty180, ty4, ha3.2, hm0', c1, c2, hneg]; rfl) ?_)
          refine vops_nil ?_
          refine vwp_cond (t := true) (by simp [St.ev, St.slot_mk, sget_put]) ?_
          refine bad (dNum_out hr (.inr (.inr c2))) _ ?_ _
          simp
        · have hd := dNum_in hr (most := most) (by omega)
          refine vwp_region ?_
          iterate 21 (refine vops_cons (n := 0) (by simp (maxSteps := 1000000) [ty180, ty4, ha3.2, hm0', c1, c2, hneg]; rfl) ?_)
          refine vops_nil ?_
          refine vwp_cond (t := false) (by simp [St.ev, St.slot_mk, sget_put]) (vwp_skip ?_)
          obtain ⟨v2, hcut, hv2⟩ := (hv.fr hF03 rfl).drop (E := ES) ty22 rfl ty5 rfl (n := k) (by rw [E8_len]; exact hk)
          rw [E8_drop, hrest] at hv2
          have hv2c := hv2.cl
          refine vwp_seq (vwp_draw plan77 rfl ?_)
          iterate 8 (refine vpl_run (n := 0) rfl (by simp (maxSteps := 1000000) [ty180, ty22, ty4, ha3.2, hvc, optNat, hcut, hv2c, buildVal, structPlace, hz3.2]; rfl) ?_)
          have hup2 := at_upd_self hz3 hn3 ⟨180, [v2, .bool false], 0⟩
          have hFu2 := (hF03.updNew hz3 hn3 (by omega) ⟨180, [v2, .bool false], 0⟩).le (show _ ≤ 50 by omega)
          refine vpl_nil (vwp_ret ⟨.inr rfl, _, by simp [resultVals, ty180, hup2.2]; rfl, _, by rw [hd]; rfl, ?_, hFu2⟩)
          rw [hd]
          exact ⟨v2, rfl, hv2.fr (Fr.upd (S := fun t => Nat.beq t 180) hz3 hn3 rfl _) rfl⟩
end Go.Proofs.Tryz
