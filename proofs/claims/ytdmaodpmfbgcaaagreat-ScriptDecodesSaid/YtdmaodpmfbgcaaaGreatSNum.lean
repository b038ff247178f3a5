/-
  The codec's In: numbers and texts taken, whole.
-/
import Derived.Test.YtdmaodpmfbgcaaaGreatSIn
set_option maxRecDepth 100000
namespace Go.Proofs.Tryz
open Go Go.V Go.SC
attribute [local simp] runOp wanted isHeavy light St.ev St.slot_mk sget_put St.put_mk cl_int cl_bool cl_str cl_ptr cl_nil cl_ref cl_imm cl_agg cl_nilp NewV.at nblt nble nbeq ofConst ofConst1 fieldOf sh_ptr sh_iptr rc_ptr rc_iptr lget mkVal VD.isAgg lenOf bin ar_add ar_sub ar_mul ar_eql ar_neq ar_lss ar_leq ar_gtr ar_geq argSlots un heavy writeCells lput eqVals next_add next_upd fillA zeros natOf_cast natOf_succ
theorem raw_ok {m : Mem} {i : Nat} {bs : List UInt8} (h : InR m i (some bs)) (hN : m.next ≤ 1000000) (hl : bs.length ≤ 1000000) :
    vcall ES 264 [.ptr i 2 0] m fun r m' => Fr SI m m' 0 ∧ ∃ (u : Nat) (ok : Bool) (st : List UInt8), r = .tup [.int .u64 (u : Nat), .bool ok] ∧ u < 18446744073709551616 ∧ InR m' i (some st) ∧ st.length ≤ bs.length ∧ (ok = false → raw bs = none) ∧ (ok = true → raw bs = some (u, st)) := by
  obtain ⟨v, hb, hv⟩ := id h
  have hlen : sliceLen v = some bs.length := by rw [hv.len, E8_len]
  have hn : m.next ≤ 1048576 := by omega
  refine vcall_body (fn := f264) (c := ((f264.body).getD .skip)) rfl fns264 body264 (by rw [vntmps264]; show 1 ≤ 56; decide) (by rw [vntmps264]; decide) ?_
  rw [vntmps264]
  simp only [vresults264]
  unfold f264
  simp only [Option.getD_some]
  refine vwp_seq ?_
  refine vwp_region ?_
  iterate 2 (refine vops_cons (n := 0) (by simp (maxSteps := 1000000) []; rfl) ?_)
  refine vops_nil ?_
  refine vwp_seq ?_
  refine vwp_region ?_
  iterate 1 (refine vops_cons (n := 0) (by simp (maxSteps := 1000000) []; rfl) ?_)
  refine vops_nil ?_
  refine vwp_seq (vwp_seq ?_)
  refine vwp_region ?_
  iterate 6 (refine vops_cons (n := 0) (by simp (maxSteps := 1000000) [ty378, ty22, hb.2, hlen]; rfl) ?_)
  refine vops_nil ?_
  refine vwp_block ?_
  refine (raw_loop i m bs v hb hv hN hl bs.length 0 0 _ (by omega) (by omega) (by decide) (by simp) (by simp) (by simp) (by simp) (by simp) (by simp)).mono ?_
  rintro ex st ⟨sl', ⟨hr, (rfl | ⟨rfl, s3, s2⟩), rfl⟩ | ⟨w, r, v', hr, rfl, s2, s3, hv', rfl⟩⟩
  · rw [List.drop_zero, rawL_raw] at hr
    refine vwp_seq ?_
    refine vwp_region ?_
    iterate 2 (refine vops_cons (n := 0) (by simp (maxSteps := 1000000) []; rfl) ?_)
    refine vops_nil ?_
    exact vwp_ret ⟨.inr rfl, _, by simp [resultVals]; rfl, .refl _ _, 0, false, bs, rfl, by decide, h, Nat.le_refl _, fun _ => hr, fun h => by cases h⟩
  · rw [List.drop_zero, rawL_raw] at hr
    exact ⟨.inr rfl, _, by simp [resultVals, s2, s3]; rfl, .refl _ _, 0, false, bs, rfl, by decide, h, Nat.le_refl _, fun _ => hr, fun h => by cases h⟩
  · rw [List.drop_zero, rawL_raw] at hr
    obtain ⟨h1, h2⟩ := raw_some hr
    exact ⟨.inr rfl, _, by simp [resultVals, s2, s3]; rfl, Fr.upd hb hn rfl _, w, true, r, rfl, h2, InR.upd hb hn rfl hv', by rw [h1, List.length_append]; omega, fun h => (by cases h), fun _ => hr⟩

theorem dNum_none {most : Int} {bs : List UInt8} (h : raw bs = none) : dNum most (some bs) = (0, none) := by unfold dNum; simp only [h]
theorem dNum_out {most : Int} {bs r : List UInt8} {u : Nat} (h : raw bs = some (u, r)) (hc : most < 0 ∨ most < unzig u ∨ unzig u < -most) : dNum most (some bs) = (0, none) := by unfold dNum; simp only [h]; rw [if_pos hc]
theorem dNum_in {most : Int} {bs r : List UInt8} {u : Nat} (h : raw bs = some (u, r)) (hc : ¬ (most < 0 ∨ most < unzig u ∨ unzig u < -most)) : dNum most (some bs) = (unzig u, some r) := by unfold dNum; simp only [h]; rw [if_neg hc]
noncomputable def fail157 : Code := match f157.body with
  | some (.seq _ (.seq _ (.seq _ (.seq _ (.seq (.seq _ (.cond _ c _)) _))))) => c
  | _ => .skip

/-- A number is taken. -/
theorem inNum_ok {m : Mem} {i : Nat} {st : IS} {most : Int} (h : InR m i st) (hN : m.next ≤ 1000000) (hl : ∀ bs, st = some bs → bs.length ≤ 1000000) (hm0 : 0 ≤ most) (hm1 : most ≤ 4611686018427387904) :
    vcall ES 157 [.ptr i 2 0, .int .i64 most] m fun r m' => r = .int .i64 (dNum most st).1 ∧ InR m' i (dNum most st).2 ∧ Fr SI m m' 0 := by
  refine vcall_body (fn := f157) (c := ((f157.body).getD .skip)) rfl fns157 body157 (by rw [vntmps157]; show 2 ≤ 49; decide) (by rw [vntmps157]; decide) ?_
  rw [vntmps157]
  simp only [vresults157]
  unfold f157
  simp only [Option.getD_some]
  refine vwp_seq ?_
  refine vwp_region ?_
  iterate 1 (refine vops_cons (n := 0) (by simp (maxSteps := 1000000) []; rfl) ?_)
  refine vops_nil ?_
  refine vwp_seq (vwp_seq ?_)
  cases st with
  | none =>
    have hb : m.at i ⟨378, [.nil true, .bool true], 0⟩ := h
    refine vwp_region ?_
    iterate 8 (refine vops_cons (n := 0) (by simp (maxSteps := 1000000) [ty238, ty378, ty4, hb.2]; rfl) ?_)
    refine vops_nil ?_
    refine vwp_cond (t := true) (by simp [St.ev, St.slot_mk, sget_put]) ?_
    refine vwp_seq ?_
    refine vwp_region ?_
    iterate 1 (refine vops_cons (n := 0) (by simp (maxSteps := 1000000) []; rfl) ?_)
    refine vops_nil ?_
    exact vwp_ret ⟨.inr rfl, _, by simp [resultVals]; rfl, rfl, h, .refl _ _⟩
  | some bs =>
    obtain ⟨v, hb, hv⟩ := id h
    refine vwp_region ?_
    iterate 8 (refine vops_cons (n := 0) (by simp (maxSteps := 1000000) [ty238, ty378, ty4, hb.2]; rfl) ?_)
    refine vops_nil ?_
    refine vwp_cond (t := false) (by simp [St.ev, St.slot_mk, sget_put]) (vwp_skip ?_)
    refine vwp_seq (vwp_region ?_)
    iterate 1 (refine vops_cons (n := 0) (by simp (maxSteps := 1000000) []; rfl) ?_)
    refine vops_callv (g := 264) (first := []) (cap := []) (avs := [.ptr i 2 0]) rfl rfl rfl (by simp) ?_
    refine (raw_ok h hN (hl bs rfl)).mono fun r m' hr => ?_
    obtain ⟨hF, u, ok, rest, rfl, hu, hR, hrl, hno, hyes⟩ := hr
    refine ⟨_, by simp; rfl, ?_⟩
    iterate 5 (refine vops_cons (n := 0) (by simp (maxSteps := 1000000) []; rfl) ?_)
    refine vops_nil (vwp_seq (vwp_region ?_))
    have hshr : ∀ l, bin ES .shr 371 (.int .u64 ((u : Nat) : Int)) (.int l 1) = some (.int .u64 ((u / 2 : Nat) : Int)) := fun l => by
      show some (AVal.int .u64 (((u : Nat) : Int).fdiv (2 ^ (1 : Nat)))) = _
      rw [fdiv_nat]
    have hand := and1 hu
    have hxor := unzig_bits hu
    rw [Int.zero_sub] at hxor
    have hq : u / 2 < 9223372036854775808 := by omega
    have hp : u % 2 < 2 := by omega
    generalize hz : unzig u = z at *
    generalize u / 2 = q at *
    generalize u % 2 = p at *
    have e1 : IntKind.i64.wrap ((q : Nat) : Int) = (q : Int) := i64n hq
    have e2 : IntKind.i64.wrap ((p : Nat) : Int) = (p : Int) := i64n (by omega)
    iterate 1 (refine vops_cons (n := 0) (by simp; rfl) ?_)
    refine vops_cons (n := 0) (by simp only [runOp, wanted, isHeavy, cond_false, light, St.ev, St.slot_mk, sget_put, Nat.reduceLT, Nat.reduceEqDiff, if_true, if_false, ofConst, ofConst1, hshr, Option.map_some]; exact St.put_mk _ _ _ _ _ _ (by decide)) ?_
    iterate 7 (refine vops_cons (n := 0) (by simp (maxSteps := 1000000) [ty371, ty2, e1, e2, hand, hxor]; rfl) ?_)
    refine vops_nil (vwp_seq (vwp_seq ?_))
    have hneg : IntKind.i64.wrap (-most) = -most := i64w (by omega) (by omega)
    have hm0' : ¬ most < 0 := by omega
    have failing : ∀ (sl : Slots) (Q' : Ex → St → Prop), sget sl 0 = .ptr i 2 0 → (∀ sl2 m2, InR m2 i none → Fr SI m m2 0 → sget sl2 4 = .int .i64 0 → Q' .ret ⟨157, 49, sl2, m2⟩) → vwp ES fail157 Q' ⟨157, 49, sl, m'⟩ := by
      intro sl Q' s0 hQ
      unfold fail157 f157
      refine vwp_seq (vwp_region ?_)
      iterate 1 (refine vops_cons (n := 0) (by simp (maxSteps := 1000000) [s0]; rfl) ?_)
      refine vops_callv (g := 248) (first := []) (cap := []) (avs := [.ptr i 2 0]) rfl rfl rfl (by simp) ?_
      refine (fail_ok hR (by have := hF.most; omega)).mono fun r m2 hr => ?_
      obtain ⟨rfl, hR2, hF2⟩ := hr
      refine ⟨_, by simp; rfl, ?_⟩
      refine vops_nil (vwp_seq ?_)
      refine vwp_region ?_
      iterate 1 (refine vops_cons (n := 0) (by simp (maxSteps := 1000000) []; rfl) ?_)
      refine vops_nil ?_
      exact vwp_ret (hQ _ _ hR2 (hF.trans hF2 (Nat.le_refl _)) (by simp))
    cases ok with
    | false =>
      have hd : dNum most (some bs) = (0, none) := dNum_none (hno rfl)
      refine vwp_region ?_
      iterate 17 (refine vops_cons (n := 0) (by simp (maxSteps := 1000000) []; rfl) ?_)
      refine vops_nil ?_
      refine vwp_cond (t := true) (by simp [St.ev, St.slot_mk, sget_put]) ?_
      (refine failing _ _ ?_ ?_; simp; exact fun sl2 m2 k1 k2 k3 => ⟨.inr rfl, _, by simp [resultVals, k3]; rfl, by rw [hd]; rfl, by rw [hd]; exact k1, k2⟩)
    | true =>
      have hy := hyes rfl
      by_cases c1 : most < z
      · have hd : dNum most (some bs) = (0, none) := dNum_out hy (by rw [hz]; exact .inr (.inl c1))
        refine vwp_region ?_
        iterate 17 (refine vops_cons (n := 0) (by simp (maxSteps := 1000000) [hm0', c1]; rfl) ?_)
        refine vops_nil ?_
        refine vwp_cond (t := true) (by simp [St.ev, St.slot_mk, sget_put]) ?_
        (refine failing _ _ ?_ ?_; simp; exact fun sl2 m2 k1 k2 k3 => ⟨.inr rfl, _, by simp [resultVals, k3]; rfl, by rw [hd]; rfl, by rw [hd]; exact k1, k2⟩)
      · by_cases c2 : z < -most
        · have hd : dNum most (some bs) = (0, none) := dNum_out hy (by rw [hz]; exact .inr (.inr c2))
          refine vwp_region ?_
          iterate 17 (refine vops_cons (n := 0) (by simp (maxSteps := 1000000) [hm0', c1, c2, hneg]; rfl) ?_)
          refine vops_nil ?_
          refine vwp_cond (t := true) (by simp [St.ev, St.slot_mk, sget_put]) ?_
          (refine failing _ _ ?_ ?_; simp; exact fun sl2 m2 k1 k2 k3 => ⟨.inr rfl, _, by simp [resultVals, k3]; rfl, by rw [hd]; rfl, by rw [hd]; exact k1, k2⟩)
        · have hd : dNum most (some bs) = (z, some rest) := by rw [← hz]; exact dNum_in hy (by rw [hz]; omega)
          refine vwp_region ?_
          iterate 17 (refine vops_cons (n := 0) (by simp (maxSteps := 1000000) [hm0', c1, c2, hneg]; rfl) ?_)
          refine vops_nil ?_
          refine vwp_cond (t := false) (by simp [St.ev, St.slot_mk, sget_put]) (vwp_skip ?_)
          refine vwp_seq ?_
          refine vwp_region ?_
          iterate 2 (refine vops_cons (n := 0) (by simp (maxSteps := 1000000) []; rfl) ?_)
          refine vops_nil ?_
          rw [hd]
          exact vwp_ret ⟨.inr rfl, _, by simp [resultVals]; rfl, rfl, hR, hF⟩
end Go.Proofs.Tryz
