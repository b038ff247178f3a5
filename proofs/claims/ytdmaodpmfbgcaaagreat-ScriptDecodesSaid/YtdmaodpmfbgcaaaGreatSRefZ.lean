/-
  The reference's step taken, on the abstract machine.
-/
import Derived.Test.YtdmaodpmfbgcaaaGreatSRefY
set_option maxRecDepth 100000
namespace Go.Proofs.Tryz
open Go Go.V Go.SC
attribute [local simp] runOp wanted isHeavy light St.ev St.slot_mk sget_put St.put_mk cl_int cl_bool cl_str cl_ptr cl_nil cl_ref cl_imm cl_agg cl_nilp NewV.at nblt nble nbeq ofConst ofConst1 fieldOf sh_ptr sh_iptr rc_ptr rc_iptr lget mkVal VD.isAgg lenOf bin ar_add ar_sub ar_mul ar_eql ar_neq ar_lss ar_leq ar_gtr ar_geq argSlots un heavy writeCells lput eqVals next_add next_upd fillA zeros natOf_cast natOf_succ
def S115 : TypeId → Bool := fun t => Nat.beq t 115
theorem plan146 : ES.plans.get 598037 = some [.run 0, .run 1, .run 2, .chk 1, .run 3] := by kernel_rfl

/-! ### How the two ways of taking a count go together -/
theorem count_of_num {st : IS} {most : Int} (hm : 0 ≤ most) (hm2 : most ≤ mostN) (h : 0 ≤ (dNum mostN st).1 ∧ (dNum mostN st).1 ≤ most) : dCount most st = ((dNum mostN st).1.toNat, (dNum mostN st).2) := by
  have e : mostN = 2147483647 := rfl
  cases st with
  | none => rfl
  | some b =>
    cases hr : raw b with
    | none => unfold dCount; rw [dNum_none hr, dNum_none hr]; rfl
    | some p =>
      obtain ⟨u, r⟩ := p
      by_cases hc : mostN < 0 ∨ mostN < unzig u ∨ unzig u < -mostN
      · unfold dCount
        rw [dNum_out hr hc, dNum_out hr (by omega)]; rfl
      · rw [dNum_in hr hc] at h ⊢
        simp only at h
        unfold dCount
        rw [dNum_in hr (by omega)]
        simp only
        rw [if_neg (by omega)]
theorem count_not_num {st : IS} {most : Int} (hm : 0 ≤ most) (hm2 : most ≤ mostN) (h : ¬ (0 ≤ (dNum mostN st).1 ∧ (dNum mostN st).1 ≤ most)) : (dCount most st).2 = none := by
  have e : mostN = 2147483647 := rfl
  cases st with
  | none => rfl
  | some b =>
    cases hr : raw b with
    | none => unfold dCount; rw [dNum_none hr]; rfl
    | some p =>
      obtain ⟨u, r⟩ := p
      by_cases hc : mostN < 0 ∨ mostN < unzig u ∨ unzig u < -mostN
      · rw [dNum_out hr hc] at h; exact absurd ⟨Int.le_refl _, hm⟩ h
      · rw [dNum_in hr hc] at h
        simp only at h
        unfold dCount
        by_cases h2 : most < 0 ∨ most < unzig u ∨ unzig u < -most
        · rw [dNum_out hr h2]; rfl
        · rw [dNum_in hr h2]
          simp only
          rw [if_pos (by omega)]
theorem dTexts_none : ∀ n, (dTexts n none).2 = none
  | 0 => rfl
  | n + 1 => dTexts_none n
theorem dStep_none : (dStep none).2 = none := by unfold dStep; rfl
theorem dSteps_none : ∀ n, (dSteps n none).2 = none
  | 0 => rfl
  | n + 1 => by rw [dSteps_succ, dStep_none]; exact dSteps_none n
theorem dStep_bad5 {st : IS} (h : (dCount 255 (dNum mostN (dNum mostN (dNum mostN (dNum mostN st).2).2).2).2).2 = none) : (dStep st).2 = none := by
  unfold dStep
  simp only [h]
  rfl
theorem dStep_bad6 {st : IS} (h : (dCount 3 (dCount 255 (dNum mostN (dNum mostN (dNum mostN (dNum mostN st).2).2).2).2).2).2 = none) : (dStep st).2 = none := by
  unfold dStep
  simp only [h, dTexts_none]
  rfl
theorem u8i (z : Int) : IntKind.u8.wrap z = (((UInt8.ofNat (z % 256).toNat).toNat : Nat) : Int) := by
  rw [toNat_ofNat (by omega)]
  simp [IntKind.wrap, IntKind.bits, IntKind.signed]
  omega

noncomputable def loopT146 : Code := match f146.body with
  | some (.seq _ (.seq _ (.seq _ (.seq _ (.seq _ (.seq (.seq _ (.block _ l)) _)))))) => l
  | _ => .skip
theorem takeTexts_loop (b1 b6 cnt : Nat) (m : Mem) (x : LStep) (hm : m.next ≤ 400000) (hcnt : cnt ≤ 3) (hb1n : m.next ≤ b1) (hb6n : m.next ≤ b6) :
    ∀ (j k : Nat) (st : IS) (pl : List (List UInt8)) (p : AVal) (cs : List AVal) (sl : Slots) (mm : Mem), k + j = cnt → pl.length = k → IsL st 1000000 → InA mm cs st → mm.at b1 ⟨180, cs, 0⟩ → Fr S0 m mm (400 + 70 * k) → mm.at b6 ⟨115, [.int .i64 x.kind, .int .i64 x.a, .int .i64 x.n, .int .i64 x.n2, .int .u8 (x.who.toNat : Nat), p, .int .i64 0, .str (mkS []), .int .i64 0], 0⟩ → GrowV mm 9 1 p (strE pl) → NewR m p →
      sget sl 1 = .ptr b1 2 0 → sget sl 6 = .ptr b6 9 0 → sget sl 53 = .int .i64 (cnt : Nat) → sget sl 54 = .int .i64 (k : Nat) →
    vwp ES loopT146 (fun ex s => ex = .exit 2 ∧ ∃ sl' mm' p' cs', s = ⟨146, 94, sl', mm'⟩ ∧ (∀ d ∈ [1, 2, 3, 6], sget sl' d = sget sl d) ∧ InA mm' cs' (dTexts j st).2 ∧ mm'.at b1 ⟨180, cs', 0⟩ ∧ Fr S0 m mm' (400 + 70 * cnt) ∧ GrowV mm' 9 1 p' (strE (pl ++ (dTexts j st).1)) ∧ NewR m p' ∧ mm'.at b6 ⟨115, [.int .i64 x.kind, .int .i64 x.a, .int .i64 x.n, .int .i64 x.n2, .int .u8 (x.who.toNat : Nat), p', .int .i64 0, .str (mkS []), .int .i64 0], 0⟩ ∧ ∀ b B, mm.at b B → b ≠ b1 → b ≠ b6 → B.ty ≠ 9 → mm'.at b B) ⟨146, 94, sl, mm⟩ := by
  intro j
  induction j with
  | zero =>
    intro k st pl p cs sl mm hij hpl hil hA hb1 hF hb hG hNew s1 s6 s53 s54
    obtain rfl : k = cnt := by omega
    unfold loopT146 f146
    refine vwp_loop (vwp_seq ?_)
    refine vwp_region ?_
    iterate 1 (refine vops_cons (n := 0) (by simp (maxSteps := 1000000) [s53, s54]; rfl) ?_)
    refine vops_nil ?_
    refine vwp_seq (vwp_cond (t := false) (by simp [St.ev, St.slot_mk, sget_put]) (vwp_exit ?_))
    refine ⟨rfl, _, mm, p, cs, rfl, ?_, hA, hb1, hF, by rw [dTexts, List.append_nil]; exact hG, hNew, hb, fun _ _ h _ _ _ => h⟩
    intro d hd
    simp only [List.mem_cons, List.not_mem_nil, or_false] at hd
    rcases hd with rfl | rfl | rfl | rfl <;> simp
  | succ j ih =>
    intro k st pl p cs sl mm hij hpl hil hA hb1 hF hb hG hNew s1 s6 s53 s54
    have hk' : (k : Int) < (cnt : Int) := by omega
    have hmx := hF.most
    have hpc := hG.cl
    obtain ⟨v, bb, bs, rfl, hv, hvc, _, _⟩ := hA.view
    unfold loopT146 f146
    refine vwp_loop (vwp_seq ?_)
    refine vwp_region ?_
    iterate 1 (refine vops_cons (n := 0) (by simp (maxSteps := 1000000) [s53, s54, hk']; rfl) ?_)
    refine vops_nil ?_
    refine vwp_seq (vwp_cond (t := true) (by simp [St.ev, St.slot_mk, sget_put]) (vwp_skip ?_))
    refine vwp_seq (vwp_block (vwp_seq ?_))
    refine vwp_region ?_
    iterate 1 (refine vops_cons (n := 0) (by simp (maxSteps := 1000000) []; rfl) ?_)
    refine vops_nil ?_
    refine vwp_seq (vwp_region ?_)
    iterate 1 (refine vops_cons (n := 0) (by simp (maxSteps := 1000000) [s1, ty180, hb1.2]; rfl) ?_)
    refine vops_callv (g := 250) (first := []) (cap := []) (avs := [.agg [v, .bool bb], .int .i64 30]) rfl rfl rfl (by simp) ?_
    refine (refInText_ok (m := mm) hA (by omega) hil (by decide) (by decide)).mono fun r m1 hr => ?_
    obtain ⟨cs1, rfl, hA1, hF1⟩ := hr
    have hil1 := isl_text (most := 30) hil
    have hT := dTexts_succ j st
    generalize hd : dText 30 st = d at *
    obtain ⟨v1, bb1, bs1, rfl, hv1, hvc1, _, _⟩ := hA1.view
    have hmx1 := hF1.most
    have hn1 : m1.next ≤ 1048576 := by omega
    have hb11 := hF1.keep _ _ hb1 rfl
    have hb6x := hF1.keep _ _ hb rfl
    have hG1 := hG.fr hF1 rfl
    refine ⟨_, by simp; rfl, ?_⟩
    iterate 5 (refine vops_cons (n := 0) (by simp (maxSteps := 1000000) [s1, ty180, hb11.2, hvc1]; rfl) ?_)
    show vops _ _ _ _ ⟨146, 94, _, m1.upd b1 ⟨180, [v1, .bool bb1], 0⟩⟩
    have hFt := Fr.upd (S := fun t => Nat.beq t 180) hb11 hn1 rfl ⟨180, [v1, .bool bb1], 0⟩
    have hF2 : Fr S0 m (m1.upd b1 ⟨180, [v1, .bool bb1], 0⟩) (400 + 70 * k + 60) := (hF.trans hF1 (Nat.le_refl _)).updNew hb11 hn1 hb1n _
    have hb12 := at_upd_self hb11 hn1 ⟨180, [v1, .bool bb1], 0⟩
    have hb62 := hFt.keep _ _ hb6x rfl
    have hG2 := hG1.fr hFt rfl
    have hA2 := hA1.fr hFt rfl
    have hn2 : (m1.upd b1 ⟨180, [v1, .bool bb1], 0⟩).next = m1.next := rfl
    have g6 : ∀ b B, mm.at b B → b ≠ b1 → (m1.upd b1 ⟨180, [v1, .bool bb1], 0⟩).at b B := fun b B hB e => at_upd hb11 hn1 (hF1.keep b B hB rfl) e _
    generalize m1.upd b1 ⟨180, [v1, .bool bb1], 0⟩ = m2 at *
    refine vops_nil (vwp_region ?_)
    have hnx : m2.next < 1048576 := by omega
    iterate 5 (refine vops_cons (n := 0) (by simp (maxSteps := 1000000) [s6, ty115, ty65, ty63, ty9, hb62.2, hpc, hnx]; rfl) ?_)
    have hadd := Fr.add (S := S0) m2 ⟨9, [.str (mkS d.1)], 0⟩ hnx
    have hG3 := hG2.add hnx ⟨9, [.str (mkS d.1)], 0⟩
    have hFm : Fr S0 m (m2.add ⟨9, [.str (mkS d.1)], 0⟩) (400 + 70 * k + 61) := hF2.trans hadd (Nat.le_refl _)
    obtain ⟨p', m3, hap, hG4, hv1', hv2', hk, href⟩ := hG3.append (ve := ⟨.str, 1, 16, [.str ⟨#[]⟩], (some [.s])⟩) rfl (by decide) (xs := strE [d.1]) (strE_one _) (by rw [next_add]; omega) (by rw [strE_len, strE_len]; simp; omega)
    rw [← strE_append] at hG4
    have hF3 := hG3.frame (S := S9) rfl hv1' hv2' hk
    have hFm2 : Fr S0 m m3 (400 + 70 * k + 61 + 1) := hFm.growNew hv1' hv2' hk hNew
    have hNew' := hNew.grow hFm href
    rw [next_add] at hv1' hv2'
    have hb63 := hF3.keep _ _ (at_add _ hnx hb62) rfl
    have hb13 := hF3.keep _ _ (at_add _ hnx hb12) rfl
    have hA3 := (hA2.fr hadd rfl).fr hF3 rfl
    refine vops_append (v' := p') (m' := m3) rfl rfl rfl rfl ty63 rfl ty9 rfl (k := 1) (cs := [.str (mkS d.1)]) ?_ ?_ ⟨_, by simp; rfl, ?_⟩
    · simp [appended, ty63, ty9, sliceLen, sliceCells, get_add_self _ _ hnx]
    · simp; exact hap
    have hp'c := hG4.cl
    iterate 3 (refine vops_cons (n := 0) (by simp (maxSteps := 1000000) [s6, ty115, ty65, ty63, hb63.2, hp'c]; rfl) ?_)
    refine vops_nil ?_
    refine vwp_region ?_
    iterate 2 (refine vops_cons (n := 0) (by simp (maxSteps := 1000000) [s54, wrap_up (show k < 1000000000 by omega)]; rfl) ?_)
    refine vops_nil ?_
    have hn3 : m3.next ≤ 1048576 := by omega
    have hup := Fr.upd (S := S115) hb63 hn3 rfl ⟨115, [.int .i64 x.kind, .int .i64 x.a, .int .i64 x.n, .int .i64 x.n2, .int .u8 (x.who.toNat : Nat), p', .int .i64 0, .str (mkS []), .int .i64 0], 0⟩
    refine (ih (k + 1) d.2 (pl ++ [d.1]) p' [v1, .bool bb1] _ _ (by omega) (by rw [List.length_append, hpl]; rfl) hil1 (hA3.fr hup rfl) (hup.keep _ _ hb13 rfl) ((hFm2.updNew hb63 hn3 hb6n _).le (by omega)) (at_upd_self hb63 hn3 _) (hG4.fr hup rfl) hNew' (by simp [s1]) (by simp [s6]) (by simp [s53]) (by simp)).mono ?_
    rintro ex s ⟨rfl, sl', mm', p2, cs2, rfl, hK, a4, a5, a6, a7, a8, a9, a10⟩
    refine ⟨rfl, sl', mm', p2, cs2, rfl, ?_, by rw [hT]; exact a4, a5, a6, by rw [hT]; simpa using a7, a8, a9, fun b B hB e1 e6 e9 => a10 b B (at_upd hb63 hn3 (hF3.keep b B (at_add _ hnx (g6 b B hB e1)) (by rw [S9, nbeq]; exact decide_eq_false e9)) e6 _) e1 e6 e9⟩
    intro d' hd'
    rw [hK d' hd']
    simp only [List.mem_cons, List.not_mem_nil, or_false] at hd'
    rcases hd' with rfl | rfl | rfl | rfl <;> simp
end Go.Proofs.Tryz
