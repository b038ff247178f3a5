/-
  The reference's script taken, whole, on the abstract machine.
-/
import Derived.Test.YtdmaodpmfbgcaaaGreatSTakeR
set_option maxRecDepth 100000
namespace Go.Proofs.Tryz
open Go Go.V Go.SC
attribute [local simp] runOp wanted isHeavy light St.ev St.slot_mk sget_put St.put_mk cl_int cl_bool cl_str cl_ptr cl_nil cl_ref cl_imm cl_agg cl_nilp NewV.at nblt nble nbeq ofConst ofConst1 fieldOf sh_ptr sh_iptr rc_ptr rc_iptr lget mkVal VD.isAgg lenOf bin ar_add ar_sub ar_mul ar_eql ar_neq ar_lss ar_leq ar_gtr ar_geq argSlots un heavy writeCells lput eqVals next_add next_upd fillA zeros natOf_cast natOf_succ
noncomputable def loopS58 : Code := match f58.body with
  | some (.seq _ (.seq _ (.seq _ (.seq _ (.seq _ (.seq _ (.seq (.seq _ (.block _ l)) _))))))) => l
  | _ => .skip

theorem refDec_loop (b4 b7 cnt : Nat) (m : Mem) (x : LScript) (T : List LStep × IS) (hm : m.next ≤ 50000) (hcnt : cnt ≤ 200) (hb4n : m.next ≤ b4) (hb7n : m.next ≤ b7) :
    ∀ (j k : Nat) (st : IS) (l : List LStep) (w : AVal) (cs : List AVal) (sl : Slots) (mm : Mem), k + j = cnt → l.length = k → IsL st 1000000 → ((dSteps j st).2 = none ∨ l ++ (dSteps j st).1 = T.1) → (dSteps j st).2 = T.2 → InA mm cs st → mm.at b4 ⟨180, cs, 0⟩ → Fr S0 m mm (300 + 1210 * k) → mm.at b7 ⟨127, [.int .i64 x.c, .int .i64 x.s, .int .i64 x.cap, w], 0⟩ → GStepsR mm 115 w l → NewR m w →
      sget sl 4 = .ptr b4 2 0 → sget sl 7 = .ptr b7 4 0 → sget sl 39 = .int .i64 (cnt : Nat) → sget sl 40 = .int .i64 (k : Nat) →
    vwp ES loopS58 (fun ex s => ex = .exit 2 ∧ ∃ sl' mm' w' cs' l', s = ⟨58, 59, sl', mm'⟩ ∧ (∀ d ∈ [2, 4, 7], sget sl' d = sget sl d) ∧ InA mm' cs' T.2 ∧ (T.2 = none ∨ l' = T.1) ∧ mm'.at b4 ⟨180, cs', 0⟩ ∧ Fr S0 m mm' (300 + 1210 * cnt) ∧ GStepsR mm' 115 w' l' ∧ mm'.at b7 ⟨127, [.int .i64 x.c, .int .i64 x.s, .int .i64 x.cap, w'], 0⟩ ∧ ∀ b B, mm.at b B → b ≠ b4 → b ≠ b7 → B.ty ≠ 115 → mm'.at b B) ⟨58, 59, sl, mm⟩ := by
  intro j
  induction j with
  | zero =>
    intro k st l w cs sl mm hij hpl hil hI1 hI2 hA hb4 hF hb hG hNew s4 s7 s39 s40
    obtain rfl : k = cnt := by omega
    unfold loopS58 f58
    refine vwp_loop (vwp_seq ?_)
    refine vwp_region ?_
    iterate 1 (refine vops_cons (n := 0) (by simp (maxSteps := 1000000) [s39, s40]; rfl) ?_)
    refine vops_nil ?_
    refine vwp_seq (vwp_cond (t := false) (by simp [St.ev, St.slot_mk, sget_put]) (vwp_exit ?_))
    rw [dSteps] at hI1 hI2
    simp only at hI1 hI2
    rw [List.append_nil] at hI1
    rw [hI2] at hI1 hA
    refine ⟨rfl, _, mm, w, cs, l, rfl, ?_, hA, hI1, hb4, hF, hG, hb, fun _ _ h _ _ _ => h⟩
    intro d hd
    simp only [List.mem_cons, List.not_mem_nil, or_false] at hd
    rcases hd with rfl | rfl | rfl <;> simp
  | succ j ih =>
    intro k st l w cs sl mm hij hpl hil hI1 hI2 hA hb4 hF hb hG hNew s4 s7 s39 s40
    have hk' : (k : Int) < (cnt : Int) := by omega
    have hmx := hF.most
    have hwc := hG.cl
    obtain ⟨v, bb, bs, rfl, hv, hvc, _, _⟩ := hA.view
    have hnx : mm.next < 1048576 := by omega
    unfold loopS58 f58
    refine vwp_loop (vwp_seq ?_)
    refine vwp_region ?_
    iterate 1 (refine vops_cons (n := 0) (by simp (maxSteps := 1000000) [s39, s40, hk']; rfl) ?_)
    refine vops_nil ?_
    refine vwp_seq (vwp_cond (t := true) (by simp [St.ev, St.slot_mk, sget_put]) (vwp_skip ?_))
    refine vwp_seq (vwp_block (vwp_seq (vwp_region ?_)))
    iterate 1 (refine vops_cons (n := 0) (by simp (maxSteps := 1000000) [ty115, hnx]; rfl) ?_)
    have hz := at_add_self mm ⟨115, [.int .i64 0, .int .i64 0, .int .i64 0, .int .i64 0, .int .u8 0, .nil true, .int .i64 0, .str ⟨#[]⟩, .int .i64 0], 0⟩ hnx
    have hF1 := Fr.add (S := S0) mm ⟨115, [.int .i64 0, .int .i64 0, .int .i64 0, .int .i64 0, .int .u8 0, .nil true, .int .i64 0, .str ⟨#[]⟩, .int .i64 0], 0⟩ hnx
    have hn1 : (mm.add ⟨115, [.int .i64 0, .int .i64 0, .int .i64 0, .int .i64 0, .int .u8 0, .nil true, .int .i64 0, .str ⟨#[]⟩, .int .i64 0], 0⟩).next = mm.next + 1 := rfl
    generalize mm.add ⟨115, [.int .i64 0, .int .i64 0, .int .i64 0, .int .i64 0, .int .u8 0, .nil true, .int .i64 0, .str ⟨#[]⟩, .int .i64 0], 0⟩ = m1 at *
    have hb41 := hF1.keep _ _ hb4 rfl
    have hA1 := hA.fr hF1 rfl
    refine vops_nil (vwp_seq (vwp_region ?_))
    iterate 1 (refine vops_cons (n := 0) (by simp (maxSteps := 1000000) [s4, ty180, hb41.2]; rfl) ?_)
    refine vops_callv (g := 146) (first := []) (cap := []) (avs := [.agg [v, .bool bb]]) rfl rfl rfl (by simp) ?_
    refine (refTake_ok (m := m1) hA1 (by omega) hil).mono fun r m2 hr => ?_
    obtain ⟨cs1, cs2, x', rfl, hX, hA2, hxx, hF2⟩ := hr
    have hil1 := isl_step hil
    have hT := dSteps_succ j st
    rw [hT] at hI1 hI2
    simp only at hI1 hI2
    generalize hd : dStep st = d at *
    obtain ⟨v2, bb2, bs2, rfl, hv2, hvc2, _, _⟩ := hA2.view
    have hcs : cs1.length = 9 := by obtain ⟨p, rfl, _⟩ := hX; rfl
    have hmx2 := hF2.most
    have hup2 := hF2.up
    have hn2 : m2.next ≤ 1048576 := by omega
    have hz2 := hF2.keep _ _ hz rfl
    have hb42 := hF2.keep _ _ hb41 rfl
    have hF02 := (hF.trans hF1 (Nat.le_refl _)).trans hF2 (Nat.le_refl _)
    have hb72 := hF2.keep _ _ (hF1.keep _ _ hb rfl) rfl
    have hG2 := (hG.fr hF1 rfl rfl).fr hF2 rfl rfl
    have hne4 : b4 ≠ mm.next := by have := hb4.1; omega
    have hne7 : b7 ≠ mm.next := by have := hb.1; omega
    have hne47 : b4 ≠ b7 := by rintro rfl; have := hb4.2.symm.trans hb.2; cases this
    have hlp : lput [.int .i64 0, .int .i64 0, .int .i64 0, .int .i64 0, .int .u8 0, .nil true, .int .i64 0, .str ⟨#[]⟩, .int .i64 0] 0 cs1 = cs1 := by
      obtain ⟨p, rfl, _⟩ := hX; rfl
    refine ⟨_, by simp; rfl, ?_⟩
    iterate 3 (refine vops_cons (n := 0) (by simp (maxSteps := 1000000) []; rfl) ?_)
    refine vops_cons (n := 0) (s := ⟨58, 59, _, m2.upd mm.next ⟨115, cs1, 0⟩⟩) (by simp (maxSteps := 1000000) [ty115, hz2.2, hcs, hlp, -lput]; rfl) ?_
    have hu3 := Fr.upd (S := S115) hz2 hn2 rfl ⟨115, cs1, 0⟩
    have hF3 : Fr S0 m (m2.upd mm.next ⟨115, cs1, 0⟩) (300 + 1210 * k + 1201) := (hF02.updNew hz2 hn2 hF.up ⟨115, cs1, 0⟩).le (by omega)
    have hz3 := at_upd_self hz2 hn2 ⟨115, cs1, 0⟩
    have hn3 : (m2.upd mm.next ⟨115, cs1, 0⟩).next = m2.next := rfl
    have hX3 : StepR (m2.upd mm.next ⟨115, cs1, 0⟩) cs1 x' := hX.fr hu3 rfl
    have hG3 : GStepsR (m2.upd mm.next ⟨115, cs1, 0⟩) 115 w l := by
      obtain ⟨els, g1, g2, g3⟩ := hG2
      refine ⟨els, ?_, g2, fun i y hi => by obtain ⟨c, e1, e2⟩ := g3 i y hi; exact ⟨c, e1, e2.fr hu3 rfl⟩⟩
      refine g1.keep fun b B hb hB => at_upd hz2 hn2 hB ?_ _
      intro e
      obtain ⟨els0, g0, _⟩ := hG
      obtain ⟨_, ⟨_, rfl⟩ | ⟨b0, rfl, hb0⟩⟩ := g0
      · cases hb
      · cases hb
        have := hb0.1
        omega
    generalize m2.upd mm.next ⟨115, cs1, 0⟩ = m3 at *
    have hb43 := hu3.keep _ _ hb42 rfl
    have hb73 := hu3.keep _ _ hb72 rfl
    have hA3 := hA2.fr hu3 rfl
    have hnx3 : m3.next ≤ 1048576 := by omega
    iterate 1 (refine vops_cons (n := 0) (by simp (maxSteps := 1000000) [s4, ty180, hb43.2, hvc2]; rfl) ?_)
    show vops _ _ _ _ ⟨58, 59, _, m3.upd b4 ⟨180, [v2, .bool bb2], 0⟩⟩
    have hu4 := Fr.upd (S := S180) hb43 hnx3 rfl ⟨180, [v2, .bool bb2], 0⟩
    have hF4 := hF3.updNew hb43 hnx3 hb4n ⟨180, [v2, .bool bb2], 0⟩
    have hb44 := at_upd_self hb43 hnx3 ⟨180, [v2, .bool bb2], 0⟩
    have hn4 : (m3.upd b4 ⟨180, [v2, .bool bb2], 0⟩).next = m3.next := rfl
    have g4 : ∀ b B, mm.at b B → b ≠ b4 → B.ty ≠ 115 → (m3.upd b4 ⟨180, [v2, .bool bb2], 0⟩).at b B := fun b B hB e1 e2 => at_upd hb43 hnx3 (hu3.keep b B (hF2.keep b B (hF1.keep b B hB rfl) rfl) (by rw [S115, nbeq]; exact decide_eq_false e2)) e1 _
    generalize m3.upd b4 ⟨180, [v2, .bool bb2], 0⟩ = m4 at *
    have hz4 := hu4.keep _ _ hz3 rfl
    have hb74 := hu4.keep _ _ hb73 rfl
    have hA4 := hA3.fr hu4 rfl
    have hX4 := hX3.fr hu4 rfl
    have hG4 := hG3.fr hu4 rfl rfl
    refine vops_nil (vwp_region ?_)
    have hnx4 : m4.next < 1048576 := by omega
    iterate 2 (refine vops_cons (n := 0) (by simp (maxSteps := 1000000) [s7, ty127, ty125, hb74.2]; rfl) ?_)
    refine vops_load (cs := cs1) (v := .agg cs1) rfl rfl ty115 (by simp [hz4.2, hcs, List.take_of_length_le (Nat.le_of_eq hcs)]) rfl ⟨_, by simp; rfl, ?_⟩
    refine vops_cons (n := 0) (s := ⟨58, 59, _, m4.add ⟨115, cs1, 0⟩⟩) (by simp (maxSteps := 1000000) [ty125, ty115, hnx4, hcs, hlp, -lput]; rfl) ?_
    have hadd := Fr.add (S := S0) m4 ⟨115, cs1, 0⟩ hnx4
    have hG5 := hG4.fr hadd rfl rfl
    have hFm : Fr S0 m (m4.add ⟨115, cs1, 0⟩) (300 + 1210 * k + 1202) := hF4.trans hadd (Nat.le_refl _)
    obtain ⟨w', m5, hap, hG6, hv1, hv2', hkk, href, hfr⟩ := hG5.append (ve := ⟨.struct [(3, 0), (3, 1), (3, 2), (3, 3), (5, 4), (65, 5)], 9, 96, [.int .i64 0, .int .i64 0, .int .i64 0, .int .i64 0, .int .u8 0, .nil true, .int .i64 0, .str ⟨#[]⟩, .int .i64 0], none⟩) rfl (by decide) (hX4.fr hadd rfl) (by rw [next_add]; omega) (by omega)
    have hFm2 : Fr S0 m m5 (300 + 1210 * k + 1202 + 1) := hFm.growNew hv1 hv2' hkk hNew
    have hNew' := hNew.grow hFm href
    have h115 := hfr S115 rfl
    rw [next_add] at hv1 hv2'
    have hb45 := h115.keep _ _ (at_add _ hnx4 hb44) rfl
    have hb75 := h115.keep _ _ (at_add _ hnx4 hb74) rfl
    have hA5 := (hA4.fr hadd rfl).fr h115 rfl
    refine vops_append (v' := w') (m' := m5) rfl rfl rfl rfl ty125 rfl ty115 rfl (k := 1) (cs := cs1) ?_ ?_ ⟨_, by simp; rfl, ?_⟩
    · simp [appended, ty125, ty115, sliceLen, sliceCells, get_add_self _ _ hnx4, hcs, List.take_of_length_le (Nat.le_of_eq hcs)]
    · simp; exact hap
    have hp'c := hG6.cl
    iterate 2 (refine vops_cons (n := 0) (by simp (maxSteps := 1000000) [s7, ty127, ty125, hb75.2, hp'c]; rfl) ?_)
    refine vops_nil ?_
    refine vwp_region ?_
    iterate 2 (refine vops_cons (n := 0) (by simp (maxSteps := 1000000) [s40, wrap_up (show k < 1000000000 by omega)]; rfl) ?_)
    refine vops_nil ?_
    have hn5 : m5.next ≤ 1048576 := by omega
    have hup := Fr.upd (S := S127) hb75 hn5 rfl ⟨127, [.int .i64 x.c, .int .i64 x.s, .int .i64 x.cap, w'], 0⟩
    have hJ1 : (dSteps j d.2).2 = none ∨ (l ++ [x']) ++ (dSteps j d.2).1 = T.1 := by
      rcases hxx with hx | hx
      · left; rw [hx]; exact dSteps_none j
      · rcases hI1 with h | h
        · exact .inl h
        · right; rw [← h, hx]; simp
    refine (ih (k + 1) d.2 (l ++ [x']) w' [v2, .bool bb2] _ _ (by omega) (by rw [List.length_append, hpl]; rfl) hil1 hJ1 hI2 (hA5.fr hup rfl) (hup.keep _ _ hb45 rfl) ((hFm2.updNew hb75 hn5 hb7n _).le (by omega)) (at_upd_self hb75 hn5 _) (hG6.fr hup rfl rfl) hNew' (by simp [s4]) (by simp [s7]) (by simp [s39]) (by simp)).mono ?_
    rintro ex s ⟨rfl, sl', mm', w2, cs3, l3, rfl, hK, a4, a5, a6, a7, a8, a9, a10⟩
    refine ⟨rfl, sl', mm', w2, cs3, l3, rfl, ?_, a4, a5, a6, a7, a8, a9, fun b B hB e1 e2 e3 => a10 b B (at_upd hb75 hn5 (h115.keep b B (at_add _ hnx4 (g4 b B hB e1 e3)) (by rw [S115, nbeq]; exact decide_eq_false e3)) e2 _) e1 e2 e3⟩
    intro d' hd'
    rw [hK d' hd']
    simp only [List.mem_cons, List.not_mem_nil, or_false] at hd'
    rcases hd' with rfl | rfl | rfl <;> simp

noncomputable def bad58 : Code := match f58.body with
  | some (.seq _ (.seq _ (.seq _ (.seq _ (.seq _ (.seq (.seq _ (.cond _ c _)) _)))))) => c
  | _ => .skip

/-- Bytes are taken apart. -/
theorem refDecode_ok {m : Mem} {v : AVal} {bs : List UInt8} (hv : BV m v bs) (hN : m.next ≤ 40000) (hl : bs.length ≤ 800000) :
    vcall ES 58 [v] m fun r m' => ∃ cs e, r = .tup [.agg cs, .int .i64 e] ∧ Fr S0 m m' 250000 ∧ (match dScript bs with
      | some x => e = 0 ∧ ScrR m' 115 cs x
      | none => e = 2 ∧ cs = [.int .i64 0, .int .i64 0, .int .i64 0, .nil true]) := by
  have hvc := hv.cl
  have hnx : m.next < 1048576 := by omega
  have ha2 := at_add_self m ⟨127, [.int .i64 0, .int .i64 0, .int .i64 0, .nil true], 0⟩ hnx
  have hF1 := Fr.add (S := S0) m ⟨127, [.int .i64 0, .int .i64 0, .int .i64 0, .nil true], 0⟩ hnx
  have hn1 : (m.add ⟨127, [.int .i64 0, .int .i64 0, .int .i64 0, .nil true], 0⟩).next = m.next + 1 := rfl
  refine vcall_body (fn := f58) (c := ((f58.body).getD .skip)) rfl fns58 body58 (by rw [vntmps58]; show 1 ≤ 59; decide) (by rw [vntmps58]; decide) ?_
  rw [vntmps58]
  simp only [vresults58]
  unfold f58
  simp only [Option.getD_some]
  refine vwp_seq (vwp_region ?_)
  iterate 1 (refine vops_cons (n := 0) (by simp (maxSteps := 1000000) [ty127, hnx]; rfl) ?_)
  show vops _ _ _ _ ⟨58, 59, _, m.add ⟨127, [.int .i64 0, .int .i64 0, .int .i64 0, .nil true], 0⟩⟩
  generalize m.add ⟨127, [.int .i64 0, .int .i64 0, .int .i64 0, .nil true], 0⟩ = m1 at *
  iterate 1 (refine vops_cons (n := 0) (by simp (maxSteps := 1000000) []; rfl) ?_)
  have hnx1 : m1.next < 1048576 := by omega
  refine vops_nil (vwp_seq (vwp_region ?_))
  iterate 3 (refine vops_cons (n := 0) (by simp (maxSteps := 1000000) [ty180, ty22, buildVal, structPlace, hvc, hnx1]; rfl) ?_)
  have hz4 := at_add_self m1 ⟨180, [.nil true, .bool false], 0⟩ hnx1
  have hF2 := Fr.add (S := S0) m1 ⟨180, [.nil true, .bool false], 0⟩ hnx1
  have hn2 : (m1.add ⟨180, [.nil true, .bool false], 0⟩).next = m1.next + 1 := rfl
  generalize m1.add ⟨180, [.nil true, .bool false], 0⟩ = m2 at *
  have hnx2 : m2.next ≤ 1048576 := by omega
  iterate 1 (refine vops_cons (n := 0) (by simp (maxSteps := 1000000) [ty180, hz4.2, hvc]; rfl) ?_)
  show vops _ _ _ _ ⟨58, 59, _, m2.upd m1.next ⟨180, [v, .bool false], 0⟩⟩
  have hF3 : Fr S0 m1 (m2.upd m1.next ⟨180, [v, .bool false], 0⟩) 1 := hF2.updNew hz4 hnx2 (Nat.le_refl _) _
  have hb43 := at_upd_self hz4 hnx2 ⟨180, [v, .bool false], 0⟩
  have hn3 : (m2.upd m1.next ⟨180, [v, .bool false], 0⟩).next = m2.next := rfl
  generalize m2.upd m1.next ⟨180, [v, .bool false], 0⟩ = m3 at *
  have ha23 := hF3.keep _ _ ha2 rfl
  have hF03 := hF1.trans hF3 (Nat.le_refl _)
  have hA3 : InA m3 [v, .bool false] (some bs) := ⟨v, rfl, hv.fr hF03 rfl⟩
  have hnx3 : m3.next < 1048576 := by omega
  refine vops_nil (vwp_seq ?_)
  refine vwp_region ?_
  iterate 1 (refine vops_cons (n := 0) (by simp (maxSteps := 1000000) [ty49, hnx3]; rfl) ?_)
  refine vops_nil ?_
  have hb5 := at_add_self m3 ⟨49, [.int .i64 0, .int .i64 0, .int .i64 0, .int .i64 0], 0⟩ hnx3
  have hF4 := Fr.add (S := S0) m3 ⟨49, [.int .i64 0, .int .i64 0, .int .i64 0, .int .i64 0], 0⟩ hnx3
  have hn4 : (m3.add ⟨49, [.int .i64 0, .int .i64 0, .int .i64 0, .int .i64 0], 0⟩).next = m3.next + 1 := rfl
  have hb44 := hF4.keep _ _ hb43 rfl
  have ha24 := hF4.keep _ _ ha23 rfl
  have hA4 := hA3.fr hF4 rfl
  have hF04 := hF03.trans hF4 (Nat.le_refl _)
  show vwp _ _ _ ⟨58, 59, _, m3.add ⟨49, [.int .i64 0, .int .i64 0, .int .i64 0, .int .i64 0], 0⟩⟩
  generalize m3.add ⟨49, [.int .i64 0, .int .i64 0, .int .i64 0, .int .i64 0], 0⟩ = m4 at *
  refine vwp_seq (vwp_seq ?_)
  refine vwp_region ?_
  iterate 1 (refine vops_cons (n := 0) (by simp (maxSteps := 1000000) []; rfl) ?_)
  refine vops_nil ?_
  refine vwp_block ?_
  have hil : IsL (some bs) 1000000 := fun b h => by cases h; omega
  refine (four_loop m m1.next m3.next (by omega) (by omega) (by omega) 4 0 (some bs) [] [v, .bool false] _ m4 rfl rfl hil hA4 hb44 hb5 (hF04.le (by omega)) (by simp) (by simp) (by simp)).mono ?_
  rintro ex st ⟨rfl, sl5, m5, cs5, rfl, hK5, hA5, hd4, hd5, hF05, hkeep5⟩
  have k2 := hK5 2 (by simp); have k4 := hK5 4 (by simp); have k5 := hK5 5 (by simp)
  simp at k2 k4 k5
  clear hK5
  have hd2 := hkeep5 _ _ ha24 (by omega) (by omega)
  have l1 := isl_num (most := mostN) hil
  have l2 := isl_num (most := mostN) l1
  have l3 := isl_num (most := mostN) l2
  have l4 := isl_num (most := mostN) l3
  have hD : dNums 4 (some bs) = ([(dNum mostN (some bs)).1, (dNum mostN (dNum mostN (some bs)).2).1, (dNum mostN (dNum mostN (dNum mostN (some bs)).2).2).1, (dNum mostN (dNum mostN (dNum mostN (dNum mostN (some bs)).2).2).2).1], (dNum mostN (dNum mostN (dNum mostN (dNum mostN (some bs)).2).2).2).2) := rfl
  rw [hD] at hA5 hd5
  clear hD hkeep5
  have cn := @count_of_num (dNum mostN (dNum mostN (dNum mostN (some bs)).2).2).2 200 (by decide) (by decide)
  have cn' := @count_not_num (dNum mostN (dNum mostN (dNum mostN (some bs)).2).2).2 200 (by decide) (by decide)
  generalize h1 : dNum mostN (some bs) = c at *
  generalize h2 : dNum mostN c.2 = s at *
  generalize h3 : dNum mostN s.2 = cap at *
  generalize h4 : dNum mostN cap.2 = n at *
  have hd5' : m5.at m3.next ⟨49, [.int .i64 c.1, .int .i64 s.1, .int .i64 cap.1, .int .i64 n.1], 0⟩ := hd5
  clear hd5
  have hmx5 := hF05.most
  have hnx5 : m5.next < 1048576 := by omega
  have e0 := ea49 m3.next 0 (by decide)
  have e1 := ea49 m3.next 1 (by decide)
  have e2 := ea49 m3.next 2 (by decide)
  have e3 := ea49 m3.next 3 (by decide)
  have hb2lt : m5.next ≠ m.next := by have := hd2.1; omega
  have hb4lt : m5.next ≠ m1.next := by have := hd4.1; omega
  have hup5 := hF05.up
  refine vwp_seq (vwp_region ?_)
  iterate 8 (refine vops_cons (n := 0) (by simp (maxSteps := 1000000) [k5, ty2, ty3, ty127, hd5'.2, nl0, nl1, nl2, e0, e1, e2, buildVal, structPlace, hnx5]; rfl) ?_)
  have hz7 := at_add_self m5 ⟨127, [.int .i64 0, .int .i64 0, .int .i64 0, .nil true], 0⟩ hnx5
  have hF6 := Fr.add (S := S0) m5 ⟨127, [.int .i64 0, .int .i64 0, .int .i64 0, .nil true], 0⟩ hnx5
  have hn6 : (m5.add ⟨127, [.int .i64 0, .int .i64 0, .int .i64 0, .nil true], 0⟩).next = m5.next + 1 := rfl
  generalize m5.add ⟨127, [.int .i64 0, .int .i64 0, .int .i64 0, .nil true], 0⟩ = m6 at *
  have hnx6 : m6.next ≤ 1048576 := by omega
  iterate 1 (refine vops_cons (n := 0) (by simp (maxSteps := 1000000) [ty127, hz7.2]; rfl) ?_)
  show vops _ _ _ _ ⟨58, 59, _, m6.upd m5.next ⟨127, [.int .i64 c.1, .int .i64 s.1, .int .i64 cap.1, .nil true], 0⟩⟩
  have hF7 : Fr S0 m5 (m6.upd m5.next ⟨127, [.int .i64 c.1, .int .i64 s.1, .int .i64 cap.1, .nil true], 0⟩) 1 := hF6.updNew hz7 hnx6 (Nat.le_refl _) _
  have hb7 := at_upd_self hz7 hnx6 ⟨127, [.int .i64 c.1, .int .i64 s.1, .int .i64 cap.1, .nil true], 0⟩
  have hn7 : (m6.upd m5.next ⟨127, [.int .i64 c.1, .int .i64 s.1, .int .i64 cap.1, .nil true], 0⟩).next = m6.next := rfl
  generalize m6.upd m5.next ⟨127, [.int .i64 c.1, .int .i64 s.1, .int .i64 cap.1, .nil true], 0⟩ = m7 at *
  have hA7 := hA5.fr hF7 rfl
  have hd27 := hF7.keep _ _ hd2 rfl
  have hd47 := hF7.keep _ _ hd4 rfl
  have hd57 := hF7.keep _ _ hd5' rfl
  have hF07 := hF05.trans hF7 (Nat.le_refl _)
  have hnx7 : m7.next ≤ 1048576 := by omega
  refine vops_nil (vwp_seq (vwp_seq ?_))
  have bad : dScript bs = none → ∀ (sl : Slots) (K : St → Prop), sget sl 2 = .ptr m.next 4 0 → vwp ES bad58 (Ex.thenV (fun ex st' => (ex = .normal ∨ ex = .ret) ∧ ∃ vs, resultVals ES st' [.cell 2 127, .tmp 3] = some vs ∧ (∃ cs e, oneOr vs = .tup [.agg cs, .int .i64 e] ∧ Fr S0 m st'.mem 250000 ∧ (match dScript bs with
      | some x => e = 0 ∧ ScrR st'.mem 115 cs x
      | none => e = 2 ∧ cs = [.int .i64 0, .int .i64 0, .int .i64 0, .nil true]))) K) ⟨58, 59, sl, m7⟩ := by
    intro hd sl K s2
    unfold bad58 f58
    refine vwp_seq (vwp_region ?_)
    iterate 3 (refine vops_cons (n := 0) (by simp (maxSteps := 1000000) [s2, ty127, buildVal, structPlace, hd27.2]; rfl) ?_)
    have hr := at_upd_self hd27 hnx7 ⟨127, [.int .i64 0, .int .i64 0, .int .i64 0, .nil true], 0⟩
    rw [hd]
    exact vops_nil (vwp_ret ⟨.inr rfl, _, by simp [resultVals, s2, ty127, hr.2]; rfl, _, _, rfl, (hF07.updNew hd27 hnx7 (Nat.le_refl _) _).le (by decide), rfl, rfl⟩)
  have none_of : (dCount 200 cap.2).2 = none → dScript bs = none := by
    intro h
    have hE := dScriptI_eq h1 h2 h3 rfl rfl
    unfold dScript
    rw [hE, h, dSteps_none]
  by_cases d0 : n.1 < 0
  · skip
    refine vwp_region ?_
    iterate 8 (refine vops_cons (n := 0) (by simp (maxSteps := 1000000) [k5, ty2, hd57.2, nl3, e3, d0]; rfl) ?_)
    refine vops_nil ?_
    refine vwp_cond (t := true) (by simp [St.ev, St.slot_mk, sget_put]) ?_
    refine bad (none_of (cn' (by omega))) _ _ ?_
    simp [k2]
  by_cases d1 : 200 < n.1
  · skip
    refine vwp_region ?_
    iterate 8 (refine vops_cons (n := 0) (by simp (maxSteps := 1000000) [k5, ty2, hd57.2, nl3, e3, d0, d1]; rfl) ?_)
    refine vops_nil ?_
    refine vwp_cond (t := true) (by simp [St.ev, St.slot_mk, sget_put]) ?_
    refine bad (none_of (cn' (by omega))) _ _ ?_
    simp [k2]
  have hcn := cn ⟨by omega, by omega⟩
  obtain ⟨nn, hnn⟩ := Int.eq_ofNat_of_zero_le (show 0 ≤ n.1 by omega)
  have hnt : n.1.toNat = nn := by omega
  rw [hnt] at hcn
  refine vwp_region ?_
  iterate 8 (refine vops_cons (n := 0) (by simp (maxSteps := 1000000) [k5, ty2, hd57.2, nl3, e3, d0, d1]; rfl) ?_)
  refine vops_nil ?_
  refine vwp_cond (t := false) (by simp [St.ev, St.slot_mk, sget_put]) (vwp_skip ?_)
  rw [hnn] at hd57
  refine vwp_seq (vwp_seq ?_)
  refine vwp_region ?_
  iterate 3 (refine vops_cons (n := 0) (by simp (maxSteps := 1000000) [k5, ty2, hd57.2, nl3, e3]; rfl) ?_)
  refine vops_nil ?_
  refine vwp_block ?_
  have hE := dScriptI_eq h1 h2 h3 hcn rfl
  refine (refDec_loop m1.next m5.next nn m ⟨c.1, s.1, cap.1, []⟩ (dSteps nn n.2) (by omega) (by omega) (by omega) (by omega) nn 0 n.2 [] (.nil true) cs5 _ m7 (by omega) rfl l4 (.inr rfl) rfl hA7 hd47 (hF07.le (by omega)) hb7 (GStepsR.nil _ _) (NewR.nil _ _) (by simp [k4]) (by simp) (by simp) (by simp)).mono ?_
  rintro ex st ⟨rfl, sl8, m8, w', cs8, l', rfl, hK8, hA8, hl8, hd48, hF08, hG8, hb78, hkeep8⟩
  have q2 := hK8 2 (by simp); have q4 := hK8 4 (by simp); have q7 := hK8 7 (by simp)
  simp [k2, k4] at q2 q4 q7
  clear hK8
  have hd28 := hkeep8 _ _ hd27 (by omega) (by omega) (by decide)
  clear hkeep8
  generalize h5 : dSteps nn n.2 = L at *
  have hmx8 := hF08.most
  obtain ⟨v8, b8, bs8, rfl, hv8, hvc8, _, _⟩ := hA8.view
  refine vwp_seq (vwp_seq (vwp_region ?_))
  iterate 1 (refine vops_cons (n := 0) (by simp (maxSteps := 1000000) [q4, ty180, hd48.2]; rfl) ?_)
  refine vops_callv (g := 78) (first := []) (cap := []) (avs := [.agg [v8, .bool b8]]) rfl rfl rfl (by simp) ?_
  refine (refDone_ok (m := m8) hA8 (by omega)).mono fun r m9 hr => ?_
  obtain ⟨rfl, hF9⟩ := hr
  have hmx9 := hF9.most
  have hn9 : m9.next ≤ 1048576 := by omega
  have hd29 := hF9.keep _ _ hd28 rfl
  have hb79 := hF9.keep _ _ hb78 rfl
  have hG9 := hG8.fr hF9 rfl rfl
  have hF09 := hF08.trans hF9 (Nat.le_refl _)
  by_cases hdn : L.2 = some []
  · have hS : dScript bs = some ⟨c.1, s.1, cap.1, L.1⟩ := by unfold dScript; rw [hE, hdn]
    have hll : l' = L.1 := by
      rcases hl8 with h | h
      · rw [hdn] at h; cases h
      · exact h
    rw [show isDone L.2 = true by rw [hdn]; rfl, hS]
    refine ⟨_, by simp; rfl, ?_⟩
    iterate 1 (refine vops_cons (n := 0) (by simp (maxSteps := 1000000) []; rfl) ?_)
    refine vops_nil (vwp_cond (t := false) (by simp [St.ev, St.slot_mk, sget_put]) (vwp_skip ?_))
    refine vwp_seq (vwp_region ?_)
    have hpc := hG9.cl
    iterate 3 (refine vops_cons (n := 0) (by simp (maxSteps := 1000000) [q7, q2, ty127, hb79.2, hd29.2, hpc]; rfl) ?_)
    have hr := at_upd_self hd29 hn9 ⟨127, [.int .i64 c.1, .int .i64 s.1, .int .i64 cap.1, w'], 0⟩
    refine vops_nil (vwp_ret ⟨.inr rfl, _, by simp [resultVals, q2, ty127, hr.2]; rfl, _, _, rfl, (hF09.updNew hd29 hn9 (Nat.le_refl _) _).le (by omega), rfl, w', rfl, ?_⟩)
    rw [← hll]
    exact hG9.steps.fr (Fr.upd (S := S127) hd29 hn9 rfl _) rfl rfl
  · have hS : dScript bs = none := by
      unfold dScript; rw [hE]
      rcases L with ⟨l1, _ | ⟨_ | ⟨b, r⟩⟩⟩
      · rfl
      · exact absurd rfl hdn
      · rfl
    have hq : isDone L.2 = false := by
      rcases L with ⟨l1, _ | ⟨_ | ⟨b, r⟩⟩⟩
      · rfl
      · exact absurd rfl hdn
      · rfl
    rw [hq, hS]
    refine ⟨_, by simp; rfl, ?_⟩
    iterate 1 (refine vops_cons (n := 0) (by simp (maxSteps := 1000000) []; rfl) ?_)
    refine vops_nil (vwp_cond (t := true) (by simp [St.ev, St.slot_mk, sget_put]) ?_)
    refine vwp_seq (vwp_region ?_)
    iterate 3 (refine vops_cons (n := 0) (by simp (maxSteps := 1000000) [q2, ty127, buildVal, structPlace, hd29.2]; rfl) ?_)
    have hr := at_upd_self hd29 hn9 ⟨127, [.int .i64 0, .int .i64 0, .int .i64 0, .nil true], 0⟩
    exact vops_nil (vwp_ret ⟨.inr rfl, _, by simp [resultVals, q2, ty127, hr.2]; rfl, _, _, rfl, (hF09.updNew hd29 hn9 (Nat.le_refl _) _).le (by omega), rfl, rfl⟩)
end Go.Proofs.Tryz
