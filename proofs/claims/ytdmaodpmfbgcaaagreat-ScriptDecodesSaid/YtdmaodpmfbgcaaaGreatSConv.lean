/-
  Scripts turned from one side's types to the other's, on the abstract machine.
-/
import Derived.Test.YtdmaodpmfbgcaaaGreatSDec
set_option maxRecDepth 100000
namespace Go.Proofs.Tryz
open Go Go.V Go.SC
attribute [local simp] runOp wanted isHeavy light St.ev St.slot_mk sget_put St.put_mk cl_int cl_bool cl_str cl_ptr cl_nil cl_ref cl_imm cl_agg cl_nilp NewV.at nblt nble nbeq ofConst ofConst1 fieldOf sh_ptr sh_iptr rc_ptr rc_iptr lget mkVal VD.isAgg lenOf bin ar_add ar_sub ar_mul ar_eql ar_neq ar_lss ar_leq ar_gtr ar_geq argSlots un heavy writeCells lput eqVals next_add next_upd fillA zeros natOf_cast natOf_succ
def S127 : TypeId → Bool := fun t => Nat.beq t 127
theorem plan50 : ES.plans.get 204805 = some [.run 0, .run 1, .run 2, .run 3, .run 4, .run 5, .run 6, .run 7, .run 8, .run 9, .run 10] := by kernel_rfl
theorem plan57 : ES.plans.get 233477 = some [.run 0, .run 1, .run 2, .run 3, .run 4, .run 5, .run 6, .run 7, .run 8, .run 9, .run 10] := by kernel_rfl

theorem fns50 : ES.fns.get 50 = some f50 := by kernel_rfl
theorem vntmps50 : f50.ntmps = 30 := by kernel_rfl
theorem vresults50 : f50.results.toList = [.cell 2 130] := by kernel_rfl
theorem body50 : f50.body = some ((f50.body).getD .skip) := by kernel_rfl
noncomputable def loop50 : Code := match f50.body with
  | some (.seq _ (.seq _ (.seq (.seq _ (.block _ l)) _))) => l
  | _ => .skip

theorem to_loop (b1 b3 : Nat) (m : Mem) (x : LScript) (w : AVal) (hw : StepsR m 115 w x.steps) (hb1 : m.at b1 ⟨127, [.int .i64 x.c, .int .i64 x.s, .int .i64 x.cap, w], 0⟩) (hm : m.next ≤ 700000) (hlen : x.steps.length ≤ 1000) (hb3 : m.next ≤ b3) :
    ∀ (j k : Nat) (v : AVal) (sl : Slots) (mm : Mem), k + j = x.steps.length → Fr S0 m mm (2 + 2 * k) → mm.at b3 ⟨130, [.int .i64 x.c, .int .i64 x.s, .int .i64 x.cap, v], 0⟩ → GStepsR mm 119 v (x.steps.take k) → NewR m v →
      sget sl 1 = .ptr b1 4 0 → sget sl 3 = .ptr b3 4 0 → sget sl 14 = .int .i64 (x.steps.length : Nat) → sget sl 15 = .int .i64 (k : Nat) →
    vwp ES loop50 (fun ex s => ex = .exit 0 ∧ ∃ sl' mm' v', s = ⟨50, 30, sl', mm'⟩ ∧ sget sl' 3 = .ptr b3 4 0 ∧ sget sl' 2 = sget sl 2 ∧ Fr S0 m mm' (2 + 2 * x.steps.length) ∧ GStepsR mm' 119 v' x.steps ∧ mm'.at b3 ⟨130, [.int .i64 x.c, .int .i64 x.s, .int .i64 x.cap, v'], 0⟩) ⟨50, 30, sl, mm⟩ := by
  intro j
  induction j with
  | zero =>
    intro k v sl mm hij hF hb hG hNew s1 s3 s14 s15
    obtain rfl : k = x.steps.length := by omega
    unfold loop50 f50
    refine vwp_loop (vwp_seq ?_)
    refine vwp_region ?_
    iterate 1 (refine vops_cons (n := 0) (by simp (maxSteps := 1000000) [s14, s15]; rfl) ?_)
    refine vops_nil ?_
    refine vwp_seq (vwp_cond (t := false) (by simp [St.ev, St.slot_mk, sget_put]) (vwp_exit ?_))
    rw [List.take_length] at hG
    exact ⟨rfl, _, mm, v, rfl, by simp [s3], by simp, hF, hG, hb⟩
  | succ j ih =>
    intro k v sl mm hij hF hb hG hNew s1 s3 s14 s15
    have hk : k < x.steps.length := by omega
    have hk' : (k : Int) < (x.steps.length : Int) := by omega
    have hmx := hF.most
    have hpc := hG.cl
    have hb1' := hF.keep b1 _ hb1 rfl
    obtain ⟨y, hy⟩ : ∃ y, x.steps[k]? = some y := ⟨x.steps[k], List.getElem?_eq_getElem hk⟩
    have htk : x.steps.take (k + 1) = x.steps.take k ++ [y] := by rw [List.take_add_one, hy]; rfl
    obtain ⟨els, hs, hsl, hse⟩ := hw.fr hF rfl rfl
    obtain ⟨cs, hcs1, hX⟩ := hse k y hy
    have hwc := hs.cl
    obtain ⟨q, hA, hR⟩ := hs.elem (E := ES) ty125 rfl ty115 rfl (by decide) hcs1
    have hcs : cs.length = 9 := by obtain ⟨p, rfl, _⟩ := hX; rfl
    unfold loop50 f50
    refine vwp_loop (vwp_seq ?_)
    refine vwp_region ?_
    iterate 1 (refine vops_cons (n := 0) (by simp (maxSteps := 1000000) [s14, s15, hk']; rfl) ?_)
    refine vops_nil ?_
    refine vwp_seq (vwp_cond (t := true) (by simp [St.ev, St.slot_mk, sget_put]) (vwp_skip ?_))
    refine vwp_seq (vwp_block (vwp_seq ?_))
    refine vwp_region ?_
    iterate 2 (refine vops_cons (n := 0) (by simp (maxSteps := 1000000) [s15]; rfl) ?_)
    refine vops_nil ?_
    refine vwp_draw plan50 rfl ?_
    iterate 6 (refine vpl_run (n := 0) rfl (by simp (maxSteps := 1000000) [s1, s3, ty130, ty128, ty127, ty125, hb.2, hb1'.2, hA]; rfl) ?_)
    refine vpl_load (cs := cs) (v := .agg cs) rfl rfl rfl ty115 (by simp; exact hR) rfl ⟨_, by simp; rfl, ?_⟩
    have hnx : mm.next < 1048576 := by omega
    have hlp : lput [.int .i64 0, .int .i64 0, .int .i64 0, .int .i64 0, .int .u8 0, .nil true, .int .i64 0, .str ⟨#[]⟩, .int .i64 0] 0 cs = cs := by
      obtain ⟨p, rfl, _⟩ := hX; rfl
    refine vpl_run (n := 0) (s := ⟨50, 30, _, mm.add ⟨119, cs, 0⟩⟩) rfl (by simp (maxSteps := 1000000) [ty128, ty119, hnx, hcs, hlp, -lput]; rfl) ?_
    have hadd := Fr.add (S := S0) mm ⟨119, cs, 0⟩ hnx
    have hG2 := hG.fr hadd rfl rfl
    have hFm : Fr S0 m (mm.add ⟨119, cs, 0⟩) (2 + 2 * k + 1) := hF.trans hadd (Nat.le_refl _)
    obtain ⟨v', m2, hap, hG3, hv1, hv2, hkk, href, hfr⟩ := hG2.append (ve := ⟨.struct [(3, 0), (3, 1), (3, 2), (3, 3), (5, 4), (65, 5)], 9, 96, [.int .i64 0, .int .i64 0, .int .i64 0, .int .i64 0, .int .u8 0, .nil true, .int .i64 0, .str ⟨#[]⟩, .int .i64 0], none⟩) rfl (by decide) (hX.fr hadd rfl) (by rw [next_add]; omega) (by rw [List.length_take]; omega)
    rw [← htk] at hG3
    have hFm2 : Fr S0 m m2 (2 + 2 * k + 1 + 1) := hFm.growNew hv1 hv2 hkk hNew
    have hNew' := hNew.grow hFm href
    rw [next_add] at hv1 hv2
    have hb2 := (hfr (fun t => Nat.beq t 119) rfl).keep b3 _ (at_add _ hnx hb) rfl
    refine vpl_append (v' := v') (m' := m2) rfl rfl rfl rfl rfl ty128 rfl ty119 rfl (k := 1) (cs := cs) ?_ ?_ ⟨_, by simp; rfl, ?_⟩
    · simp [appended, ty128, ty119, sliceLen, sliceCells, get_add_self _ _ hnx, hcs, List.take_of_length_le (Nat.le_of_eq hcs)]
    · simp; exact hap
    have hp'c := hG3.cl
    iterate 2 (refine vpl_run (n := 0) rfl (by simp (maxSteps := 1000000) [s3, ty130, ty128, hb2.2, hp'c]; rfl) ?_)
    refine vpl_nil ?_
    refine vwp_region ?_
    iterate 2 (refine vops_cons (n := 0) (by simp (maxSteps := 1000000) [s15, wrap_up (show k < 1000000000 by omega)]; rfl) ?_)
    refine vops_nil ?_
    have hn2 : m2.next ≤ 1048576 := by omega
    have hup := Fr.upd (S := fun t => Nat.beq t 130) hb2 hn2 rfl ⟨130, [.int .i64 x.c, .int .i64 x.s, .int .i64 x.cap, v'], 0⟩
    refine (ih (k + 1) v' _ _ (by omega) ((hFm2.updNew hb2 hn2 hb3 _).le (by omega)) (at_upd_self hb2 hn2 _) (hG3.fr hup rfl rfl) hNew' (by simp [s1]) (by simp [s3]) (by simp [s14]) (by simp)).mono ?_
    rintro ex s ⟨rfl, sl', mm', p2, rfl, a1, a3, a5, a6, a8⟩
    exact ⟨rfl, sl', mm', p2, rfl, a1, by rw [a3]; simp, a5, a6, a8⟩

theorem to_ok {m : Mem} {cs : List AVal} {x : LScript} (h : ScrR m 115 cs x) (hlen : x.steps.length ≤ 1000) (hn : m.next ≤ 600000) :
    vcall ES 50 [.agg cs] m fun r m' => ∃ cs', r = .agg cs' ∧ ScrR m' 119 cs' x ∧ Fr S0 m m' (6 + 2 * x.steps.length) := by
  obtain ⟨w, rfl, hw⟩ := h
  have hnx : m.next < 1048576 := by omega
  have hwl := hw.len
  have hwc : AVal.cells? w = some [w] := by obtain ⟨els, h1, _⟩ := hw; exact h1.cl
  have ha1 := at_add_self m ⟨127, [.int .i64 x.c, .int .i64 x.s, .int .i64 x.cap, w], 0⟩ hnx
  have hF1 := Fr.add (S := S0) m ⟨127, [.int .i64 x.c, .int .i64 x.s, .int .i64 x.cap, w], 0⟩ hnx
  have hn1 : (m.add ⟨127, [.int .i64 x.c, .int .i64 x.s, .int .i64 x.cap, w], 0⟩).next = m.next + 1 := rfl
  have hw1 := hw.fr hF1 rfl rfl
  refine vcall_body (fn := f50) (c := ((f50.body).getD .skip)) rfl fns50 body50 (by rw [vntmps50]; show 1 ≤ 30; decide) (by rw [vntmps50]; decide) ?_
  rw [vntmps50]
  simp only [vresults50]
  unfold f50
  simp only [Option.getD_some]
  refine vwp_seq (vwp_region ?_)
  iterate 1 (refine vops_cons (n := 0) (by simp (maxSteps := 1000000) [hnx]; rfl) ?_)
  show vops _ _ _ _ ⟨50, 30, _, m.add ⟨127, [.int .i64 x.c, .int .i64 x.s, .int .i64 x.cap, w], 0⟩⟩
  generalize m.add ⟨127, [.int .i64 x.c, .int .i64 x.s, .int .i64 x.cap, w], 0⟩ = m1 at *
  have hnx1 : m1.next < 1048576 := by omega
  iterate 1 (refine vops_cons (n := 0) (by simp (maxSteps := 1000000) [ty130, hnx1]; rfl) ?_)
  have ha2 := at_add_self m1 ⟨130, [.int .i64 0, .int .i64 0, .int .i64 0, .nil true], 0⟩ hnx1
  have hF2 := Fr.add (S := S0) m1 ⟨130, [.int .i64 0, .int .i64 0, .int .i64 0, .nil true], 0⟩ hnx1
  have hn2 : (m1.add ⟨130, [.int .i64 0, .int .i64 0, .int .i64 0, .nil true], 0⟩).next = m1.next + 1 := rfl
  have hw2 := hw1.fr hF2 rfl rfl
  have ha1' := at_add ⟨130, [.int .i64 0, .int .i64 0, .int .i64 0, .nil true], 0⟩ hnx1 ha1
  generalize m1.add ⟨130, [.int .i64 0, .int .i64 0, .int .i64 0, .nil true], 0⟩ = m2 at *
  refine vops_nil (vwp_seq (vwp_region ?_))
  iterate 7 (refine vops_cons (n := 0) (by simp (maxSteps := 1000000) [ty127, ty3, ty130, buildVal, structPlace, ha1'.2]; rfl) ?_)
  have hnx2 : m2.next < 1048576 := by omega
  iterate 1 (refine vops_cons (n := 0) (by simp (maxSteps := 1000000) [ty130, hnx2]; rfl) ?_)
  have hz := at_add_self m2 ⟨130, [.int .i64 0, .int .i64 0, .int .i64 0, .nil true], 0⟩ hnx2
  have hF3 := Fr.add (S := S0) m2 ⟨130, [.int .i64 0, .int .i64 0, .int .i64 0, .nil true], 0⟩ hnx2
  have hn3 : (m2.add ⟨130, [.int .i64 0, .int .i64 0, .int .i64 0, .nil true], 0⟩).next = m2.next + 1 := rfl
  generalize m2.add ⟨130, [.int .i64 0, .int .i64 0, .int .i64 0, .nil true], 0⟩ = m3 at *
  have hnx3 : m3.next ≤ 1048576 := by omega
  iterate 1 (refine vops_cons (n := 0) (by simp (maxSteps := 1000000) [ty130, hz.2]; rfl) ?_)
  show vops _ _ _ _ ⟨50, 30, _, m3.upd m2.next ⟨130, [.int .i64 x.c, .int .i64 x.s, .int .i64 x.cap, .nil true], 0⟩⟩
  have hF4 : Fr S0 m2 (m3.upd m2.next ⟨130, [.int .i64 x.c, .int .i64 x.s, .int .i64 x.cap, .nil true], 0⟩) 1 := hF3.updNew hz hnx3 (Nat.le_refl _) _
  have hb4 := at_upd_self hz hnx3 ⟨130, [.int .i64 x.c, .int .i64 x.s, .int .i64 x.cap, .nil true], 0⟩
  generalize m3.upd m2.next ⟨130, [.int .i64 x.c, .int .i64 x.s, .int .i64 x.cap, .nil true], 0⟩ = m4 at *
  have ha14 := hF4.keep _ _ ha1' rfl
  refine vops_nil (vwp_seq (vwp_seq ?_))
  refine vwp_region ?_
  iterate 4 (refine vops_cons (n := 0) (by simp (maxSteps := 1000000) [ty127, ty125, ha14.2, hwl, hwc]; rfl) ?_)
  refine vops_nil ?_
  refine vwp_block ?_
  refine (to_loop m.next m2.next m2 x w hw2 ha1' (by omega) hlen (Nat.le_refl _) x.steps.length 0 (.nil true) _ m4 (by omega) (hF4.le (by omega)) hb4 (GStepsR.nil _ _) (NewR.nil _ _) (by simp) (by simp) (by simp) (by simp)).mono ?_
  rintro ex st ⟨rfl, sl, m5, v', rfl, s3, s2, hF5, hG5, hb5⟩
  have s2' : sget sl 2 = .ptr m1.next 4 0 := by rw [s2]; simp
  have ha5 := hF5.keep _ _ ha2 rfl
  have hmx5 := hF5.most
  have hn5 : m5.next ≤ 1048576 := by omega
  have hpc := hG5.cl
  refine vwp_seq (vwp_region ?_)
  iterate 2 (refine vops_cons (n := 0) (by simp (maxSteps := 1000000) [s3, s2', ty130, hb5.2, ha5.2, hpc]; rfl) ?_)
  have ha6 := at_upd_self ha5 hn5 ⟨130, [.int .i64 x.c, .int .i64 x.s, .int .i64 x.cap, v'], 0⟩
  refine vops_nil (vwp_ret ⟨.inr rfl, _, by simp [resultVals, s2', ty130, ha6.2]; rfl, _, rfl, ⟨v', rfl, ?_⟩, ?_⟩)
  · exact hG5.steps.fr (Fr.upd (S := fun t => Nat.beq t 130) ha5 hn5 rfl _) rfl rfl
  · exact ((hF1.trans (hF2.trans hF5 (Nat.le_refl _)) (Nat.le_refl _)).updNew ha5 hn5 (by omega) _).le (by omega)

theorem fns57 : ES.fns.get 57 = some f57 := by kernel_rfl
theorem vntmps57 : f57.ntmps = 30 := by kernel_rfl
theorem vresults57 : f57.results.toList = [.cell 2 127] := by kernel_rfl
theorem body57 : f57.body = some ((f57.body).getD .skip) := by kernel_rfl
noncomputable def loop57 : Code := match f57.body with
  | some (.seq _ (.seq _ (.seq (.seq _ (.block _ l)) _))) => l
  | _ => .skip

theorem of_loop (b1 b3 : Nat) (m : Mem) (x : LScript) (w : AVal) (hw : StepsR m 119 w x.steps) (hb1 : m.at b1 ⟨130, [.int .i64 x.c, .int .i64 x.s, .int .i64 x.cap, w], 0⟩) (hm : m.next ≤ 700000) (hlen : x.steps.length ≤ 1000) (hb3 : m.next ≤ b3) :
    ∀ (j k : Nat) (v : AVal) (sl : Slots) (mm : Mem), k + j = x.steps.length → Fr S0 m mm (2 + 2 * k) → mm.at b3 ⟨127, [.int .i64 x.c, .int .i64 x.s, .int .i64 x.cap, v], 0⟩ → GStepsR mm 115 v (x.steps.take k) → NewR m v →
      sget sl 1 = .ptr b1 4 0 → sget sl 3 = .ptr b3 4 0 → sget sl 14 = .int .i64 (x.steps.length : Nat) → sget sl 15 = .int .i64 (k : Nat) →
    vwp ES loop57 (fun ex s => ex = .exit 0 ∧ ∃ sl' mm' v', s = ⟨57, 30, sl', mm'⟩ ∧ sget sl' 3 = .ptr b3 4 0 ∧ sget sl' 2 = sget sl 2 ∧ Fr S0 m mm' (2 + 2 * x.steps.length) ∧ GStepsR mm' 115 v' x.steps ∧ mm'.at b3 ⟨127, [.int .i64 x.c, .int .i64 x.s, .int .i64 x.cap, v'], 0⟩) ⟨57, 30, sl, mm⟩ := by
  intro j
  induction j with
  | zero =>
    intro k v sl mm hij hF hb hG hNew s1 s3 s14 s15
    obtain rfl : k = x.steps.length := by omega
    unfold loop57 f57
    refine vwp_loop (vwp_seq ?_)
    refine vwp_region ?_
    iterate 1 (refine vops_cons (n := 0) (by simp (maxSteps := 1000000) [s14, s15]; rfl) ?_)
    refine vops_nil ?_
    refine vwp_seq (vwp_cond (t := false) (by simp [St.ev, St.slot_mk, sget_put]) (vwp_exit ?_))
    rw [List.take_length] at hG
    exact ⟨rfl, _, mm, v, rfl, by simp [s3], by simp, hF, hG, hb⟩
  | succ j ih =>
    intro k v sl mm hij hF hb hG hNew s1 s3 s14 s15
    have hk : k < x.steps.length := by omega
    have hk' : (k : Int) < (x.steps.length : Int) := by omega
    have hmx := hF.most
    have hpc := hG.cl
    have hb1' := hF.keep b1 _ hb1 rfl
    obtain ⟨y, hy⟩ : ∃ y, x.steps[k]? = some y := ⟨x.steps[k], List.getElem?_eq_getElem hk⟩
    have htk : x.steps.take (k + 1) = x.steps.take k ++ [y] := by rw [List.take_add_one, hy]; rfl
    obtain ⟨els, hs, hsl, hse⟩ := hw.fr hF rfl rfl
    obtain ⟨cs, hcs1, hX⟩ := hse k y hy
    have hwc := hs.cl
    obtain ⟨q, hA, hR⟩ := hs.elem (E := ES) ty128 rfl ty119 rfl (by decide) hcs1
    have hcs : cs.length = 9 := by obtain ⟨p, rfl, _⟩ := hX; rfl
    unfold loop57 f57
    refine vwp_loop (vwp_seq ?_)
    refine vwp_region ?_
    iterate 1 (refine vops_cons (n := 0) (by simp (maxSteps := 1000000) [s14, s15, hk']; rfl) ?_)
    refine vops_nil ?_
    refine vwp_seq (vwp_cond (t := true) (by simp [St.ev, St.slot_mk, sget_put]) (vwp_skip ?_))
    refine vwp_seq (vwp_block (vwp_seq ?_))
    refine vwp_region ?_
    iterate 2 (refine vops_cons (n := 0) (by simp (maxSteps := 1000000) [s15]; rfl) ?_)
    refine vops_nil ?_
    refine vwp_draw plan57 rfl ?_
    iterate 6 (refine vpl_run (n := 0) rfl (by simp (maxSteps := 1000000) [s1, s3, ty127, ty125, ty130, ty128, hb.2, hb1'.2, hA]; rfl) ?_)
    refine vpl_load (cs := cs) (v := .agg cs) rfl rfl rfl ty119 (by simp; exact hR) rfl ⟨_, by simp; rfl, ?_⟩
    have hnx : mm.next < 1048576 := by omega
    have hlp : lput [.int .i64 0, .int .i64 0, .int .i64 0, .int .i64 0, .int .u8 0, .nil true, .int .i64 0, .str ⟨#[]⟩, .int .i64 0] 0 cs = cs := by
      obtain ⟨p, rfl, _⟩ := hX; rfl
    refine vpl_run (n := 0) (s := ⟨57, 30, _, mm.add ⟨115, cs, 0⟩⟩) rfl (by simp (maxSteps := 1000000) [ty125, ty115, hnx, hcs, hlp, -lput]; rfl) ?_
    have hadd := Fr.add (S := S0) mm ⟨115, cs, 0⟩ hnx
    have hG2 := hG.fr hadd rfl rfl
    have hFm : Fr S0 m (mm.add ⟨115, cs, 0⟩) (2 + 2 * k + 1) := hF.trans hadd (Nat.le_refl _)
    obtain ⟨v', m2, hap, hG3, hv1, hv2, hkk, href, hfr⟩ := hG2.append (ve := ⟨.struct [(3, 0), (3, 1), (3, 2), (3, 3), (5, 4), (65, 5)], 9, 96, [.int .i64 0, .int .i64 0, .int .i64 0, .int .i64 0, .int .u8 0, .nil true, .int .i64 0, .str ⟨#[]⟩, .int .i64 0], none⟩) rfl (by decide) (hX.fr hadd rfl) (by rw [next_add]; omega) (by rw [List.length_take]; omega)
    rw [← htk] at hG3
    have hFm2 : Fr S0 m m2 (2 + 2 * k + 1 + 1) := hFm.growNew hv1 hv2 hkk hNew
    have hNew' := hNew.grow hFm href
    rw [next_add] at hv1 hv2
    have hb2 := (hfr (fun t => Nat.beq t 115) rfl).keep b3 _ (at_add _ hnx hb) rfl
    refine vpl_append (v' := v') (m' := m2) rfl rfl rfl rfl rfl ty125 rfl ty115 rfl (k := 1) (cs := cs) ?_ ?_ ⟨_, by simp; rfl, ?_⟩
    · simp [appended, ty125, ty115, sliceLen, sliceCells, get_add_self _ _ hnx, hcs, List.take_of_length_le (Nat.le_of_eq hcs)]
    · simp; exact hap
    have hp'c := hG3.cl
    iterate 2 (refine vpl_run (n := 0) rfl (by simp (maxSteps := 1000000) [s3, ty127, ty125, hb2.2, hp'c]; rfl) ?_)
    refine vpl_nil ?_
    refine vwp_region ?_
    iterate 2 (refine vops_cons (n := 0) (by simp (maxSteps := 1000000) [s15, wrap_up (show k < 1000000000 by omega)]; rfl) ?_)
    refine vops_nil ?_
    have hn2 : m2.next ≤ 1048576 := by omega
    have hup := Fr.upd (S := fun t => Nat.beq t 127) hb2 hn2 rfl ⟨127, [.int .i64 x.c, .int .i64 x.s, .int .i64 x.cap, v'], 0⟩
    refine (ih (k + 1) v' _ _ (by omega) ((hFm2.updNew hb2 hn2 hb3 _).le (by omega)) (at_upd_self hb2 hn2 _) (hG3.fr hup rfl rfl) hNew' (by simp [s1]) (by simp [s3]) (by simp [s14]) (by simp)).mono ?_
    rintro ex s ⟨rfl, sl', mm', p2, rfl, a1, a3, a5, a6, a8⟩
    exact ⟨rfl, sl', mm', p2, rfl, a1, by rw [a3]; simp, a5, a6, a8⟩

theorem of_ok {m : Mem} {cs : List AVal} {x : LScript} (h : ScrR m 119 cs x) (hlen : x.steps.length ≤ 1000) (hn : m.next ≤ 600000) :
    vcall ES 57 [.agg cs] m fun r m' => ∃ cs', r = .agg cs' ∧ ScrR m' 115 cs' x ∧ Fr S0 m m' (6 + 2 * x.steps.length) := by
  obtain ⟨w, rfl, hw⟩ := h
  have hnx : m.next < 1048576 := by omega
  have hwl := hw.len
  have hwc : AVal.cells? w = some [w] := by obtain ⟨els, h1, _⟩ := hw; exact h1.cl
  have ha1 := at_add_self m ⟨130, [.int .i64 x.c, .int .i64 x.s, .int .i64 x.cap, w], 0⟩ hnx
  have hF1 := Fr.add (S := S0) m ⟨130, [.int .i64 x.c, .int .i64 x.s, .int .i64 x.cap, w], 0⟩ hnx
  have hn1 : (m.add ⟨130, [.int .i64 x.c, .int .i64 x.s, .int .i64 x.cap, w], 0⟩).next = m.next + 1 := rfl
  have hw1 := hw.fr hF1 rfl rfl
  refine vcall_body (fn := f57) (c := ((f57.body).getD .skip)) rfl fns57 body57 (by rw [vntmps57]; show 1 ≤ 30; decide) (by rw [vntmps57]; decide) ?_
  rw [vntmps57]
  simp only [vresults57]
  unfold f57
  simp only [Option.getD_some]
  refine vwp_seq (vwp_region ?_)
  iterate 1 (refine vops_cons (n := 0) (by simp (maxSteps := 1000000) [hnx]; rfl) ?_)
  show vops _ _ _ _ ⟨57, 30, _, m.add ⟨130, [.int .i64 x.c, .int .i64 x.s, .int .i64 x.cap, w], 0⟩⟩
  generalize m.add ⟨130, [.int .i64 x.c, .int .i64 x.s, .int .i64 x.cap, w], 0⟩ = m1 at *
  have hnx1 : m1.next < 1048576 := by omega
  iterate 1 (refine vops_cons (n := 0) (by simp (maxSteps := 1000000) [ty127, hnx1]; rfl) ?_)
  have ha2 := at_add_self m1 ⟨127, [.int .i64 0, .int .i64 0, .int .i64 0, .nil true], 0⟩ hnx1
  have hF2 := Fr.add (S := S0) m1 ⟨127, [.int .i64 0, .int .i64 0, .int .i64 0, .nil true], 0⟩ hnx1
  have hn2 : (m1.add ⟨127, [.int .i64 0, .int .i64 0, .int .i64 0, .nil true], 0⟩).next = m1.next + 1 := rfl
  have hw2 := hw1.fr hF2 rfl rfl
  have ha1' := at_add ⟨127, [.int .i64 0, .int .i64 0, .int .i64 0, .nil true], 0⟩ hnx1 ha1
  generalize m1.add ⟨127, [.int .i64 0, .int .i64 0, .int .i64 0, .nil true], 0⟩ = m2 at *
  refine vops_nil (vwp_seq (vwp_region ?_))
  iterate 7 (refine vops_cons (n := 0) (by simp (maxSteps := 1000000) [ty130, ty3, ty127, buildVal, structPlace, ha1'.2]; rfl) ?_)
  have hnx2 : m2.next < 1048576 := by omega
  iterate 1 (refine vops_cons (n := 0) (by simp (maxSteps := 1000000) [ty127, hnx2]; rfl) ?_)
  have hz := at_add_self m2 ⟨127, [.int .i64 0, .int .i64 0, .int .i64 0, .nil true], 0⟩ hnx2
  have hF3 := Fr.add (S := S0) m2 ⟨127, [.int .i64 0, .int .i64 0, .int .i64 0, .nil true], 0⟩ hnx2
  have hn3 : (m2.add ⟨127, [.int .i64 0, .int .i64 0, .int .i64 0, .nil true], 0⟩).next = m2.next + 1 := rfl
  generalize m2.add ⟨127, [.int .i64 0, .int .i64 0, .int .i64 0, .nil true], 0⟩ = m3 at *
  have hnx3 : m3.next ≤ 1048576 := by omega
  iterate 1 (refine vops_cons (n := 0) (by simp (maxSteps := 1000000) [ty127, hz.2]; rfl) ?_)
  show vops _ _ _ _ ⟨57, 30, _, m3.upd m2.next ⟨127, [.int .i64 x.c, .int .i64 x.s, .int .i64 x.cap, .nil true], 0⟩⟩
  have hF4 : Fr S0 m2 (m3.upd m2.next ⟨127, [.int .i64 x.c, .int .i64 x.s, .int .i64 x.cap, .nil true], 0⟩) 1 := hF3.updNew hz hnx3 (Nat.le_refl _) _
  have hb4 := at_upd_self hz hnx3 ⟨127, [.int .i64 x.c, .int .i64 x.s, .int .i64 x.cap, .nil true], 0⟩
  generalize m3.upd m2.next ⟨127, [.int .i64 x.c, .int .i64 x.s, .int .i64 x.cap, .nil true], 0⟩ = m4 at *
  have ha14 := hF4.keep _ _ ha1' rfl
  refine vops_nil (vwp_seq (vwp_seq ?_))
  refine vwp_region ?_
  iterate 4 (refine vops_cons (n := 0) (by simp (maxSteps := 1000000) [ty130, ty128, ha14.2, hwl, hwc]; rfl) ?_)
  refine vops_nil ?_
  refine vwp_block ?_
  refine (of_loop m.next m2.next m2 x w hw2 ha1' (by omega) hlen (Nat.le_refl _) x.steps.length 0 (.nil true) _ m4 (by omega) (hF4.le (by omega)) hb4 (GStepsR.nil _ _) (NewR.nil _ _) (by simp) (by simp) (by simp) (by simp)).mono ?_
  rintro ex st ⟨rfl, sl, m5, v', rfl, s3, s2, hF5, hG5, hb5⟩
  have s2' : sget sl 2 = .ptr m1.next 4 0 := by rw [s2]; simp
  have ha5 := hF5.keep _ _ ha2 rfl
  have hmx5 := hF5.most
  have hn5 : m5.next ≤ 1048576 := by omega
  have hpc := hG5.cl
  refine vwp_seq (vwp_region ?_)
  iterate 2 (refine vops_cons (n := 0) (by simp (maxSteps := 1000000) [s3, s2', ty127, hb5.2, ha5.2, hpc]; rfl) ?_)
  have ha6 := at_upd_self ha5 hn5 ⟨127, [.int .i64 x.c, .int .i64 x.s, .int .i64 x.cap, v'], 0⟩
  refine vops_nil (vwp_ret ⟨.inr rfl, _, by simp [resultVals, s2', ty127, ha6.2]; rfl, _, rfl, ⟨v', rfl, ?_⟩, ?_⟩)
  · exact hG5.steps.fr (Fr.upd (S := fun t => Nat.beq t 127) ha5 hn5 rfl _) rfl rfl
  · exact ((hF1.trans (hF2.trans hF5 (Nat.le_refl _)) (Nat.le_refl _)).updNew ha5 hn5 (by omega) _).le (by omega)

end Go.Proofs.Tryz
