/-
  A script taken, whole, on the abstract machine.
-/
import Derived.Test.YtdmaodpmfbgcaaaGreatSStep
set_option maxRecDepth 100000
namespace Go.Proofs.Tryz
open Go Go.V Go.SC
attribute [local simp] runOp wanted isHeavy light St.ev St.slot_mk sget_put St.put_mk cl_int cl_bool cl_str cl_ptr cl_nil cl_ref cl_imm cl_agg cl_nilp NewV.at nblt nble nbeq ofConst ofConst1 fieldOf sh_ptr sh_iptr rc_ptr rc_iptr lget mkVal VD.isAgg lenOf bin ar_add ar_sub ar_mul ar_eql ar_neq ar_lss ar_leq ar_gtr ar_geq argSlots un heavy writeCells lput eqVals next_add next_upd fillA zeros natOf_cast natOf_succ
def S130 : TypeId → Bool := fun t => Nat.beq t 130
/-- Steps in a slice that is appended to. -/
def GStepsR (m : Mem) (ty : TypeId) (v : AVal) (l : List LStep) : Prop := ∃ els : List (List AVal), GrowV m ty 9 v els ∧ els.length = l.length ∧ ∀ (i : Nat) (x : LStep), l[i]? = some x → ∃ cs, els[i]? = some cs ∧ StepR m cs x
theorem GStepsR.steps {m : Mem} {ty : TypeId} {v : AVal} {l : List LStep} (h : GStepsR m ty v l) : StepsR m ty v l := by
  obtain ⟨els, h1, h2, h3⟩ := h; exact ⟨els, h1.sl, h2, h3⟩
theorem GStepsR.cl {m : Mem} {ty : TypeId} {v : AVal} {l : List LStep} (h : GStepsR m ty v l) : AVal.cells? v = some [v] := by
  obtain ⟨els, h1, _⟩ := h; exact h1.cl
theorem GStepsR.same {m : Mem} {ty : TypeId} {v : AVal} {l : List LStep} (h : GStepsR m ty v l) : AVal.same v v = true := by
  obtain ⟨els, h1, _⟩ := h; exact h1.same
theorem GStepsR.nil (m : Mem) (ty : TypeId) : GStepsR m ty (.nil true) [] := ⟨[], GrowV.nil _ _ _, rfl, fun i x h => by cases h⟩
theorem GStepsR.fr {S : TypeId → Bool} {m m' : Mem} {k ty : Nat} {v : AVal} {l : List LStep} (hF : Fr S m m' k) (hS : S 9 = false) (hT : S ty = false) (h : GStepsR m ty v l) : GStepsR m' ty v l := by
  obtain ⟨els, h1, h2, h3⟩ := h
  exact ⟨els, h1.fr hF hT, h2, fun i x hi => by obtain ⟨cs, e1, e2⟩ := h3 i x hi; exact ⟨cs, e1, e2.fr hF hS⟩⟩
/-- One more step. -/
theorem GStepsR.append {m : Mem} {ty : TypeId} {ve : VT} {v : AVal} {l : List LStep} (hs : ve.size = 9) (hty : ty ≠ 9) (h : GStepsR m ty v l) {cs : List AVal} {x : LStep} (hx : StepR m cs x) (hm : m.next < 1048576) (hl : l.length + 1 ≤ 1048576) :
    ∃ v' m', appendTo m ty ve v 1 cs = some (v', m') ∧ GStepsR m' ty v' (l ++ [x]) ∧ m.next ≤ m'.next ∧ m'.next ≤ m.next + 1 ∧ (∀ b B, m.at b B → refBlk v ≠ some b → m'.at b B) ∧ (refBlk v' = refBlk v ∨ refBlk v' = some m.next) ∧ ∀ S : TypeId → Bool, S ty = true → Fr S m m' 1 := by
  obtain ⟨els, h1, h2, h3⟩ := h
  have hc : cs.length = 9 := by obtain ⟨p, rfl, _⟩ := hx; rfl
  obtain ⟨v', m', a1, a2, a3, a4, a5, a6⟩ := h1.append (ve := ve) hs (by decide) (xs := [cs]) (fun y hy => by rw [List.mem_singleton] at hy; rw [hy, hc]) hm (by rw [h2]; simpa using hl)
  have hF : ∀ S : TypeId → Bool, S ty = true → Fr S m m' 1 := fun S hS => h1.frame hS a3 a4 a5
  have hF9 := hF (fun t => Nat.beq t ty) (by simp)
  have h9 : Nat.beq 9 ty = false := by rw [nbeq]; exact decide_eq_false (fun e => hty e.symm)
  refine ⟨v', m', by simpa using a1, ⟨els ++ [cs], a2, by simp [h2], fun i y hi => ?_⟩, a3, a4, a5, a6, hF⟩
  by_cases hil : i < l.length
  · rw [List.getElem?_append_left hil] at hi
    obtain ⟨c, e1, e2⟩ := h3 i y hi
    exact ⟨c, by rw [List.getElem?_append_left (by omega)]; exact e1, e2.fr hF9 h9⟩
  · rw [List.getElem?_append_right (by omega)] at hi
    have hi0 : i - l.length = 0 := by
      have := (List.getElem?_eq_some_iff.1 hi).1
      simp at this; omega
    rw [hi0] at hi
    simp at hi
    subst hi
    exact ⟨cs, by rw [List.getElem?_append_right (by omega), show i - els.length = 0 by omega]; rfl, hx.fr hF9 h9⟩

noncomputable def loop54 : Code := match f54.body with
  | some (.seq _ (.seq _ (.seq _ (.seq (.seq _ (.block _ l)) _)))) => l
  | _ => .skip
theorem dSteps_succ (n : Nat) (i : IS) : dSteps (n + 1) i = ((dStep i).1 :: (dSteps n (dStep i).2).1, (dSteps n (dStep i).2).2) := rfl

theorem decode_loop (i b5 cnt : Nat) (m : Mem) (x : LScript) (hm : m.next ≤ 600000) (hcnt : cnt ≤ 200) (hb5 : m.next ≤ b5) :
    ∀ (j k : Nat) (st : IS) (l : List LStep) (v : AVal) (sl : Slots) (mm : Mem), k + j = cnt → l.length = k → IsL st 1000000 → InR mm i st → Fr SI m mm (1 + 12 * k) → mm.at b5 ⟨130, [.int .i64 x.c, .int .i64 x.s, .int .i64 x.cap, v], 0⟩ → GStepsR mm 119 v l → NewR m v →
      sget sl 4 = .ptr i 2 0 → sget sl 5 = .ptr b5 4 0 → sget sl 16 = .int .i64 (cnt : Nat) → sget sl 17 = .int .i64 (k : Nat) →
    vwp ES loop54 (fun ex s => ex = .exit 0 ∧ ∃ sl' mm' v', s = ⟨54, 32, sl', mm'⟩ ∧ sget sl' 4 = .ptr i 2 0 ∧ sget sl' 5 = .ptr b5 4 0 ∧ sget sl' 2 = sget sl 2 ∧ InR mm' i (dSteps j st).2 ∧ Fr SI m mm' (1 + 12 * cnt) ∧ GStepsR mm' 119 v' (l ++ (dSteps j st).1) ∧
      mm'.at b5 ⟨130, [.int .i64 x.c, .int .i64 x.s, .int .i64 x.cap, v'], 0⟩) ⟨54, 32, sl, mm⟩ := by
  intro j
  induction j with
  | zero =>
    intro k st l v sl mm hij hpl hil hI hF hb hG hNew s4 s5 s16 s17
    obtain rfl : k = cnt := by omega
    unfold loop54 f54
    refine vwp_loop (vwp_seq ?_)
    refine vwp_region ?_
    iterate 1 (refine vops_cons (n := 0) (by simp (maxSteps := 1000000) [s16, s17]; rfl) ?_)
    refine vops_nil ?_
    refine vwp_seq (vwp_cond (t := false) (by simp [St.ev, St.slot_mk, sget_put]) (vwp_exit ?_))
    exact ⟨rfl, _, mm, v, rfl, by simp [s4], by simp [s5], by simp, hI, hF, by rw [dSteps, List.append_nil]; exact hG, hb⟩
  | succ j ih =>
    intro k st l v sl mm hij hpl hil hI hF hb hG hNew s4 s5 s16 s17
    have hk' : (k : Int) < (cnt : Int) := by omega
    have hmx := hF.most
    have hpc := hG.cl
    unfold loop54 f54
    refine vwp_loop (vwp_seq ?_)
    refine vwp_region ?_
    iterate 1 (refine vops_cons (n := 0) (by simp (maxSteps := 1000000) [s16, s17, hk']; rfl) ?_)
    refine vops_nil ?_
    refine vwp_seq (vwp_cond (t := true) (by simp [St.ev, St.slot_mk, sget_put]) (vwp_skip ?_))
    refine vwp_seq (vwp_block (vwp_draw plan54 rfl ?_))
    iterate 3 (refine vpl_run (n := 0) rfl (by simp (maxSteps := 1000000) [s4, s5, ty130, ty128, hb.2]; rfl) ?_)
    refine vpl_call (g := 140) (first := []) (cap := []) (avs := [.ptr i 2 0]) rfl rfl rfl rfl (by simp) ?_
    refine (step_ok hI (by omega) hil).mono fun r m1 hr => ?_
    obtain ⟨cs, rfl, hX, hI1, hF1⟩ := hr
    have hcs : cs.length = 9 := by obtain ⟨p, rfl, _⟩ := hX; rfl
    have hb1 := hF1.keep b5 _ hb rfl
    have hG1 := hG.fr hF1 rfl rfl
    have hil1 := isl_step hil
    have hT := dSteps_succ j st
    generalize hd : dStep st = d at *
    refine ⟨_, by simp; rfl, ?_⟩
    refine vpl_chk (d := 20) (v := v) rfl rfl ?_ rfl ?_ ?_
    · simp [ty128, hb1.2]
    · simp [hG.same]
    have hm1 := hF1.most
    have hu1 := hF1.up
    have hnx : m1.next < 1048576 := by omega
    have hlp : lput [.int .i64 0, .int .i64 0, .int .i64 0, .int .i64 0, .int .u8 0, .nil true, .int .i64 0, .str ⟨#[]⟩, .int .i64 0] 0 cs = cs := by
      obtain ⟨p, rfl, _⟩ := hX; rfl
    refine vpl_run (n := 0) (s := ⟨54, 32, _, m1.add ⟨119, cs, 0⟩⟩) rfl (by simp (maxSteps := 1000000) [ty128, ty119, hnx, hcs, hlp, -lput]; rfl) ?_
    have hadd := Fr.add (S := S0) m1 ⟨119, cs, 0⟩ hnx
    have hG2 := hG1.fr hadd rfl rfl
    have hFm : Fr SI m (m1.add ⟨119, cs, 0⟩) (1 + 12 * k + 11) := (hF.trans hF1 (Nat.le_refl _)).trans (Fr.add (S := SI) m1 ⟨119, cs, 0⟩ hnx) (by omega)
    obtain ⟨v', m2, hap, hG3, hv1, hv2, hk, href, hfr⟩ := hG2.append (ve := ⟨.struct [(3, 0), (3, 1), (3, 2), (3, 3), (5, 4), (65, 5)], 9, 96, [.int .i64 0, .int .i64 0, .int .i64 0, .int .i64 0, .int .u8 0, .nil true, .int .i64 0, .str ⟨#[]⟩, .int .i64 0], none⟩) rfl (by decide) (hX.fr hadd rfl) (by rw [next_add]; omega) (by omega)
    have hF2 := hfr S119 rfl
    have hFm2 : Fr SI m m2 (1 + 12 * k + 11 + 1) := hFm.growNew hv1 hv2 hk hNew
    have hNew' := hNew.grow hFm href
    rw [next_add] at hv1 hv2
    have hb2 := hF2.keep b5 _ (at_add _ hnx hb1) rfl
    have hI2 : InR m2 i d.2 := (hI1.fr hadd rfl rfl).fr hF2 rfl rfl
    refine vpl_append (v' := v') (m' := m2) rfl rfl rfl rfl rfl ty128 rfl ty119 rfl (k := 1) (cs := cs) ?_ ?_ ⟨_, by simp; rfl, ?_⟩
    · simp [appended, ty128, ty119, sliceLen, sliceCells, get_add_self _ _ hnx, hcs, List.take_of_length_le (Nat.le_of_eq hcs)]
    · simp; exact hap
    have hp'c := hG3.cl
    iterate 2 (refine vpl_run (n := 0) rfl (by simp (maxSteps := 1000000) [s5, ty130, ty128, hb2.2, hp'c]; rfl) ?_)
    refine vpl_nil ?_
    refine vwp_region ?_
    iterate 2 (refine vops_cons (n := 0) (by simp (maxSteps := 1000000) [s17, wrap_up (show k < 1000000000 by omega)]; rfl) ?_)
    refine vops_nil ?_
    have hn2 : m2.next ≤ 1048576 := by omega
    have hup := Fr.upd (S := S130) hb2 hn2 rfl ⟨130, [.int .i64 x.c, .int .i64 x.s, .int .i64 x.cap, v'], 0⟩
    refine (ih (k + 1) d.2 (l ++ [d.1]) v' _ _ (by omega) (by rw [List.length_append, hpl]; rfl) hil1 (hI2.fr hup rfl rfl) ((hFm2.updNew hb2 hn2 hb5 _).le (by omega)) (at_upd_self hb2 hn2 _) (hG3.fr hup rfl rfl) hNew' (by simp [s4]) (by simp [s5]) (by simp [s16]) (by simp)).mono ?_
    rintro ex s ⟨rfl, sl', mm', p2, rfl, a1, a2, a3, a4, a5, a6, a8⟩
    exact ⟨rfl, sl', mm', p2, rfl, a1, a2, by rw [a3]; simp, by rw [hT]; exact a4, a5, by rw [hT]; simpa using a6, a8⟩

theorem dScriptI_eq {st : IS} {c s cap : Int × IS} {n : Nat × IS} {l : List LStep × IS} (h1 : dNum mostN st = c) (h2 : dNum mostN c.2 = s) (h3 : dNum mostN s.2 = cap) (h4 : dCount 200 cap.2 = n) (h5 : dSteps n.1 n.2 = l) : dScriptI st = (⟨c.1, s.1, cap.1, l.1⟩, l.2) := by
  subst h1 h2 h3 h4 h5; rfl

/-- What a script is taken from. -/
def InputB (v : AVal) : Prop := v = .nil true ∨ v = .imm [] 0 ∨ (∃ a b c d e f g, v = .ref a b c d e f g) ∨ (∃ x l n, v = .imm (x :: l) n)

/-- Bytes are taken apart. -/
theorem decode_ok {m : Mem} {v : AVal} {bs : List UInt8} (hv : BV m v bs) (hN : InputB v) (hn : m.next ≤ 500000) (hl : bs.length ≤ 800000) :
    vcall ES 54 [v] m fun r m' => ∃ cs e, r = .tup [.agg cs, .int .i64 e] ∧ Fr SI m m' 3000 ∧ (match dScript bs with
      | some x => e = 0 ∧ ScrR m' 119 cs x
      | none => e = 2 ∧ cs = [.int .i64 0, .int .i64 0, .int .i64 0, .nil true]) := by
  have hnx : m.next < 1048576 := by omega
  refine vcall_body (fn := f54) (c := ((f54.body).getD .skip)) rfl fns54 body54 (by rw [vntmps54]; show 1 ≤ 32; decide) (by rw [vntmps54]; decide) ?_
  rw [vntmps54]
  simp only [vresults54]
  unfold f54
  simp only [Option.getD_some]
  refine vwp_seq ?_
  refine vwp_region ?_
  iterate 2 (refine vops_cons (n := 0) (by simp (maxSteps := 1000000) [ty130, hnx]; rfl) ?_)
  refine vops_nil ?_
  have hF0 := Fr.add (S := SI) m ⟨130, [.int .i64 0, .int .i64 0, .int .i64 0, .nil true], 0⟩ hnx
  have ha2 := at_add_self m ⟨130, [.int .i64 0, .int .i64 0, .int .i64 0, .nil true], 0⟩ hnx
  have hv0 : BV (m.add ⟨130, [.int .i64 0, .int .i64 0, .int .i64 0, .nil true], 0⟩) v bs := hv.fr (Fr.add (S := S0) m _ hnx) rfl
  have hn0 : (m.add ⟨130, [.int .i64 0, .int .i64 0, .int .i64 0, .nil true], 0⟩).next = m.next + 1 := rfl
  generalize m.add ⟨130, [.int .i64 0, .int .i64 0, .int .i64 0, .nil true], 0⟩ = m1 at *
  refine vwp_seq (vwp_region ?_)
  iterate 1 (refine vops_cons (n := 0) (by simp (maxSteps := 1000000) []; rfl) ?_)
  refine vops_callv (g := 137) (first := []) (cap := []) (avs := [v]) rfl rfl rfl (by simp) ?_
  refine (newIn_ok hv0 hN (by omega) hl).mono fun r m2 hr => ?_
  obtain ⟨i, rfl, hi, hI0, hF1⟩ := hr
  refine ⟨_, by simp; rfl, ?_⟩
  iterate 1 (refine vops_cons (n := 0) (by simp (maxSteps := 1000000) []; rfl) ?_)
  have hil : IsL (some bs) 1000000 := fun b h => by cases h; omega
  have l1 := isl_num (most := mostN) hil
  have l2 := isl_num (most := mostN) l1
  have l3 := isl_num (most := mostN) l2
  have l4 := isl_count (most := 200) l3
  have c4 := dCount_le (most := 200) (st := (dNum mostN (dNum mostN (dNum mostN (some bs)).2).2).2) (by decide)
  have hmx1 := hF1.most
  have hF1' : Fr SI m1 m2 3 := hF1.mono (Nat.le_refl _) (fun _ _ => rfl)
  refine vops_nil (vwp_seq (vwp_region ?_))

  iterate 1 (refine vops_cons (n := 0) (by simp (maxSteps := 1000000) []; rfl) ?_)
  refine vops_callv (g := 138) (first := []) (cap := []) (avs := [.ptr i 2 0]) rfl rfl rfl (by simp) ?_
  refine (number_ok hI0 (by have := hF1.most; omega) hil).mono fun r m3 hr => ?_
  obtain ⟨rfl, hI1, hF2⟩ := hr
  generalize h1 : dNum mostN (some bs) = c at *
  refine ⟨_, by simp; rfl, ?_⟩
  iterate 1 (refine vops_cons (n := 0) (by simp (maxSteps := 1000000) []; rfl) ?_)
  refine vops_callv (g := 138) (first := []) (cap := []) (avs := [.ptr i 2 0]) rfl rfl rfl (by simp) ?_
  refine (number_ok hI1 (by have := hF1.most; have := hF2.most; omega) l1).mono fun r m4 hr => ?_
  obtain ⟨rfl, hI2, hF3⟩ := hr
  generalize h2 : dNum mostN c.2 = s at *
  refine ⟨_, by simp; rfl, ?_⟩
  iterate 1 (refine vops_cons (n := 0) (by simp (maxSteps := 1000000) []; rfl) ?_)
  refine vops_callv (g := 138) (first := []) (cap := []) (avs := [.ptr i 2 0]) rfl rfl rfl (by simp) ?_
  refine (number_ok hI2 (by have := hF1.most; have := hF2.most; have := hF3.most; omega) l2).mono fun r m5 hr => ?_
  obtain ⟨rfl, hI3, hF4⟩ := hr
  generalize h3 : dNum mostN s.2 = cap at *
  refine ⟨_, by simp; rfl, ?_⟩

  have hF05 : Fr SI m m5 4 := (((hF0.trans hF1' (Nat.le_refl _)).trans hF2 (Nat.le_refl _)).trans hF3 (Nat.le_refl _)).trans hF4 (Nat.le_refl _)
  have ha2' := ((((hF1'.trans hF2 (Nat.le_refl _)).trans hF3 (Nat.le_refl _)).trans hF4 (Nat.le_refl _)).keep _ _ ha2 rfl)
  have hmx4 := hF05.most
  have hnx5 : m5.next < 1048576 := by omega
  iterate 1 (refine vops_cons (n := 0) (by simp (maxSteps := 1000000) [ty130, ty3, buildVal, structPlace]; rfl) ?_)
  iterate 1 (refine vops_cons (n := 0) (by simp (maxSteps := 1000000) [ty130, hnx5]; rfl) ?_)
  have hz := at_add_self m5 ⟨130, [.int .i64 0, .int .i64 0, .int .i64 0, .nil true], 0⟩ hnx5
  have hn6 : (m5.add ⟨130, [.int .i64 0, .int .i64 0, .int .i64 0, .nil true], 0⟩).next = m5.next + 1 := rfl
  have hF5 := Fr.add (S := SI) m5 ⟨130, [.int .i64 0, .int .i64 0, .int .i64 0, .nil true], 0⟩ hnx5
  have hI5 : InR (m5.add ⟨130, [.int .i64 0, .int .i64 0, .int .i64 0, .nil true], 0⟩) i cap.2 := hI3.fr (Fr.add (S := S0) m5 _ hnx5) rfl rfl
  show vops _ _ _ _ ⟨54, 32, _, m5.add ⟨130, [.int .i64 0, .int .i64 0, .int .i64 0, .nil true], 0⟩⟩
  generalize m5.add ⟨130, [.int .i64 0, .int .i64 0, .int .i64 0, .nil true], 0⟩ = m6 at *
  have hn6' : m6.next ≤ 1048576 := by omega
  iterate 1 (refine vops_cons (n := 0) (by simp (maxSteps := 1000000) [ty130, hz.2]; rfl) ?_)
  show vops _ _ _ _ ⟨54, 32, _, m6.upd m5.next ⟨130, [.int .i64 c.1, .int .i64 s.1, .int .i64 cap.1, .nil true], 0⟩⟩
  have hF6 : Fr SI m5 (m6.upd m5.next ⟨130, [.int .i64 c.1, .int .i64 s.1, .int .i64 cap.1, .nil true], 0⟩) 1 := hF5.updNew hz hn6' (Nat.le_refl _) _
  have hb6 := at_upd_self hz hn6' ⟨130, [.int .i64 c.1, .int .i64 s.1, .int .i64 cap.1, .nil true], 0⟩
  have hI6 := hI5.fr (Fr.upd (S := S130) hz hn6' rfl ⟨130, [.int .i64 c.1, .int .i64 s.1, .int .i64 cap.1, .nil true], 0⟩) rfl rfl
  have hn7 : (m6.upd m5.next ⟨130, [.int .i64 c.1, .int .i64 s.1, .int .i64 cap.1, .nil true], 0⟩).next = m6.next := rfl
  generalize m6.upd m5.next ⟨130, [.int .i64 c.1, .int .i64 s.1, .int .i64 cap.1, .nil true], 0⟩ = m7 at *
  refine vops_nil (vwp_seq (vwp_seq (vwp_region ?_)))
  iterate 1 (refine vops_cons (n := 0) (by simp (maxSteps := 1000000) []; rfl) ?_)
  refine vops_callv (g := 139) (first := []) (cap := []) (avs := [.ptr i 2 0, .int .i64 200]) rfl rfl rfl (by simp) ?_
  refine (count_ok (most := 200) hI6 (by omega) l3 (by decide) (by decide)).mono fun r m8 hr => ?_
  obtain ⟨rfl, hI7, hF7⟩ := hr
  generalize h4 : dCount 200 cap.2 = n at *
  refine ⟨_, by simp; rfl, ?_⟩
  iterate 1 (refine vops_cons (n := 0) (by simp (maxSteps := 1000000) []; rfl) ?_)
  refine vops_nil (vwp_block ?_)
  have hb8 := hF7.keep _ _ hb6 rfl
  refine (decode_loop i m5.next n.1 m5 ⟨c.1, s.1, cap.1, []⟩ (by omega) (by omega) (Nat.le_refl _) n.1 0 n.2 [] (.nil true) _ m8 (by omega) rfl l4 hI7 (hF6.trans hF7 (by omega)) hb8 (GStepsR.nil _ _) (NewR.nil _ _) (by simp) (by simp) (by simp) (by simp)).mono ?_
  rintro ex st ⟨rfl, sl, m9, v', rfl, s4, s5, s2, hI9, hF9, hG9, hb9⟩
  have s2' : sget sl 2 = .ptr m.next 4 0 := by rw [s2]; simp
  rw [List.nil_append] at hG9
  generalize h5 : dSteps n.1 n.2 = l at *
  have hmx9 := hF9.most
  have hE := dScriptI_eq h1 h2 h3 h4 h5
  have ha9 := hF9.keep _ _ ha2' rfl
  have hn9 : m9.next ≤ 1048576 := by omega
  refine vwp_seq (vwp_seq (vwp_region ?_))
  iterate 1 (refine vops_cons (n := 0) (by simp (maxSteps := 1000000) [s4]; rfl) ?_)
  refine vops_callv (g := 141) (first := []) (cap := []) (avs := [.ptr i 2 0]) rfl rfl rfl (by simp) ?_
  refine (done_ok hI9).mono fun r m10 hr => ?_
  obtain ⟨rfl, rfl⟩ := hr
  have hF09 : Fr SI m m10 3000 := (hF05.trans hF9 (Nat.le_refl _)).le (by omega)
  by_cases hdn : l.2 = some []
  · have hS : dScript bs = some ⟨c.1, s.1, cap.1, l.1⟩ := by unfold dScript; rw [hE, hdn]
    rw [show isDone l.2 = true by rw [hdn]; rfl, hS]
    refine ⟨_, by simp; rfl, ?_⟩
    iterate 1 (refine vops_cons (n := 0) (by simp (maxSteps := 1000000) []; rfl) ?_)
    refine vops_nil (vwp_cond (t := false) (by simp [St.ev, St.slot_mk, sget_put]) (vwp_skip ?_))
    refine vwp_seq (vwp_region ?_)
    have hpc := hG9.cl
    iterate 3 (refine vops_cons (n := 0) (by simp (maxSteps := 1000000) [s5, s2', ty130, hb9.2, ha9.2, hpc]; rfl) ?_)
    have ha10 := at_upd_self ha9 hn9 ⟨130, [.int .i64 c.1, .int .i64 s.1, .int .i64 cap.1, v'], 0⟩
    refine vops_nil (vwp_ret ⟨.inr rfl, _, by simp [resultVals, s2', ty130, ha10.2]; rfl, _, _, rfl, hF09.updNew ha9 hn9 (Nat.le_refl _) _, rfl, v', rfl, ?_⟩)
    exact hG9.steps.fr (Fr.upd (S := S130) ha9 hn9 rfl _) rfl rfl
  · have hS : dScript bs = none := by
      unfold dScript; rw [hE]
      rcases l with ⟨l1, _ | ⟨_ | ⟨b, r⟩⟩⟩
      · rfl
      · exact absurd rfl hdn
      · rfl
    have hq : isDone l.2 = false := by
      rcases l with ⟨l1, _ | ⟨_ | ⟨b, r⟩⟩⟩
      · rfl
      · exact absurd rfl hdn
      · rfl
    rw [hq, hS]
    refine ⟨_, by simp; rfl, ?_⟩
    iterate 1 (refine vops_cons (n := 0) (by simp (maxSteps := 1000000) []; rfl) ?_)
    refine vops_nil (vwp_cond (t := true) (by simp [St.ev, St.slot_mk, sget_put]) ?_)
    refine vwp_seq (vwp_region ?_)
    iterate 3 (refine vops_cons (n := 0) (by simp (maxSteps := 1000000) [s2', ty130, buildVal, structPlace, ha9.2]; rfl) ?_)
    have ha10 := at_upd_self ha9 hn9 ⟨130, [.int .i64 0, .int .i64 0, .int .i64 0, .nil true], 0⟩
    exact vops_nil (vwp_ret ⟨.inr rfl, _, by simp [resultVals, s2', ty130, ha10.2]; rfl, _, _, rfl, hF09.updNew ha9 hn9 (Nat.le_refl _) _, rfl, rfl⟩)
end Go.Proofs.Tryz
