/-
  A step and a script taken, on the abstract machine.
-/
import Derived.Test.YtdmaodpmfbgcaaaGreatSTake
set_option maxRecDepth 100000
namespace Go.Proofs.Tryz
open Go Go.V Go.SC
attribute [local simp] runOp wanted isHeavy light St.ev St.slot_mk sget_put St.put_mk cl_int cl_bool cl_str cl_ptr cl_nil cl_ref cl_imm cl_agg cl_nilp NewV.at nblt nble nbeq ofConst ofConst1 fieldOf sh_ptr sh_iptr rc_ptr rc_iptr lget mkVal VD.isAgg lenOf bin ar_add ar_sub ar_mul ar_eql ar_neq ar_lss ar_leq ar_gtr ar_geq argSlots un heavy writeCells lput eqVals next_add next_upd fillA zeros natOf_cast natOf_succ
def S119 : TypeId → Bool := fun t => Nat.beq t 119
def S9 : TypeId → Bool := fun t => Nat.beq t 9
theorem plan140 : ES.plans.get 573445 = some [.run 0, .run 1, .run 2, .run 3, .run 4, .chk 2, .run 5, .run 6, .run 7, .run 8, .run 9] := by kernel_rfl
theorem plan54 : ES.plans.get 221189 = some [.run 0, .run 1, .run 2, .run 3, .chk 1, .run 4, .run 5, .run 6, .run 7] := by kernel_rfl
noncomputable def loop140 : Code := match f140.body with
  | some (.seq _ (.seq _ (.seq _ (.seq (.seq _ (.block _ l)) _)))) => l
  | _ => .skip
theorem strE_append (a b : List (List UInt8)) : strE (a ++ b) = strE a ++ strE b := by simp [strE]
theorem dTexts_succ (n : Nat) (i : IS) : dTexts (n + 1) i = ((dText 30 i).1 :: (dTexts n (dText 30 i).2).1, (dTexts n (dText 30 i).2).2) := rfl

theorem step_loop (i b3 cnt : Nat) (m : Mem) (x : LStep) (hm : m.next ≤ 800000) (hcnt : cnt ≤ 3) (hb3 : m.next ≤ b3) :
    ∀ (j k : Nat) (st : IS) (pl : List (List UInt8)) (p : AVal) (sl : Slots) (mm : Mem), k + j = cnt → pl.length = k → IsL st 1000000 → InR mm i st → Fr SI m mm (1 + 2 * k) → mm.at b3 ⟨119, [.int .i64 x.kind, .int .i64 x.a, .int .i64 x.n, .int .i64 x.n2, .int .u8 (x.who.toNat : Nat), p, .int .i64 0, .str (mkS []), .int .i64 0], 0⟩ → GrowV mm 9 1 p (strE pl) → NewR m p →
      sget sl 0 = .ptr i 2 0 → sget sl 3 = .ptr b3 9 0 → sget sl 18 = .int .i64 (cnt : Nat) → sget sl 19 = .int .i64 (k : Nat) →
    vwp ES loop140 (fun ex s => ex = .exit 0 ∧ ∃ sl' mm' p', s = ⟨140, 44, sl', mm'⟩ ∧ sget sl' 0 = .ptr i 2 0 ∧ sget sl' 3 = .ptr b3 9 0 ∧ sget sl' 2 = sget sl 2 ∧ InR mm' i (dTexts j st).2 ∧ Fr SI m mm' (1 + 2 * cnt) ∧ GrowV mm' 9 1 p' (strE (pl ++ (dTexts j st).1)) ∧
      mm'.at b3 ⟨119, [.int .i64 x.kind, .int .i64 x.a, .int .i64 x.n, .int .i64 x.n2, .int .u8 (x.who.toNat : Nat), p', .int .i64 0, .str (mkS []), .int .i64 0], 0⟩) ⟨140, 44, sl, mm⟩ := by
  intro j
  induction j with
  | zero =>
    intro k st pl p sl mm hij hpl hil hI hF hb hG hNew s0 s3 s18 s19
    obtain rfl : k = cnt := by omega
    unfold loop140 f140
    refine vwp_loop (vwp_seq ?_)
    refine vwp_region ?_
    iterate 1 (refine vops_cons (n := 0) (by simp (maxSteps := 1000000) [s18, s19]; rfl) ?_)
    refine vops_nil ?_
    refine vwp_seq (vwp_cond (t := false) (by simp [St.ev, St.slot_mk, sget_put]) (vwp_exit ?_))
    exact ⟨rfl, _, mm, p, rfl, by simp [s0], by simp [s3], by simp, hI, hF, by rw [dTexts, List.append_nil]; exact hG, hb⟩
  | succ j ih =>
    intro k st pl p sl mm hij hpl hil hI hF hb hG hNew s0 s3 s18 s19
    have hk' : (k : Int) < (cnt : Int) := by omega
    have hmx := hF.most
    have hpc := hG.cl
    unfold loop140 f140
    refine vwp_loop (vwp_seq ?_)
    refine vwp_region ?_
    iterate 1 (refine vops_cons (n := 0) (by simp (maxSteps := 1000000) [s18, s19, hk']; rfl) ?_)
    refine vops_nil ?_
    refine vwp_seq (vwp_cond (t := true) (by simp [St.ev, St.slot_mk, sget_put]) (vwp_skip ?_))
    refine vwp_seq (vwp_block (vwp_draw plan140 rfl ?_))
    iterate 4 (refine vpl_run (n := 0) rfl (by simp (maxSteps := 1000000) [s0, s3, ty119, ty65, ty63, hb.2]; rfl) ?_)
    refine vpl_call (g := 249) (first := []) (cap := []) (avs := [.ptr i 2 0, .int .i64 30]) rfl rfl rfl rfl (by simp) ?_
    refine (inText_ok hI (by omega) hil (by decide) (by decide)).mono fun r m1 hr => ?_
    obtain ⟨rfl, hI1, hF1⟩ := hr
    have hb1 := hF1.keep b3 _ hb rfl
    have hG1 := hG.fr hF1 rfl
    have hil1 := isl_text (most := 30) hil
    have hT := dTexts_succ j st
    generalize hd : dText 30 st = d at *
    refine ⟨_, by simp; rfl, ?_⟩
    refine vpl_chk (d := 23) (v := p) rfl rfl ?_ rfl ?_ ?_
    · simp [ty63, hb1.2]
    · simp [hG.same]
    have hm1 := hF1.most
    have hu1 := hF1.up
    have hnx : m1.next < 1048576 := by omega
    iterate 1 (refine vpl_run (n := 0) rfl (by simp (maxSteps := 1000000) [ty63, ty9, hnx]; rfl) ?_)
    have hadd := Fr.add (S := S0) m1 ⟨9, [.str (mkS d.1)], 0⟩ hnx
    have hG2 := hG1.add hnx ⟨9, [.str (mkS d.1)], 0⟩
    have hFm : Fr SI m (m1.add ⟨9, [.str (mkS d.1)], 0⟩) (1 + 2 * k + 1) := (hF.trans hF1 (Nat.le_refl _)).trans (Fr.add (S := SI) m1 ⟨9, [.str (mkS d.1)], 0⟩ hnx) (Nat.le_refl _)
    obtain ⟨p', m2, hap, hG3, hv1, hv2, hk, href⟩ := hG2.append (ve := ⟨.str, 1, 16, [.str ⟨#[]⟩], (some [.s])⟩) rfl (by decide) (xs := strE [d.1]) (strE_one _) (by rw [next_add]; omega) (by rw [strE_len, strE_len]; simp; omega)
    rw [← strE_append] at hG3
    have hF2 := hG2.frame (S := S9) rfl hv1 hv2 hk
    have hFm2 : Fr SI m m2 (1 + 2 * k + 1 + 1) := hFm.growNew hv1 hv2 hk hNew
    have hNew' := hNew.grow hFm href
    rw [next_add] at hv1 hv2
    have hb2 := hF2.keep b3 _ (at_add _ hnx hb1) rfl
    have hI2 : InR m2 i d.2 := (hI1.fr hadd rfl rfl).fr hF2 rfl rfl
    refine vpl_append (v' := p') (m' := m2) rfl rfl rfl rfl rfl ty63 rfl ty9 rfl (k := 1) (cs := [.str (mkS d.1)]) ?_ ?_ ⟨_, by simp; rfl, ?_⟩
    · simp [appended, ty63, ty9, sliceLen, sliceCells, get_add_self _ _ hnx]
    · simp; exact hap
    have hp'c := hG3.cl
    iterate 3 (refine vpl_run (n := 0) rfl (by simp (maxSteps := 1000000) [s3, ty119, ty65, ty63, hb2.2, hp'c]; rfl) ?_)
    refine vpl_nil ?_
    refine vwp_region ?_
    iterate 2 (refine vops_cons (n := 0) (by simp (maxSteps := 1000000) [s19, wrap_up (show k < 1000000000 by omega)]; rfl) ?_)
    refine vops_nil ?_
    have hn2 : m2.next ≤ 1048576 := by omega
    have hup := Fr.upd (S := S119) hb2 hn2 rfl ⟨119, [.int .i64 x.kind, .int .i64 x.a, .int .i64 x.n, .int .i64 x.n2, .int .u8 (x.who.toNat : Nat), p', .int .i64 0, .str (mkS []), .int .i64 0], 0⟩
    refine (ih (k + 1) d.2 (pl ++ [d.1]) p' _ _ (by omega) (by rw [List.length_append, hpl]; rfl) hil1 (hI2.fr hup rfl rfl) ((hFm2.updNew hb2 hn2 hb3 _).le (by omega)) (at_upd_self hb2 hn2 _) (hG3.upd hn2 hb2 (show (119 : Nat) ≠ 9 by decide) _) hNew' (by simp [s0]) (by simp [s3]) (by simp [s18]) (by simp)).mono ?_
    rintro ex s ⟨rfl, sl', mm', p2, rfl, a1, a2, a3, a4, a5, a6, a8⟩
    exact ⟨rfl, sl', mm', p2, rfl, a1, a2, by rw [a3]; simp, by rw [hT]; exact a4, a5, by rw [hT]; simpa using a6, a8⟩

theorem dStep_eq {st : IS} {k a n n2 : Int × IS} {w c : Nat × IS} {p : List (List UInt8) × IS} {act : Int × IS} {s : List UInt8 × IS} {num : Int × IS} (h1 : dNum mostN st = k) (h2 : dNum mostN k.2 = a) (h3 : dNum mostN a.2 = n) (h4 : dNum mostN n.2 = n2) (h5 : dCount 255 n2.2 = w) (h6 : dCount 3 w.2 = c) (h7 : dTexts c.1 c.2 = p) (h8 : dNum mostN p.2 = act) (h9 : dText 30 act.2 = s) (h10 : dNum mostInc s.2 = num) :
    dStep st = (⟨k.1, a.1, n.1, n2.1, UInt8.ofNat w.1, p.1, act.1, s.1, num.1⟩, num.2) := by
  subst h1 h2 h3 h4 h5 h6 h7 h8 h9 h10; rfl
theorem dCount_le {most : Int} {st : IS} (hm : 0 ≤ most) : ((dCount most st).1 : Int) ≤ most := by
  unfold dCount
  simp only
  split
  · exact hm
  · have : (dNum most st).1 ≤ most := by
      unfold dNum
      split
      · exact hm
      · split
        · exact hm
        · split
          · exact hm
          · simp only; omega
    simp only; omega

/-- A step is taken. -/
theorem step_ok {m : Mem} {i : Nat} {st : IS} (h : InR m i st) (hN : m.next ≤ 700000) (hil : IsL st 1000000) :
    vcall ES 140 [.ptr i 2 0] m fun r m' => ∃ cs, r = .agg cs ∧ StepR m' cs (dStep st).1 ∧ InR m' i (dStep st).2 ∧ Fr SI m m' 10 := by
  have hnx : m.next < 1048576 := by omega
  refine vcall_body (fn := f140) (c := ((f140.body).getD .skip)) rfl fns140 body140 (by rw [vntmps140]; show 1 ≤ 44; decide) (by rw [vntmps140]; decide) ?_
  rw [vntmps140]
  simp only [vresults140]
  unfold f140
  simp only [Option.getD_some]
  refine vwp_seq ?_
  refine vwp_region ?_
  iterate 1 (refine vops_cons (n := 0) (by simp (maxSteps := 1000000) [ty119, hnx]; rfl) ?_)
  refine vops_nil ?_
  have hF0 := Fr.add (S := SI) m ⟨119, [.int .i64 0, .int .i64 0, .int .i64 0, .int .i64 0, .int .u8 0, .nil true, .int .i64 0, .str ⟨#[]⟩, .int .i64 0], 0⟩ hnx
  have ha2 := at_add_self m ⟨119, [.int .i64 0, .int .i64 0, .int .i64 0, .int .i64 0, .int .u8 0, .nil true, .int .i64 0, .str ⟨#[]⟩, .int .i64 0], 0⟩ hnx
  have hI0 : InR (m.add ⟨119, [.int .i64 0, .int .i64 0, .int .i64 0, .int .i64 0, .int .u8 0, .nil true, .int .i64 0, .str ⟨#[]⟩, .int .i64 0], 0⟩) i st := h.fr (Fr.add (S := S0) m _ hnx) rfl rfl
  have hn0 : (m.add ⟨119, [.int .i64 0, .int .i64 0, .int .i64 0, .int .i64 0, .int .u8 0, .nil true, .int .i64 0, .str ⟨#[]⟩, .int .i64 0], 0⟩).next = m.next + 1 := rfl
  generalize m.add ⟨119, [.int .i64 0, .int .i64 0, .int .i64 0, .int .i64 0, .int .u8 0, .nil true, .int .i64 0, .str ⟨#[]⟩, .int .i64 0], 0⟩ = m1 at *
  have l1 := isl_num (most := mostN) hil
  have l2 := isl_num (most := mostN) l1
  have l3 := isl_num (most := mostN) l2
  have l4 := isl_num (most := mostN) l3
  have l5 := isl_count (most := 255) l4
  have l6 := isl_count (most := 3) l5
  have c5 := dCount_le (most := 255) (st := (dNum mostN (dNum mostN (dNum mostN (dNum mostN st).2).2).2).2) (by decide)
  have c6 := dCount_le (most := 3) (st := (dCount 255 (dNum mostN (dNum mostN (dNum mostN (dNum mostN st).2).2).2).2).2) (by decide)
  refine vwp_seq (vwp_region ?_)
  iterate 1 (refine vops_cons (n := 0) (by simp (maxSteps := 1000000) []; rfl) ?_)
  refine vops_callv (g := 138) (first := []) (cap := []) (avs := [.ptr i 2 0]) rfl rfl rfl (by simp) ?_
  refine (number_ok hI0 (by have := hF0.most; omega) hil).mono fun r m2 hr => ?_
  obtain ⟨rfl, hI1, hF1⟩ := hr
  generalize h1 : dNum mostN st = k at *
  refine ⟨_, by simp; rfl, ?_⟩
  iterate 1 (refine vops_cons (n := 0) (by simp (maxSteps := 1000000) []; rfl) ?_)
  refine vops_callv (g := 138) (first := []) (cap := []) (avs := [.ptr i 2 0]) rfl rfl rfl (by simp) ?_
  refine (number_ok hI1 (by have := hF0.most; have := hF1.most; omega) l1).mono fun r m3 hr => ?_
  obtain ⟨rfl, hI2, hF2⟩ := hr
  generalize h2 : dNum mostN k.2 = a at *
  refine ⟨_, by simp; rfl, ?_⟩
  iterate 1 (refine vops_cons (n := 0) (by simp (maxSteps := 1000000) []; rfl) ?_)
  refine vops_callv (g := 138) (first := []) (cap := []) (avs := [.ptr i 2 0]) rfl rfl rfl (by simp) ?_
  refine (number_ok hI2 (by have := hF0.most; have := hF1.most; have := hF2.most; omega) l2).mono fun r m4 hr => ?_
  obtain ⟨rfl, hI3, hF3⟩ := hr
  generalize h3 : dNum mostN a.2 = n at *
  refine ⟨_, by simp; rfl, ?_⟩
  iterate 1 (refine vops_cons (n := 0) (by simp (maxSteps := 1000000) []; rfl) ?_)
  refine vops_callv (g := 138) (first := []) (cap := []) (avs := [.ptr i 2 0]) rfl rfl rfl (by simp) ?_
  refine (number_ok hI3 (by have := hF0.most; have := hF1.most; have := hF2.most; have := hF3.most; omega) l3).mono fun r m5 hr => ?_
  obtain ⟨rfl, hI4, hF4⟩ := hr
  generalize h4 : dNum mostN n.2 = n2 at *
  refine ⟨_, by simp; rfl, ?_⟩

  have hF04 : Fr SI m m5 1 := (((hF0.trans hF1 (Nat.le_refl _)).trans hF2 (Nat.le_refl _)).trans hF3 (Nat.le_refl _)).trans hF4 (Nat.le_refl _)
  have ha2' := ((((hF1.trans hF2 (Nat.le_refl _)).trans hF3 (Nat.le_refl _)).trans hF4 (Nat.le_refl _)).keep _ _ ha2 rfl)
  have hmx4 := hF04.most
  have hnx5 : m5.next < 1048576 := by omega
  iterate 1 (refine vops_cons (n := 0) (by simp (maxSteps := 1000000) [ty119, ty3, buildVal, structPlace]; rfl) ?_)
  iterate 1 (refine vops_cons (n := 0) (by simp (maxSteps := 1000000) [ty119, hnx5]; rfl) ?_)

  have hz := at_add_self m5 ⟨119, [.int .i64 0, .int .i64 0, .int .i64 0, .int .i64 0, .int .u8 0, .nil true, .int .i64 0, .str ⟨#[]⟩, .int .i64 0], 0⟩ hnx5
  have hn6 : (m5.add ⟨119, [.int .i64 0, .int .i64 0, .int .i64 0, .int .i64 0, .int .u8 0, .nil true, .int .i64 0, .str ⟨#[]⟩, .int .i64 0], 0⟩).next = m5.next + 1 := rfl
  have hF5 := Fr.add (S := SI) m5 ⟨119, [.int .i64 0, .int .i64 0, .int .i64 0, .int .i64 0, .int .u8 0, .nil true, .int .i64 0, .str ⟨#[]⟩, .int .i64 0], 0⟩ hnx5
  have hI5 : InR (m5.add ⟨119, [.int .i64 0, .int .i64 0, .int .i64 0, .int .i64 0, .int .u8 0, .nil true, .int .i64 0, .str ⟨#[]⟩, .int .i64 0], 0⟩) i n2.2 := hI4.fr (Fr.add (S := S0) m5 _ hnx5) rfl rfl
  show vops _ _ _ _ ⟨140, 44, _, m5.add ⟨119, [.int .i64 0, .int .i64 0, .int .i64 0, .int .i64 0, .int .u8 0, .nil true, .int .i64 0, .str ⟨#[]⟩, .int .i64 0], 0⟩⟩
  generalize m5.add ⟨119, [.int .i64 0, .int .i64 0, .int .i64 0, .int .i64 0, .int .u8 0, .nil true, .int .i64 0, .str ⟨#[]⟩, .int .i64 0], 0⟩ = m6 at *
  have hn6' : m6.next ≤ 1048576 := by omega
  iterate 1 (refine vops_cons (n := 0) (by simp (maxSteps := 1000000) [ty119, hz.2]; rfl) ?_)
  show vops _ _ _ _ ⟨140, 44, _, m6.upd m5.next ⟨119, [.int .i64 k.1, .int .i64 a.1, .int .i64 n.1, .int .i64 n2.1, .int .u8 0, .nil true, .int .i64 0, .str (mkS []), .int .i64 0], 0⟩⟩
  have hF6 : Fr SI m5 (m6.upd m5.next ⟨119, [.int .i64 k.1, .int .i64 a.1, .int .i64 n.1, .int .i64 n2.1, .int .u8 0, .nil true, .int .i64 0, .str (mkS []), .int .i64 0], 0⟩) 1 := hF5.updNew hz hn6' (Nat.le_refl _) _
  have hb6 := at_upd_self hz hn6' ⟨119, [.int .i64 k.1, .int .i64 a.1, .int .i64 n.1, .int .i64 n2.1, .int .u8 0, .nil true, .int .i64 0, .str (mkS []), .int .i64 0], 0⟩
  have hI6 := hI5.fr (Fr.upd (S := S119) hz hn6' rfl ⟨119, [.int .i64 k.1, .int .i64 a.1, .int .i64 n.1, .int .i64 n2.1, .int .u8 0, .nil true, .int .i64 0, .str (mkS []), .int .i64 0], 0⟩) rfl rfl
  have hn7 : (m6.upd m5.next ⟨119, [.int .i64 k.1, .int .i64 a.1, .int .i64 n.1, .int .i64 n2.1, .int .u8 0, .nil true, .int .i64 0, .str (mkS []), .int .i64 0], 0⟩).next = m6.next := rfl
  generalize m6.upd m5.next ⟨119, [.int .i64 k.1, .int .i64 a.1, .int .i64 n.1, .int .i64 n2.1, .int .u8 0, .nil true, .int .i64 0, .str (mkS []), .int .i64 0], 0⟩ = m7 at *
  refine vops_nil (vwp_seq (vwp_region ?_))
  iterate 1 (refine vops_cons (n := 0) (by simp (maxSteps := 1000000) []; rfl) ?_)
  refine vops_callv (g := 139) (first := []) (cap := []) (avs := [.ptr i 2 0, .int .i64 255]) rfl rfl rfl (by simp) ?_
  refine (count_ok (most := 255) hI6 (by omega) l4 (by decide) (by decide)).mono fun r m8 hr => ?_
  obtain ⟨rfl, hI7, hF7⟩ := hr
  generalize h5 : dCount 255 n2.2 = w at *
  refine ⟨_, by simp; rfl, ?_⟩
  have hw : w.1 < 256 := by omega
  have e1 : IntKind.u8.wrap ((w.1 : Nat) : Int) = (((UInt8.ofNat w.1).toNat : Nat) : Int) := by rw [toNat_ofNat hw, u8w, Nat.mod_eq_of_lt hw]
  have hwho0 : UInt8.ofNat w.1 = UInt8.ofNat w.1 := rfl
  obtain ⟨who, hwho⟩ : ∃ who, who = UInt8.ofNat w.1 := ⟨_, rfl⟩
  rw [← hwho] at e1
  have hb8 := hF7.keep _ _ hb6 rfl
  have hF78 := hF6.trans hF7 (Nat.le_refl _)
  have hmx78 := hF78.most
  have hn8 : m8.next ≤ 1048576 := by omega
  iterate 3 (refine vops_cons (n := 0) (by simp (maxSteps := 1000000) [ty3, ty5, ty119, e1, hb8.2]; rfl) ?_)
  show vops _ _ _ _ ⟨140, 44, _, m8.upd m5.next ⟨119, [.int .i64 k.1, .int .i64 a.1, .int .i64 n.1, .int .i64 n2.1, .int .u8 (who.toNat : Nat), .nil true, .int .i64 0, .str (mkS []), .int .i64 0], 0⟩⟩
  have hF9 : Fr SI m5 (m8.upd m5.next ⟨119, [.int .i64 k.1, .int .i64 a.1, .int .i64 n.1, .int .i64 n2.1, .int .u8 (who.toNat : Nat), .nil true, .int .i64 0, .str (mkS []), .int .i64 0], 0⟩) 1 := hF78.updNew hb8 hn8 (Nat.le_refl _) _
  have hb9 := at_upd_self hb8 hn8 ⟨119, [.int .i64 k.1, .int .i64 a.1, .int .i64 n.1, .int .i64 n2.1, .int .u8 (who.toNat : Nat), .nil true, .int .i64 0, .str (mkS []), .int .i64 0], 0⟩
  have hI9 := hI7.fr (Fr.upd (S := S119) hb8 hn8 rfl ⟨119, [.int .i64 k.1, .int .i64 a.1, .int .i64 n.1, .int .i64 n2.1, .int .u8 (who.toNat : Nat), .nil true, .int .i64 0, .str (mkS []), .int .i64 0], 0⟩) rfl rfl
  have hn9 : (m8.upd m5.next ⟨119, [.int .i64 k.1, .int .i64 a.1, .int .i64 n.1, .int .i64 n2.1, .int .u8 (who.toNat : Nat), .nil true, .int .i64 0, .str (mkS []), .int .i64 0], 0⟩).next = m8.next := rfl
  generalize m8.upd m5.next ⟨119, [.int .i64 k.1, .int .i64 a.1, .int .i64 n.1, .int .i64 n2.1, .int .u8 (who.toNat : Nat), .nil true, .int .i64 0, .str (mkS []), .int .i64 0], 0⟩ = m9 at *
  refine vops_nil (vwp_seq (vwp_seq (vwp_region ?_)))
  iterate 1 (refine vops_cons (n := 0) (by simp (maxSteps := 1000000) []; rfl) ?_)
  refine vops_callv (g := 139) (first := []) (cap := []) (avs := [.ptr i 2 0, .int .i64 3]) rfl rfl rfl (by simp) ?_
  refine (count_ok (most := 3) hI9 (by omega) l5 (by decide) (by decide)).mono fun r m10 hr => ?_
  obtain ⟨rfl, hI10, hF10⟩ := hr
  generalize h6 : dCount 3 w.2 = c at *
  refine ⟨_, by simp; rfl, ?_⟩
  iterate 1 (refine vops_cons (n := 0) (by simp (maxSteps := 1000000) []; rfl) ?_)
  refine vops_nil (vwp_block ?_)
  have hb10 := hF10.keep _ _ hb9 rfl
  refine (step_loop i m5.next c.1 m5 ⟨k.1, a.1, n.1, n2.1, who, [], 0, [], 0⟩ (by omega) (by omega) (Nat.le_refl _) c.1 0 c.2 [] (.nil true) _ m10 (by omega) rfl l6 hI10 (hF9.trans hF10 (by omega)) hb10 (GrowV.nil _ _ _) (NewR.nil _ _) (by simp) (by simp) (by simp) (by simp)).mono ?_
  rintro ex s ⟨rfl, sl, m11, p', rfl, s0, s3, s2, hI11, hF11, hG11, hb11⟩
  have s2' : sget sl 2 = .ptr m.next 9 0 := by rw [s2]; simp
  have l7 := isl_texts (k := c.1) l6
  have l8 := isl_num (most := mostN) l7
  have l9 := isl_text (most := 30) l8
  rw [List.nil_append] at hG11
  generalize h7 : dTexts c.1 c.2 = pt at *
  have hmx11 := hF11.most
  refine vwp_seq (vwp_region ?_)
  iterate 1 (refine vops_cons (n := 0) (by simp (maxSteps := 1000000) [s0]; rfl) ?_)
  refine vops_callv (g := 138) (first := []) (cap := []) (avs := [.ptr i 2 0]) rfl rfl rfl (by simp) ?_
  refine (number_ok hI11 (by omega) l7).mono fun r m12 hr => ?_
  obtain ⟨rfl, hI12, hF12⟩ := hr
  generalize h8 : dNum mostN pt.2 = act at *
  refine ⟨_, by simp; rfl, ?_⟩
  iterate 1 (refine vops_cons (n := 0) (by simp (maxSteps := 1000000) [s0]; rfl) ?_)
  have hmx12 := hF12.most
  refine vops_callv (g := 249) (first := []) (cap := []) (avs := [.ptr i 2 0, .int .i64 30]) rfl rfl rfl (by simp) ?_
  refine (inText_ok hI12 (by omega) l8 (by decide) (by decide)).mono fun r m13 hr => ?_
  obtain ⟨rfl, hI13, hF13⟩ := hr
  generalize h9 : dText 30 act.2 = sx at *
  refine ⟨_, by simp; rfl, ?_⟩
  iterate 1 (refine vops_cons (n := 0) (by simp (maxSteps := 1000000) [s0]; rfl) ?_)
  have hmx13 := hF13.most
  refine vops_callv (g := 157) (first := []) (cap := []) (avs := [.ptr i 2 0, .int .i64 mostInc]) rfl rfl rfl (by simp; rfl) ?_
  refine (inNum_ok hI13 (by omega) l9 (by decide) (by decide)).mono fun r m14 hr => ?_
  obtain ⟨rfl, hI14, hF14⟩ := hr
  generalize h10 : dNum mostInc sx.2 = num at *
  refine ⟨_, by simp; rfl, ?_⟩
  have hmx14 := hF14.most
  have hF1114 : Fr SI m11 m14 0 := (hF12.trans hF13 (Nat.le_refl _)).trans hF14 (Nat.le_refl _)
  have hb14 := hF1114.keep _ _ hb11 rfl
  have hG14 := hG11.fr hF1114 rfl
  have hn14 : m14.next ≤ 1048576 := by omega
  have hF514 : Fr SI m5 m14 7 := hF11.trans hF1114 (by omega)
  iterate 3 (refine vops_cons (n := 0) (by simp (maxSteps := 1000000) [s3, ty3, ty119, ty65, hb14.2]; rfl) ?_)
  show vops _ _ _ _ ⟨140, 44, _, m14.upd m5.next ⟨119, [.int .i64 k.1, .int .i64 a.1, .int .i64 n.1, .int .i64 n2.1, .int .u8 (who.toNat : Nat), p', .int .i64 act.1, .str (mkS []), .int .i64 0], 0⟩⟩
  have hF15 : Fr SI m5 (m14.upd m5.next ⟨119, [.int .i64 k.1, .int .i64 a.1, .int .i64 n.1, .int .i64 n2.1, .int .u8 (who.toNat : Nat), p', .int .i64 act.1, .str (mkS []), .int .i64 0], 0⟩) 7 := hF514.updNew hb14 hn14 (Nat.le_refl _) _
  have hb15 := at_upd_self hb14 hn14 ⟨119, [.int .i64 k.1, .int .i64 a.1, .int .i64 n.1, .int .i64 n2.1, .int .u8 (who.toNat : Nat), p', .int .i64 act.1, .str (mkS []), .int .i64 0], 0⟩
  have hI15 := hI14.fr (Fr.upd (S := S119) hb14 hn14 rfl ⟨119, [.int .i64 k.1, .int .i64 a.1, .int .i64 n.1, .int .i64 n2.1, .int .u8 (who.toNat : Nat), p', .int .i64 act.1, .str (mkS []), .int .i64 0], 0⟩) rfl rfl
  have hG15 := hG14.upd hn14 hb14 (show (119 : Nat) ≠ 9 by decide) ⟨119, [.int .i64 k.1, .int .i64 a.1, .int .i64 n.1, .int .i64 n2.1, .int .u8 (who.toNat : Nat), p', .int .i64 act.1, .str (mkS []), .int .i64 0], 0⟩
  have hn15 : (m14.upd m5.next ⟨119, [.int .i64 k.1, .int .i64 a.1, .int .i64 n.1, .int .i64 n2.1, .int .u8 (who.toNat : Nat), p', .int .i64 act.1, .str (mkS []), .int .i64 0], 0⟩).next ≤ 1048576 := hn14
  generalize m14.upd m5.next ⟨119, [.int .i64 k.1, .int .i64 a.1, .int .i64 n.1, .int .i64 n2.1, .int .u8 (who.toNat : Nat), p', .int .i64 act.1, .str (mkS []), .int .i64 0], 0⟩ = m15 at *
  iterate 3 (refine vops_cons (n := 0) (by simp (maxSteps := 1000000) [s3, ty9, ty119, ty65, hb15.2]; rfl) ?_)
  show vops _ _ _ _ ⟨140, 44, _, m15.upd m5.next ⟨119, [.int .i64 k.1, .int .i64 a.1, .int .i64 n.1, .int .i64 n2.1, .int .u8 (who.toNat : Nat), p', .int .i64 act.1, .str (mkS sx.1), .int .i64 0], 0⟩⟩
  have hF16 : Fr SI m5 (m15.upd m5.next ⟨119, [.int .i64 k.1, .int .i64 a.1, .int .i64 n.1, .int .i64 n2.1, .int .u8 (who.toNat : Nat), p', .int .i64 act.1, .str (mkS sx.1), .int .i64 0], 0⟩) 7 := hF15.updNew hb15 hn15 (Nat.le_refl _) _
  have hb16 := at_upd_self hb15 hn15 ⟨119, [.int .i64 k.1, .int .i64 a.1, .int .i64 n.1, .int .i64 n2.1, .int .u8 (who.toNat : Nat), p', .int .i64 act.1, .str (mkS sx.1), .int .i64 0], 0⟩
  have hI16 := hI15.fr (Fr.upd (S := S119) hb15 hn15 rfl ⟨119, [.int .i64 k.1, .int .i64 a.1, .int .i64 n.1, .int .i64 n2.1, .int .u8 (who.toNat : Nat), p', .int .i64 act.1, .str (mkS sx.1), .int .i64 0], 0⟩) rfl rfl
  have hG16 := hG15.upd hn15 hb15 (show (119 : Nat) ≠ 9 by decide) ⟨119, [.int .i64 k.1, .int .i64 a.1, .int .i64 n.1, .int .i64 n2.1, .int .u8 (who.toNat : Nat), p', .int .i64 act.1, .str (mkS sx.1), .int .i64 0], 0⟩
  have hn16 : (m15.upd m5.next ⟨119, [.int .i64 k.1, .int .i64 a.1, .int .i64 n.1, .int .i64 n2.1, .int .u8 (who.toNat : Nat), p', .int .i64 act.1, .str (mkS sx.1), .int .i64 0], 0⟩).next ≤ 1048576 := hn15
  generalize m15.upd m5.next ⟨119, [.int .i64 k.1, .int .i64 a.1, .int .i64 n.1, .int .i64 n2.1, .int .u8 (who.toNat : Nat), p', .int .i64 act.1, .str (mkS sx.1), .int .i64 0], 0⟩ = m16 at *
  iterate 3 (refine vops_cons (n := 0) (by simp (maxSteps := 1000000) [s3, ty2, ty119, ty65, hb16.2]; rfl) ?_)
  show vops _ _ _ _ ⟨140, 44, _, m16.upd m5.next ⟨119, [.int .i64 k.1, .int .i64 a.1, .int .i64 n.1, .int .i64 n2.1, .int .u8 (who.toNat : Nat), p', .int .i64 act.1, .str (mkS sx.1), .int .i64 num.1], 0⟩⟩
  have hF17 : Fr SI m5 (m16.upd m5.next ⟨119, [.int .i64 k.1, .int .i64 a.1, .int .i64 n.1, .int .i64 n2.1, .int .u8 (who.toNat : Nat), p', .int .i64 act.1, .str (mkS sx.1), .int .i64 num.1], 0⟩) 7 := hF16.updNew hb16 hn16 (Nat.le_refl _) _
  have hb17 := at_upd_self hb16 hn16 ⟨119, [.int .i64 k.1, .int .i64 a.1, .int .i64 n.1, .int .i64 n2.1, .int .u8 (who.toNat : Nat), p', .int .i64 act.1, .str (mkS sx.1), .int .i64 num.1], 0⟩
  have hI17 := hI16.fr (Fr.upd (S := S119) hb16 hn16 rfl ⟨119, [.int .i64 k.1, .int .i64 a.1, .int .i64 n.1, .int .i64 n2.1, .int .u8 (who.toNat : Nat), p', .int .i64 act.1, .str (mkS sx.1), .int .i64 num.1], 0⟩) rfl rfl
  have hG17 := hG16.upd hn16 hb16 (show (119 : Nat) ≠ 9 by decide) ⟨119, [.int .i64 k.1, .int .i64 a.1, .int .i64 n.1, .int .i64 n2.1, .int .u8 (who.toNat : Nat), p', .int .i64 act.1, .str (mkS sx.1), .int .i64 num.1], 0⟩
  have hn17 : (m16.upd m5.next ⟨119, [.int .i64 k.1, .int .i64 a.1, .int .i64 n.1, .int .i64 n2.1, .int .u8 (who.toNat : Nat), p', .int .i64 act.1, .str (mkS sx.1), .int .i64 num.1], 0⟩).next ≤ 1048576 := hn16
  generalize m16.upd m5.next ⟨119, [.int .i64 k.1, .int .i64 a.1, .int .i64 n.1, .int .i64 n2.1, .int .u8 (who.toNat : Nat), p', .int .i64 act.1, .str (mkS sx.1), .int .i64 num.1], 0⟩ = m17 at *
  refine vops_nil (vwp_seq (vwp_region ?_))
  have ha17 := hF17.keep _ _ ha2' rfl
  have hpc := hG17.cl
  iterate 2 (refine vops_cons (n := 0) (by simp (maxSteps := 1000000) [s3, s2', ty119, hb17.2, ha17.2, hpc]; rfl) ?_)
  have hF18 : Fr SI m (m17.upd m.next ⟨119, [.int .i64 k.1, .int .i64 a.1, .int .i64 n.1, .int .i64 n2.1, .int .u8 (who.toNat : Nat), p', .int .i64 act.1, .str (mkS sx.1), .int .i64 num.1], 0⟩) 10 := ((hF04.trans hF17 (Nat.le_refl _)).updNew ha17 hn17 (Nat.le_refl _) _).le (by decide)
  have ha18 := at_upd_self ha17 hn17 ⟨119, [.int .i64 k.1, .int .i64 a.1, .int .i64 n.1, .int .i64 n2.1, .int .u8 (who.toNat : Nat), p', .int .i64 act.1, .str (mkS sx.1), .int .i64 num.1], 0⟩
  refine vops_nil (vwp_ret ⟨.inr rfl, _, by simp [resultVals, s2', ty119, ha18.2]; rfl, _, rfl, ?_, ?_, hF18⟩)
  · rw [dStep_eq h1 h2 h3 h4 h5 h6 h7 h8 h9 h10]
    exact ⟨p', by rw [← hwho]; rfl, (hG17.upd hn17 ha17 (show (119 : Nat) ≠ 9 by decide) _).sl⟩
  · rw [dStep_eq h1 h2 h3 h4 h5 h6 h7 h8 h9 h10]
    exact hI17.fr (Fr.upd (S := S119) ha17 hn17 rfl _) rfl rfl
end Go.Proofs.Tryz
