/-
  The reference's step taken, whole, on the abstract machine.
-/
import Derived.Test.YtdmaodpmfbgcaaaGreatSRefZ
set_option maxRecDepth 100000
namespace Go.Proofs.Tryz
open Go Go.V Go.SC
attribute [local simp] runOp wanted isHeavy light St.ev St.slot_mk sget_put St.put_mk cl_int cl_bool cl_str cl_ptr cl_nil cl_ref cl_imm cl_agg cl_nilp NewV.at nblt nble nbeq ofConst ofConst1 fieldOf sh_ptr sh_iptr rc_ptr rc_iptr lget mkVal VD.isAgg lenOf bin ar_add ar_sub ar_mul ar_eql ar_neq ar_lss ar_leq ar_gtr ar_geq argSlots un heavy writeCells lput eqVals next_add next_upd fillA zeros natOf_cast natOf_succ
theorem nl0 (k : IntKind) : natOf (.int k 0) = some 0 := rfl
theorem nl1 (k : IntKind) : natOf (.int k 1) = some 1 := rfl
theorem nl2 (k : IntKind) : natOf (.int k 2) = some 2 := rfl
theorem nl3 (k : IntKind) : natOf (.int k 3) = some 3 := rfl
theorem nl4 (k : IntKind) : natOf (.int k 4) = some 4 := rfl
theorem nl5 (k : IntKind) : natOf (.int k 5) = some 5 := rfl
def S180 : TypeId → Bool := fun t => Nat.beq t 180
theorem E8_same (l : List UInt8) : ∀ x ∈ E8 l, AVal.sames x x = true := by
  intro x hx
  simp only [E8, List.mem_map] at hx
  obtain ⟨t, _, rfl⟩ := hx
  simp [u8, AVal.sames, AVal.same]

noncomputable def bad146 : Code := match f146.body with
  | some (.seq _ (.seq _ (.seq _ (.seq _ (.seq (.seq _ (.cond _ c _)) _))))) => c
  | _ => .skip

/-- A step is taken. -/
theorem refTake_ok {m : Mem} {cs : List AVal} {st : IS} (h : InA m cs st) (hN : m.next ≤ 350000) (hil : IsL st 1000000) :
    vcall ES 146 [.agg cs] m fun r m' => ∃ cs1 cs2 x', r = .tup [.agg cs1, .agg cs2] ∧ StepR m' cs1 x' ∧ InA m' cs2 (dStep st).2 ∧ ((dStep st).2 = none ∨ x' = (dStep st).1) ∧ Fr S0 m m' 1200 := by
  obtain ⟨v, b, bs, rfl, hv, hvc, _, _⟩ := h.view
  have hnx : m.next < 1048576 := by omega
  have ha1 := at_add_self m ⟨180, [v, .bool b], 0⟩ hnx
  have hF1 := Fr.add (S := S0) m ⟨180, [v, .bool b], 0⟩ hnx
  have hn1 : (m.add ⟨180, [v, .bool b], 0⟩).next = m.next + 1 := rfl
  refine vcall_body (fn := f146) (c := ((f146.body).getD .skip)) rfl fns146 body146 (by rw [vntmps146]; show 1 ≤ 94; decide) (by rw [vntmps146]; decide) ?_
  rw [vntmps146]
  simp only [vresults146]
  unfold f146
  simp only [Option.getD_some]
  refine vwp_seq (vwp_region ?_)
  iterate 1 (refine vops_cons (n := 0) (by simp (maxSteps := 1000000) [hnx]; rfl) ?_)
  show vops _ _ _ _ ⟨146, 94, _, m.add ⟨180, [v, .bool b], 0⟩⟩
  generalize m.add ⟨180, [v, .bool b], 0⟩ = m1 at *
  have hnx1 : m1.next < 1048576 := by omega
  iterate 1 (refine vops_cons (n := 0) (by simp (maxSteps := 1000000) [ty115, hnx1]; rfl) ?_)
  have ha2 := at_add_self m1 ⟨115, [.int .i64 0, .int .i64 0, .int .i64 0, .int .i64 0, .int .u8 0, .nil true, .int .i64 0, .str ⟨#[]⟩, .int .i64 0], 0⟩ hnx1
  have hF2 := Fr.add (S := S0) m1 ⟨115, [.int .i64 0, .int .i64 0, .int .i64 0, .int .i64 0, .int .u8 0, .nil true, .int .i64 0, .str ⟨#[]⟩, .int .i64 0], 0⟩ hnx1
  have hn2 : (m1.add ⟨115, [.int .i64 0, .int .i64 0, .int .i64 0, .int .i64 0, .int .u8 0, .nil true, .int .i64 0, .str ⟨#[]⟩, .int .i64 0], 0⟩).next = m1.next + 1 := rfl
  generalize m1.add ⟨115, [.int .i64 0, .int .i64 0, .int .i64 0, .int .i64 0, .int .u8 0, .nil true, .int .i64 0, .str ⟨#[]⟩, .int .i64 0], 0⟩ = m2 at *
  have hnx2 : m2.next < 1048576 := by omega
  iterate 1 (refine vops_cons (n := 0) (by simp (maxSteps := 1000000) [ty180, hnx2]; rfl) ?_)
  have ha3 := at_add_self m2 ⟨180, [.nil true, .bool false], 0⟩ hnx2
  have hF3 := Fr.add (S := S0) m2 ⟨180, [.nil true, .bool false], 0⟩ hnx2
  have hn3 : (m2.add ⟨180, [.nil true, .bool false], 0⟩).next = m2.next + 1 := rfl
  generalize m2.add ⟨180, [.nil true, .bool false], 0⟩ = m3 at *
  have hnx3 : m3.next < 1048576 := by omega
  refine vops_nil (vwp_seq (vwp_region ?_))
  iterate 1 (refine vops_cons (n := 0) (by simp (maxSteps := 1000000) [ty380, hnx3]; rfl) ?_)
  have ha4 := at_add_self m3 ⟨380, [.int .i64 0, .int .i64 0, .int .i64 0, .int .i64 0, .int .i64 0, .int .i64 0], 0⟩ hnx3
  have hF4 := Fr.add (S := S0) m3 ⟨380, [.int .i64 0, .int .i64 0, .int .i64 0, .int .i64 0, .int .i64 0, .int .i64 0], 0⟩ hnx3
  have hn4 : (m3.add ⟨380, [.int .i64 0, .int .i64 0, .int .i64 0, .int .i64 0, .int .i64 0, .int .i64 0], 0⟩).next = m3.next + 1 := rfl
  generalize m3.add ⟨380, [.int .i64 0, .int .i64 0, .int .i64 0, .int .i64 0, .int .i64 0, .int .i64 0], 0⟩ = m4 at *
  have hc1 := hF4.keep _ _ (hF3.keep _ _ (hF2.keep _ _ ha1 rfl) rfl) rfl
  have hc2 := hF4.keep _ _ (hF3.keep _ _ ha2 rfl) rfl
  have hc3 := hF4.keep _ _ ha3 rfl
  have hF04 : Fr S0 m m4 4 := ((hF1.trans hF2 (Nat.le_refl _)).trans hF3 (Nat.le_refl _)).trans hF4 (Nat.le_refl _)
  refine vops_nil (vwp_seq (vwp_seq ?_))
  refine vwp_region ?_
  iterate 1 (refine vops_cons (n := 0) (by simp (maxSteps := 1000000) []; rfl) ?_)
  refine vops_nil ?_
  refine vwp_block ?_
  refine (six_loop m m.next m3.next (by omega) (Nat.le_refl _) (by omega) 6 0 st [] [v, .bool b] _ m4 rfl rfl hil (h.fr hF04 rfl) hc1 ha4 (hF04.le (by omega)) (by simp) (by simp) (by simp)).mono ?_
  rintro ex s ⟨rfl, sl5, m5, cs5, rfl, hK5, hA5, hd1, hd4, hF05, hkeep5⟩
  have k1 := hK5 1 (by simp); have k2 := hK5 2 (by simp); have k3 := hK5 3 (by simp); have k4 := hK5 4 (by simp)
  simp at k1 k2 k3 k4
  clear hK5
  have hd2 := hkeep5 _ _ hc2 (by omega) (by omega)
  have hd3 := hkeep5 _ _ hc3 (by omega) (by omega)
  have l1 := isl_num (most := mostN) hil
  have l2 := isl_num (most := mostN) l1
  have l3 := isl_num (most := mostN) l2
  have l4 := isl_num (most := mostN) l3
  have l5 := isl_num (most := mostN) l4
  have l6 := isl_num (most := mostN) l5
  have hD : dNums 6 st = ([(dNum mostN st).1, (dNum mostN (dNum mostN st).2).1, (dNum mostN (dNum mostN (dNum mostN st).2).2).1, (dNum mostN (dNum mostN (dNum mostN (dNum mostN st).2).2).2).1, (dNum mostN (dNum mostN (dNum mostN (dNum mostN (dNum mostN st).2).2).2).2).1, (dNum mostN (dNum mostN (dNum mostN (dNum mostN (dNum mostN (dNum mostN st).2).2).2).2).2).1], (dNum mostN (dNum mostN (dNum mostN (dNum mostN (dNum mostN (dNum mostN st).2).2).2).2).2).2) := rfl
  rw [hD] at hA5 hd4
  clear hD hkeep5
  have cw := @count_of_num (dNum mostN (dNum mostN (dNum mostN (dNum mostN st).2).2).2).2 255 (by decide) (by decide)
  have cw' := @count_not_num (dNum mostN (dNum mostN (dNum mostN (dNum mostN st).2).2).2).2 255 (by decide) (by decide)
  have cc := @count_of_num (dNum mostN (dNum mostN (dNum mostN (dNum mostN (dNum mostN st).2).2).2).2).2 3 (by decide) (by decide)
  have cc' := @count_not_num (dNum mostN (dNum mostN (dNum mostN (dNum mostN (dNum mostN st).2).2).2).2).2 3 (by decide) (by decide)
  generalize h1 : dNum mostN st = k at *
  generalize h2 : dNum mostN k.2 = a at *
  generalize h3 : dNum mostN a.2 = n at *
  generalize h4 : dNum mostN n.2 = n2 at *
  generalize h5 : dNum mostN n2.2 = w at *
  generalize h6 : dNum mostN w.2 = c at *
  have hd4' : m5.at m3.next ⟨380, [.int .i64 k.1, .int .i64 a.1, .int .i64 n.1, .int .i64 n2.1, .int .i64 w.1, .int .i64 c.1], 0⟩ := hd4
  clear hd4
  have hmx5 := hF05.most
  have hup5 := hF05.up
  obtain ⟨who, hwho⟩ : ∃ who, who = UInt8.ofNat (w.1 % 256).toNat := ⟨_, rfl⟩
  have hwhoE : IntKind.u8.wrap w.1 = ((who.toNat : Nat) : Int) := by rw [hwho]; exact u8i _
  have hnx5 : m5.next < 1048576 := by omega
  have e0 := ea380 m3.next 0 (by decide)
  have e1 := ea380 m3.next 1 (by decide)
  have e2 := ea380 m3.next 2 (by decide)
  have e3 := ea380 m3.next 3 (by decide)
  have e4 := ea380 m3.next 4 (by decide)
  have e5 := ea380 m3.next 5 (by decide)
  have hb1lt : m5.next ≠ m.next := by have := hd1.1; omega
  have hb2lt : m5.next ≠ m1.next := by have := hd2.1; omega
  have hb3lt : m5.next ≠ m2.next := by have := hd3.1; omega
  refine vwp_seq (vwp_region ?_)
  iterate 13 (refine vops_cons (n := 0) (by simp (maxSteps := 1000000) [k4, ty2, ty5, ty115, hd4'.2, nl0, nl1, nl2, nl3, nl4, e0, e1, e2, e3, e4, hwhoE, buildVal, structPlace, ty3, ty65, hnx5]; rfl) ?_)
  have hz := at_add_self m5 ⟨115, [.int .i64 0, .int .i64 0, .int .i64 0, .int .i64 0, .int .u8 0, .nil true, .int .i64 0, .str ⟨#[]⟩, .int .i64 0], 0⟩ hnx5
  have hF6 := Fr.add (S := S0) m5 ⟨115, [.int .i64 0, .int .i64 0, .int .i64 0, .int .i64 0, .int .u8 0, .nil true, .int .i64 0, .str ⟨#[]⟩, .int .i64 0], 0⟩ hnx5
  have hn6 : (m5.add ⟨115, [.int .i64 0, .int .i64 0, .int .i64 0, .int .i64 0, .int .u8 0, .nil true, .int .i64 0, .str ⟨#[]⟩, .int .i64 0], 0⟩).next = m5.next + 1 := rfl
  generalize m5.add ⟨115, [.int .i64 0, .int .i64 0, .int .i64 0, .int .i64 0, .int .u8 0, .nil true, .int .i64 0, .str ⟨#[]⟩, .int .i64 0], 0⟩ = m6 at *
  have hnx6 : m6.next ≤ 1048576 := by omega
  iterate 1 (refine vops_cons (n := 0) (by simp (maxSteps := 1000000) [ty115, hz.2]; rfl) ?_)
  show vops _ _ _ _ ⟨146, 94, _, m6.upd m5.next ⟨115, [.int .i64 k.1, .int .i64 a.1, .int .i64 n.1, .int .i64 n2.1, .int .u8 (who.toNat : Nat), .nil true, .int .i64 0, .str (mkS []), .int .i64 0], 0⟩⟩
  have hF7 : Fr S0 m5 (m6.upd m5.next ⟨115, [.int .i64 k.1, .int .i64 a.1, .int .i64 n.1, .int .i64 n2.1, .int .u8 (who.toNat : Nat), .nil true, .int .i64 0, .str (mkS []), .int .i64 0], 0⟩) 1 := hF6.updNew hz hnx6 (Nat.le_refl _) _
  have hb6 := at_upd_self hz hnx6 ⟨115, [.int .i64 k.1, .int .i64 a.1, .int .i64 n.1, .int .i64 n2.1, .int .u8 (who.toNat : Nat), .nil true, .int .i64 0, .str (mkS []), .int .i64 0], 0⟩
  have hn7 : (m6.upd m5.next ⟨115, [.int .i64 k.1, .int .i64 a.1, .int .i64 n.1, .int .i64 n2.1, .int .u8 (who.toNat : Nat), .nil true, .int .i64 0, .str (mkS []), .int .i64 0], 0⟩).next = m6.next := rfl
  generalize m6.upd m5.next ⟨115, [.int .i64 k.1, .int .i64 a.1, .int .i64 n.1, .int .i64 n2.1, .int .u8 (who.toNat : Nat), .nil true, .int .i64 0, .str (mkS []), .int .i64 0], 0⟩ = m7 at *
  have hA7 := hA5.fr hF7 rfl
  have hd17 := hF7.keep _ _ hd1 rfl
  have hd27 := hF7.keep _ _ hd2 rfl
  have hd37 := hF7.keep _ _ hd3 rfl
  have hd47 := hF7.keep _ _ hd4' rfl
  have hF07 := hF05.trans hF7 (Nat.le_refl _)
  have hnx7 : m7.next ≤ 1048576 := by omega
  refine vops_nil (vwp_seq (vwp_seq ?_))
  have bad : (dStep st).2 = none → ∀ (sl : Slots) (K : St → Prop), sget sl 2 = .ptr m1.next 9 0 → sget sl 3 = .ptr m2.next 2 0 → sget sl 6 = .ptr m5.next 9 0 → vwp ES bad146 (Ex.thenV (fun ex st' => (ex = .normal ∨ ex = .ret) ∧ ∃ vs, resultVals ES st' [.cell 2 115, .cell 3 180] = some vs ∧ (∃ cs1 cs2 x', oneOr vs = .tup [.agg cs1, .agg cs2] ∧ StepR st'.mem cs1 x' ∧ InA st'.mem cs2 (dStep st).2 ∧ ((dStep st).2 = none ∨ x' = (dStep st).1) ∧ Fr S0 m st'.mem 1200)) K) ⟨146, 94, sl, m7⟩ := by
    intro hd sl K s2 s3 s6
    unfold bad146 f146
    refine vwp_seq (vwp_region ?_)
    iterate 3 (refine vops_cons (n := 0) (by simp (maxSteps := 1000000) [s2, s3, s6, ty115, ty180, ty22, ty4, buildVal, structPlace, hb6.2, hd27.2]; rfl) ?_)
    show vops _ _ _ _ ⟨146, 94, _, m7.upd m1.next ⟨115, [.int .i64 k.1, .int .i64 a.1, .int .i64 n.1, .int .i64 n2.1, .int .u8 (who.toNat : Nat), .nil true, .int .i64 0, .str (mkS []), .int .i64 0], 0⟩⟩
    have hr2 := at_upd_self hd27 hnx7 ⟨115, [.int .i64 k.1, .int .i64 a.1, .int .i64 n.1, .int .i64 n2.1, .int .u8 (who.toNat : Nat), .nil true, .int .i64 0, .str (mkS []), .int .i64 0], 0⟩
    have hr3 := at_upd hd27 hnx7 hd37 (by omega) ⟨115, [.int .i64 k.1, .int .i64 a.1, .int .i64 n.1, .int .i64 n2.1, .int .u8 (who.toNat : Nat), .nil true, .int .i64 0, .str (mkS []), .int .i64 0], 0⟩
    have hF8 := hF07.updNew hd27 hnx7 (by omega) ⟨115, [.int .i64 k.1, .int .i64 a.1, .int .i64 n.1, .int .i64 n2.1, .int .u8 (who.toNat : Nat), .nil true, .int .i64 0, .str (mkS []), .int .i64 0], 0⟩
    have hn8 : (m7.upd m1.next ⟨115, [.int .i64 k.1, .int .i64 a.1, .int .i64 n.1, .int .i64 n2.1, .int .u8 (who.toNat : Nat), .nil true, .int .i64 0, .str (mkS []), .int .i64 0], 0⟩).next ≤ 1048576 := hnx7
    generalize m7.upd m1.next ⟨115, [.int .i64 k.1, .int .i64 a.1, .int .i64 n.1, .int .i64 n2.1, .int .u8 (who.toNat : Nat), .nil true, .int .i64 0, .str (mkS []), .int .i64 0], 0⟩ = m8 at *
    iterate 1 (refine vops_cons (n := 0) (by simp (maxSteps := 1000000) [s2, s3, s6, ty180, hr3.2]; rfl) ?_)
    show vops _ _ _ _ ⟨146, 94, _, m8.upd m2.next ⟨180, [.nil true, .bool true], 0⟩⟩
    have hr29 := at_upd hr3 hn8 hr2 (by omega) ⟨180, [.nil true, .bool true], 0⟩
    have hr39 := at_upd_self hr3 hn8 ⟨180, [.nil true, .bool true], 0⟩
    have hF9 := hF8.updNew hr3 hn8 (by omega) ⟨180, [.nil true, .bool true], 0⟩
    generalize m8.upd m2.next ⟨180, [.nil true, .bool true], 0⟩ = m9 at *
    refine vops_nil (vwp_ret ⟨.inr rfl, _, by simp [resultVals, s2, s3, ty115, ty180, hr29.2, hr39.2]; rfl, _, _, ⟨k.1, a.1, n.1, n2.1, who, [], 0, [], 0⟩, rfl, ⟨.nil true, rfl, .nil true⟩, ?_, .inl hd, hF9.le (by decide)⟩)
    rw [hd]; rfl

  by_cases d0 : w.1 < 0
  · skip
    refine vwp_region ?_
    iterate 18 (refine vops_cons (n := 0) (by simp (maxSteps := 1000000) [k4, ty2, hd47.2, nl4, nl5, e4, e5, d0]; rfl) ?_)
    refine vops_nil ?_
    refine vwp_cond (t := true) (by simp [St.ev, St.slot_mk, sget_put]) ?_
    refine bad (dStep_bad5 (by rw [h1, h2, h3, h4]; exact cw' (by omega))) _ _ ?_ ?_ ?_
    · simp [k2]
    · simp [k3]
    · simp
  by_cases d1 : 255 < w.1
  · skip
    refine vwp_region ?_
    iterate 18 (refine vops_cons (n := 0) (by simp (maxSteps := 1000000) [k4, ty2, hd47.2, nl4, nl5, e4, e5, d0, d1]; rfl) ?_)
    refine vops_nil ?_
    refine vwp_cond (t := true) (by simp [St.ev, St.slot_mk, sget_put]) ?_
    refine bad (dStep_bad5 (by rw [h1, h2, h3, h4]; exact cw' (by omega))) _ _ ?_ ?_ ?_
    · simp [k2]
    · simp [k3]
    · simp
  have hcw := cw ⟨by omega, by omega⟩
  by_cases d2 : c.1 < 0
  · skip
    refine vwp_region ?_
    iterate 18 (refine vops_cons (n := 0) (by simp (maxSteps := 1000000) [k4, ty2, hd47.2, nl4, nl5, e4, e5, d0, d1, d2]; rfl) ?_)
    refine vops_nil ?_
    refine vwp_cond (t := true) (by simp [St.ev, St.slot_mk, sget_put]) ?_
    refine bad (dStep_bad6 (by rw [h1, h2, h3, h4, hcw]; exact cc' (by omega))) _ _ ?_ ?_ ?_
    · simp [k2]
    · simp [k3]
    · simp
  by_cases d3 : 3 < c.1
  · skip
    refine vwp_region ?_
    iterate 18 (refine vops_cons (n := 0) (by simp (maxSteps := 1000000) [k4, ty2, hd47.2, nl4, nl5, e4, e5, d0, d1, d2, d3]; rfl) ?_)
    refine vops_nil ?_
    refine vwp_cond (t := true) (by simp [St.ev, St.slot_mk, sget_put]) ?_
    refine bad (dStep_bad6 (by rw [h1, h2, h3, h4, hcw]; exact cc' (by omega))) _ _ ?_ ?_ ?_
    · simp [k2]
    · simp [k3]
    · simp
  have hcc := cc ⟨by omega, by omega⟩
  refine vwp_region ?_
  iterate 18 (refine vops_cons (n := 0) (by simp (maxSteps := 1000000) [k4, ty2, hd47.2, nl4, nl5, e4, e5, d0, d1, d2, d3]; rfl) ?_)
  refine vops_nil ?_
  refine vwp_cond (t := false) (by simp [St.ev, St.slot_mk, sget_put]) (vwp_skip ?_)
  have hwE : UInt8.ofNat w.1.toNat = who := by rw [hwho]; congr 1; omega
  obtain ⟨cn, hcn⟩ := Int.eq_ofNat_of_zero_le (show 0 ≤ c.1 by omega)
  have hcnt : c.1.toNat = cn := by omega
  rw [hcnt] at hcc
  have lc : IsL c.2 1000000 := l6
  have k1' : sget (sl5 : Slots) 1 = .ptr m.next 2 0 := k1
  rw [hcn] at hd47
  refine vwp_seq (vwp_seq ?_)
  refine vwp_region ?_
  iterate 3 (refine vops_cons (n := 0) (by simp (maxSteps := 1000000) [k4, ty2, hd47.2, nl5, e5]; rfl) ?_)
  refine vops_nil ?_
  refine vwp_block ?_
  obtain ⟨v5, b5, bs5, rfl, hv5, hvc5, _, _⟩ := hA7.view
  refine (takeTexts_loop m.next m5.next cn m ⟨k.1, a.1, n.1, n2.1, who, [], 0, [], 0⟩ (by omega) (by omega) (Nat.le_refl _) (by omega) cn 0 c.2 [] (.nil true) [v5, .bool b5] _ m7 (by omega) rfl lc hA7 hd17 (hF07.le (by omega)) hb6 (GrowV.nil _ _ _) (NewR.nil _ _) (by simp [k1]) (by simp) (by simp) (by simp)).mono ?_
  rintro ex s ⟨rfl, sl8, m8, p', cs8, rfl, hK8, hA8, hd18, hF08, hG8, hN8, hb8, hkeep8⟩
  have q1 := hK8 1 (by simp); have q2 := hK8 2 (by simp); have q3 := hK8 3 (by simp); have q6 := hK8 6 (by simp)
  simp [k1, k2, k3] at q1 q2 q3 q6
  clear hK8
  have hd28 := hkeep8 _ _ hd27 (by omega) (by omega) (by decide)
  have hd38 := hkeep8 _ _ hd37 (by omega) (by omega) (by decide)
  clear hkeep8
  rw [List.nil_append] at hG8
  have m7l := isl_texts (k := cn) lc
  have m8l := isl_num (most := mostN) m7l
  have m9l := isl_text (most := 30) m8l
  generalize h7 : dTexts cn c.2 = pt at *
  have hmx8 := hF08.most
  have h8up : m5.next + 1 ≤ m8.next := by have := hb8.1; omega
  refine vwp_seq ?_
  refine vwp_region ?_
  iterate 1 (refine vops_cons (n := 0) (by simp (maxSteps := 1000000) []; rfl) ?_)
  refine vops_nil ?_
  obtain ⟨v8, b8, bs8, rfl, hv8, hvc8, _, _⟩ := hA8.view
  refine vwp_seq (vwp_region ?_)
  iterate 1 (refine vops_cons (n := 0) (by simp (maxSteps := 1000000) [q1, ty180, hd18.2]; rfl) ?_)
  refine vops_callv (g := 77) (first := []) (cap := []) (avs := [.agg [v8, .bool b8], .int .i64 mostN]) rfl rfl rfl (by simp; rfl) ?_
  refine (refInNum_ok (m := m8) hA8 (by omega) m7l (by decide) (by decide)).mono fun r m9 hr => ?_
  obtain ⟨cs9, rfl, hA9, hF9⟩ := hr
  generalize h8 : dNum mostN pt.2 = act at *
  obtain ⟨v9, b9, bs9, rfl, hv9, hvc9, _, _⟩ := hA9.view
  have hmx9 := hF9.most
  have hn9 : m9.next ≤ 1048576 := by omega
  have hd19 := hF9.keep _ _ hd18 rfl
  have hd29 := hF9.keep _ _ hd28 rfl
  have hd39 := hF9.keep _ _ hd38 rfl
  have hb9 := hF9.keep _ _ hb8 rfl
  have hG9 := hG8.fr hF9 rfl
  have hF09 := hF08.trans hF9 (Nat.le_refl _)
  refine ⟨_, by simp; rfl, ?_⟩
  iterate 5 (refine vops_cons (n := 0) (by simp (maxSteps := 1000000) [q1, ty180, hd19.2, hvc9]; rfl) ?_)
  show vops _ _ _ _ ⟨146, 94, _, m9.upd m.next ⟨180, [v9, .bool b9], 0⟩⟩
  have hu10 := Fr.upd (S := S180) hd19 hn9 rfl ⟨180, [v9, .bool b9], 0⟩
  have hF10 := hF09.updNew hd19 hn9 (Nat.le_refl _) ⟨180, [v9, .bool b9], 0⟩
  have hd110 := at_upd_self hd19 hn9 ⟨180, [v9, .bool b9], 0⟩
  have hd310 := at_upd hd19 hn9 hd39 (by omega) ⟨180, [v9, .bool b9], 0⟩
  have hn10 : (m9.upd m.next ⟨180, [v9, .bool b9], 0⟩).next = m9.next := rfl
  generalize m9.upd m.next ⟨180, [v9, .bool b9], 0⟩ = m10 at *
  have hd210 := hu10.keep _ _ hd29 rfl
  have hb10 := hu10.keep _ _ hb9 rfl
  have hG10 := hG9.fr hu10 rfl
  have hA10 := hA9.fr hu10 rfl
  have hnx10 : m10.next ≤ 1048576 := by omega
  refine vops_nil (vwp_seq (vwp_region ?_))
  iterate 4 (refine vops_cons (n := 0) (by simp (maxSteps := 1000000) [q6, ty115, ty65, ty3, hb10.2]; rfl) ?_)
  show vops _ _ _ _ ⟨146, 94, _, m10.upd m5.next ⟨115, [.int .i64 k.1, .int .i64 a.1, .int .i64 n.1, .int .i64 n2.1, .int .u8 (who.toNat : Nat), p', .int .i64 act.1, .str (mkS []), .int .i64 0], 0⟩⟩
  have hu11 := Fr.upd (S := S115) hb10 hnx10 rfl ⟨115, [.int .i64 k.1, .int .i64 a.1, .int .i64 n.1, .int .i64 n2.1, .int .u8 (who.toNat : Nat), p', .int .i64 act.1, .str (mkS []), .int .i64 0], 0⟩
  have hF11 := hF10.updNew hb10 hnx10 (by omega) ⟨115, [.int .i64 k.1, .int .i64 a.1, .int .i64 n.1, .int .i64 n2.1, .int .u8 (who.toNat : Nat), p', .int .i64 act.1, .str (mkS []), .int .i64 0], 0⟩
  have hb11 := at_upd_self hb10 hnx10 ⟨115, [.int .i64 k.1, .int .i64 a.1, .int .i64 n.1, .int .i64 n2.1, .int .u8 (who.toNat : Nat), p', .int .i64 act.1, .str (mkS []), .int .i64 0], 0⟩
  have hd211 := at_upd hb10 hnx10 hd210 (by omega) ⟨115, [.int .i64 k.1, .int .i64 a.1, .int .i64 n.1, .int .i64 n2.1, .int .u8 (who.toNat : Nat), p', .int .i64 act.1, .str (mkS []), .int .i64 0], 0⟩
  have hn11 : (m10.upd m5.next ⟨115, [.int .i64 k.1, .int .i64 a.1, .int .i64 n.1, .int .i64 n2.1, .int .u8 (who.toNat : Nat), p', .int .i64 act.1, .str (mkS []), .int .i64 0], 0⟩).next = m10.next := rfl
  generalize m10.upd m5.next ⟨115, [.int .i64 k.1, .int .i64 a.1, .int .i64 n.1, .int .i64 n2.1, .int .u8 (who.toNat : Nat), p', .int .i64 act.1, .str (mkS []), .int .i64 0], 0⟩ = m11 at *
  have hd111 := hu11.keep _ _ hd110 rfl
  have hd311 := hu11.keep _ _ hd310 rfl
  have hG11 := hG10.fr hu11 rfl
  have hA11 := hA10.fr hu11 rfl
  refine vops_nil (vwp_seq (vwp_region ?_))
  iterate 1 (refine vops_cons (n := 0) (by simp (maxSteps := 1000000) [q1, ty180, hd111.2]; rfl) ?_)
  refine vops_callv (g := 250) (first := []) (cap := []) (avs := [.agg [v9, .bool b9], .int .i64 30]) rfl rfl rfl (by simp) ?_
  refine (refInText_ok (m := m11) hA11 (by omega) m8l (by decide) (by decide)).mono fun r m12 hr => ?_
  obtain ⟨cs12, rfl, hA12, hF12⟩ := hr
  generalize h9 : dText 30 act.2 = sx at *
  obtain ⟨v12, b12, bs12, rfl, hv12, hvc12, _, _⟩ := hA12.view
  have hmx12 := hF12.most
  have hn12 : m12.next ≤ 1048576 := by omega
  have hd112 := hF12.keep _ _ hd111 rfl
  have hd212 := hF12.keep _ _ hd211 rfl
  have hd312 := hF12.keep _ _ hd311 rfl
  have hb12x := hF12.keep _ _ hb11 rfl
  have hG12 := hG11.fr hF12 rfl
  have hF012 := hF11.trans hF12 (Nat.le_refl _)
  refine ⟨_, by simp; rfl, ?_⟩
  iterate 6 (refine vops_cons (n := 0) (by simp (maxSteps := 1000000) [q6, ty115, ty65, ty9, hb12x.2]; rfl) ?_)
  show vops _ _ _ _ ⟨146, 94, _, m12.upd m5.next ⟨115, [.int .i64 k.1, .int .i64 a.1, .int .i64 n.1, .int .i64 n2.1, .int .u8 (who.toNat : Nat), p', .int .i64 act.1, .str (mkS sx.1), .int .i64 0], 0⟩⟩
  have hu13 := Fr.upd (S := S115) hb12x hn12 rfl ⟨115, [.int .i64 k.1, .int .i64 a.1, .int .i64 n.1, .int .i64 n2.1, .int .u8 (who.toNat : Nat), p', .int .i64 act.1, .str (mkS sx.1), .int .i64 0], 0⟩
  have hF13 := hF012.updNew hb12x hn12 (by omega) ⟨115, [.int .i64 k.1, .int .i64 a.1, .int .i64 n.1, .int .i64 n2.1, .int .u8 (who.toNat : Nat), p', .int .i64 act.1, .str (mkS sx.1), .int .i64 0], 0⟩
  have hb13 := at_upd_self hb12x hn12 ⟨115, [.int .i64 k.1, .int .i64 a.1, .int .i64 n.1, .int .i64 n2.1, .int .u8 (who.toNat : Nat), p', .int .i64 act.1, .str (mkS sx.1), .int .i64 0], 0⟩
  have hd213 := at_upd hb12x hn12 hd212 (by omega) ⟨115, [.int .i64 k.1, .int .i64 a.1, .int .i64 n.1, .int .i64 n2.1, .int .u8 (who.toNat : Nat), p', .int .i64 act.1, .str (mkS sx.1), .int .i64 0], 0⟩
  have hn13 : (m12.upd m5.next ⟨115, [.int .i64 k.1, .int .i64 a.1, .int .i64 n.1, .int .i64 n2.1, .int .u8 (who.toNat : Nat), p', .int .i64 act.1, .str (mkS sx.1), .int .i64 0], 0⟩).next = m12.next := rfl
  generalize m12.upd m5.next ⟨115, [.int .i64 k.1, .int .i64 a.1, .int .i64 n.1, .int .i64 n2.1, .int .u8 (who.toNat : Nat), p', .int .i64 act.1, .str (mkS sx.1), .int .i64 0], 0⟩ = m13 at *
  have hd113 := hu13.keep _ _ hd112 rfl
  have hd313 := hu13.keep _ _ hd312 rfl
  have hG13 := hG12.fr hu13 rfl
  have hA13 := hA12.fr hu13 rfl
  have hnx13 : m13.next ≤ 1048576 := by omega
  iterate 1 (refine vops_cons (n := 0) (by simp (maxSteps := 1000000) [q1, ty180, hd113.2, hvc12]; rfl) ?_)
  show vops _ _ _ _ ⟨146, 94, _, m13.upd m.next ⟨180, [v12, .bool b12], 0⟩⟩
  have hu14 := Fr.upd (S := S180) hd113 hnx13 rfl ⟨180, [v12, .bool b12], 0⟩
  have hF14 := hF13.updNew hd113 hnx13 (Nat.le_refl _) ⟨180, [v12, .bool b12], 0⟩
  have hd114 := at_upd_self hd113 hnx13 ⟨180, [v12, .bool b12], 0⟩
  have hd314 := at_upd hd113 hnx13 hd313 (by omega) ⟨180, [v12, .bool b12], 0⟩
  have hn14 : (m13.upd m.next ⟨180, [v12, .bool b12], 0⟩).next = m13.next := rfl
  generalize m13.upd m.next ⟨180, [v12, .bool b12], 0⟩ = m14 at *
  have hd214 := hu14.keep _ _ hd213 rfl
  have hb14 := hu14.keep _ _ hb13 rfl
  have hG14 := hG13.fr hu14 rfl
  have hA14 := hA13.fr hu14 rfl
  refine vops_nil (vwp_seq (vwp_region ?_))
  iterate 1 (refine vops_cons (n := 0) (by simp (maxSteps := 1000000) [q1, ty180, hd114.2]; rfl) ?_)
  refine vops_callv (g := 77) (first := []) (cap := []) (avs := [.agg [v12, .bool b12], .int .i64 mostInc]) rfl rfl rfl (by simp; rfl) ?_
  refine (refInNum_ok (m := m14) hA14 (by omega) m9l (by decide) (by decide)).mono fun r m15 hr => ?_
  obtain ⟨cs15, rfl, hA15, hF15⟩ := hr
  generalize h10 : dNum mostInc sx.2 = num at *
  obtain ⟨v15, b15, bs15, rfl, hv15, hvc15, _, _⟩ := hA15.view
  have hmx15 := hF15.most
  have hn15 : m15.next ≤ 1048576 := by omega
  have hd115 := hF15.keep _ _ hd114 rfl
  have hd215 := hF15.keep _ _ hd214 rfl
  have hd315 := hF15.keep _ _ hd314 rfl
  have hb15x := hF15.keep _ _ hb14 rfl
  have hG15 := hG14.fr hF15 rfl
  have hF015 := hF14.trans hF15 (Nat.le_refl _)
  refine ⟨_, by simp; rfl, ?_⟩
  iterate 6 (refine vops_cons (n := 0) (by simp (maxSteps := 1000000) [q6, ty115, ty65, ty2, hb15x.2]; rfl) ?_)
  show vops _ _ _ _ ⟨146, 94, _, m15.upd m5.next ⟨115, [.int .i64 k.1, .int .i64 a.1, .int .i64 n.1, .int .i64 n2.1, .int .u8 (who.toNat : Nat), p', .int .i64 act.1, .str (mkS sx.1), .int .i64 num.1], 0⟩⟩
  have hu16 := Fr.upd (S := S115) hb15x hn15 rfl ⟨115, [.int .i64 k.1, .int .i64 a.1, .int .i64 n.1, .int .i64 n2.1, .int .u8 (who.toNat : Nat), p', .int .i64 act.1, .str (mkS sx.1), .int .i64 num.1], 0⟩
  have hF16 := hF015.updNew hb15x hn15 (by omega) ⟨115, [.int .i64 k.1, .int .i64 a.1, .int .i64 n.1, .int .i64 n2.1, .int .u8 (who.toNat : Nat), p', .int .i64 act.1, .str (mkS sx.1), .int .i64 num.1], 0⟩
  have hb16 := at_upd_self hb15x hn15 ⟨115, [.int .i64 k.1, .int .i64 a.1, .int .i64 n.1, .int .i64 n2.1, .int .u8 (who.toNat : Nat), p', .int .i64 act.1, .str (mkS sx.1), .int .i64 num.1], 0⟩
  have hd216 := at_upd hb15x hn15 hd215 (by omega) ⟨115, [.int .i64 k.1, .int .i64 a.1, .int .i64 n.1, .int .i64 n2.1, .int .u8 (who.toNat : Nat), p', .int .i64 act.1, .str (mkS sx.1), .int .i64 num.1], 0⟩
  have hn16 : (m15.upd m5.next ⟨115, [.int .i64 k.1, .int .i64 a.1, .int .i64 n.1, .int .i64 n2.1, .int .u8 (who.toNat : Nat), p', .int .i64 act.1, .str (mkS sx.1), .int .i64 num.1], 0⟩).next = m15.next := rfl
  generalize m15.upd m5.next ⟨115, [.int .i64 k.1, .int .i64 a.1, .int .i64 n.1, .int .i64 n2.1, .int .u8 (who.toNat : Nat), p', .int .i64 act.1, .str (mkS sx.1), .int .i64 num.1], 0⟩ = m16 at *
  have hd116 := hu16.keep _ _ hd115 rfl
  have hd316 := hu16.keep _ _ hd315 rfl
  have hG16 := hG15.fr hu16 rfl
  have hA16 := hA15.fr hu16 rfl
  have hnx16 : m16.next ≤ 1048576 := by omega
  iterate 1 (refine vops_cons (n := 0) (by simp (maxSteps := 1000000) [q1, ty180, hd116.2, hvc15]; rfl) ?_)
  show vops _ _ _ _ ⟨146, 94, _, m16.upd m.next ⟨180, [v15, .bool b15], 0⟩⟩
  have hu17 := Fr.upd (S := S180) hd116 hnx16 rfl ⟨180, [v15, .bool b15], 0⟩
  have hF17 := hF16.updNew hd116 hnx16 (Nat.le_refl _) ⟨180, [v15, .bool b15], 0⟩
  have hd117 := at_upd_self hd116 hnx16 ⟨180, [v15, .bool b15], 0⟩
  have hd317 := at_upd hd116 hnx16 hd316 (by omega) ⟨180, [v15, .bool b15], 0⟩
  have hn17 : (m16.upd m.next ⟨180, [v15, .bool b15], 0⟩).next = m16.next := rfl
  generalize m16.upd m.next ⟨180, [v15, .bool b15], 0⟩ = m17 at *
  have hd217 := hu17.keep _ _ hd216 rfl
  have hb17 := hu17.keep _ _ hb16 rfl
  have hG17 := hG16.fr hu17 rfl
  have hA17 := hA16.fr hu17 rfl
  have hnx17 : m17.next ≤ 1048576 := by omega
  have hpc := hG17.cl
  refine vops_nil (vwp_seq (vwp_draw plan146 rfl ?_))
  iterate 3 (refine vpl_run (n := 0) rfl (by simp (maxSteps := 1000000) [q1, q2, q3, q6, ty115, ty180, hb17.2, hd117.2, hd217.2, hpc]; rfl) ?_)
  show vpl _ _ _ _ ⟨146, 94, _, m17.upd m1.next ⟨115, [.int .i64 k.1, .int .i64 a.1, .int .i64 n.1, .int .i64 n2.1, .int .u8 (who.toNat : Nat), p', .int .i64 act.1, .str (mkS sx.1), .int .i64 num.1], 0⟩⟩
  have hu18 := Fr.upd (S := S115) hd217 hnx17 rfl ⟨115, [.int .i64 k.1, .int .i64 a.1, .int .i64 n.1, .int .i64 n2.1, .int .u8 (who.toNat : Nat), p', .int .i64 act.1, .str (mkS sx.1), .int .i64 num.1], 0⟩
  have hF18 := hF17.updNew hd217 hnx17 (by omega) ⟨115, [.int .i64 k.1, .int .i64 a.1, .int .i64 n.1, .int .i64 n2.1, .int .u8 (who.toNat : Nat), p', .int .i64 act.1, .str (mkS sx.1), .int .i64 num.1], 0⟩
  have hr18 := at_upd_self hd217 hnx17 ⟨115, [.int .i64 k.1, .int .i64 a.1, .int .i64 n.1, .int .i64 n2.1, .int .u8 (who.toNat : Nat), p', .int .i64 act.1, .str (mkS sx.1), .int .i64 num.1], 0⟩
  have hn18 : (m17.upd m1.next ⟨115, [.int .i64 k.1, .int .i64 a.1, .int .i64 n.1, .int .i64 n2.1, .int .u8 (who.toNat : Nat), p', .int .i64 act.1, .str (mkS sx.1), .int .i64 num.1], 0⟩).next = m17.next := rfl
  generalize m17.upd m1.next ⟨115, [.int .i64 k.1, .int .i64 a.1, .int .i64 n.1, .int .i64 n2.1, .int .u8 (who.toNat : Nat), p', .int .i64 act.1, .str (mkS sx.1), .int .i64 num.1], 0⟩ = m18 at *
  have hd118 := hu18.keep _ _ hd117 rfl
  have hd318 := hu18.keep _ _ hd317 rfl
  have hG18 := hG17.fr hu18 rfl
  have hA18 := hA17.fr hu18 rfl
  have hnx18 : m18.next ≤ 1048576 := by omega
  have hsame15 : AVal.same v15 v15 = true := SlV.same hv15 (E8_same _)
  refine vpl_chk (d := 93) (v := .agg [v15, .bool b15]) rfl rfl ?_ rfl ?_ ?_
  · simp [q1, ty180, hd118.2]
  · simp [AVal.same, AVal.sames, hsame15]
  iterate 1 (refine vpl_run (n := 0) rfl (by simp (maxSteps := 1000000) [q3, ty180, hd318.2, hvc15]; rfl) ?_)
  show vpl _ _ _ _ ⟨146, 94, _, m18.upd m2.next ⟨180, [v15, .bool b15], 0⟩⟩
  have hu19 := Fr.upd (S := S180) hd318 hnx18 rfl ⟨180, [v15, .bool b15], 0⟩
  have hF19 := hF18.updNew hd318 hnx18 (by omega) ⟨180, [v15, .bool b15], 0⟩
  have hr19 := hu19.keep _ _ hr18 rfl
  have hs19 := at_upd_self hd318 hnx18 ⟨180, [v15, .bool b15], 0⟩
  generalize m18.upd m2.next ⟨180, [v15, .bool b15], 0⟩ = m19 at *
  have hG19 := hG18.fr hu19 rfl
  have hA19 := hA18.fr hu19 rfl
  have hE := dStep_eq h1 h2 h3 h4 hcw hcc h7 h8 h9 h10
  refine vpl_nil (vwp_ret ⟨.inr rfl, _, by simp [resultVals, q2, q3, ty115, ty180, hr19.2, hs19.2]; rfl, _, _, ⟨k.1, a.1, n.1, n2.1, who, pt.1, act.1, sx.1, num.1⟩, rfl, ⟨p', rfl, hG19.sl⟩, ?_, .inr ?_, hF19.le (by omega)⟩)
  · rw [hE]; exact hA19
  · rw [hE]; simp only [hwE]
end Go.Proofs.Tryz
