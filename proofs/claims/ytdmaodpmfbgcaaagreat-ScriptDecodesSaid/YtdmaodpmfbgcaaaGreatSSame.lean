/-
  Two scripts alike are told to be so, on the abstract machine.
-/
import Derived.Test.YtdmaodpmfbgcaaaGreatSRight
set_option maxRecDepth 100000
namespace Go.Proofs.Tryz
open Go Go.V Go.SC
attribute [local simp] runOp wanted isHeavy light St.ev St.slot_mk sget_put St.put_mk cl_int cl_bool cl_str cl_ptr cl_nil cl_ref cl_imm cl_agg cl_nilp NewV.at nblt nble nbeq ofConst ofConst1 fieldOf sh_ptr sh_iptr rc_ptr rc_iptr lget mkVal VD.isAgg lenOf bin ar_add ar_sub ar_mul ar_eql ar_neq ar_lss ar_leq ar_gtr ar_geq argSlots un heavy writeCells lput eqVals next_add next_upd fillA zeros natOf_cast
theorem fns145 : ES.fns.get 145 = some f145 := by kernel_rfl
theorem vntmps145 : f145.ntmps = 52 := by kernel_rfl
theorem vresults145 : f145.results.toList = [.tmp 4] := by kernel_rfl
theorem body145 : f145.body = some ((f145.body).getD .skip) := by kernel_rfl
theorem fns56 : ES.fns.get 56 = some f56 := by kernel_rfl
theorem vntmps56 : f56.ntmps = 94 := by kernel_rfl
theorem vresults56 : f56.results.toList = [.tmp 4] := by kernel_rfl
theorem body56 : f56.body = some ((f56.body).getD .skip) := by kernel_rfl
theorem strOp_neq (x y : ByteArray) : strOp .neq x y = some (.bool (!(x.toList == y.toList))) := rfl
theorem plan145 : ES.plans.get 593926 = some [.run 0, .run 1, .run 2, .run 3, .run 4, .run 5, .run 6, .run 7, .run 8, .run 9, .run 10] := by kernel_rfl
theorem plan56 : ES.plans.get 229382 = some [.run 0, .run 1, .run 2, .run 3, .run 4, .run 5, .run 6, .run 7, .run 8, .run 9, .run 10, .run 11, .run 12, .chk 6, .chk 9, .run 13] := by kernel_rfl

/-! ### A value is itself -/
theorem sames_append : ∀ (a b : List AVal), AVal.sames a a = true → AVal.sames b b = true → AVal.sames (a ++ b) (a ++ b) = true
  | [], _, _, h => h
  | x :: a, b, h1, h2 => by
    simp only [AVal.sames, Bool.and_eq_true, List.cons_append] at h1 ⊢
    exact ⟨h1.1, sames_append a b h1.2 h2⟩
theorem sames_flat : ∀ (l : List (List AVal)), (∀ x ∈ l, AVal.sames x x = true) → AVal.sames l.flatten l.flatten = true
  | [], _ => rfl
  | x :: l, h => by
    rw [List.flatten_cons]
    exact sames_append _ _ (h x (List.mem_cons_self ..)) (sames_flat l fun y hy => h y (List.mem_cons_of_mem _ hy))
theorem SlV.same {m : Mem} {ty sz : Nat} {v : AVal} {els : List (List AVal)} (h : SlV m ty sz v els) (he : ∀ x ∈ els, AVal.sames x x = true) : AVal.same v v = true := by
  cases h with
  | nil s => simp [AVal.same]
  | imm _ _ => simp [AVal.same, sames_flat _ he]
  | ref => simp [AVal.same]
theorem strE_same (l : List (List UInt8)) : ∀ x ∈ strE l, AVal.sames x x = true := by
  intro x hx
  simp only [strE, List.mem_map] at hx
  obtain ⟨t, _, rfl⟩ := hx
  simp [AVal.sames, AVal.same]
theorem stepC_same {m : Mem} {x : LStep} {p : AVal} (h : SlV m 9 1 p (strE x.path)) : AVal.sames (stepC x p) (stepC x p) = true := by
  have := SlV.same h (strE_same _)
  simp [stepC, AVal.sames, AVal.same, this]

noncomputable def loop145 : Code := match f145.body with
  | some (.seq _ (.seq _ (.seq (.seq _ (.block _ l)) _))) => l
  | _ => .skip
theorem sameOp_loop (b2 b3 : Nat) (mm : Mem) (x : LStep) (p p' : AVal) (hb2 : mm.at b2 ⟨65, [p, .int .i64 x.act, .str (mkS x.s), .int .i64 x.num], 0⟩) (hb3 : mm.at b3 ⟨65, [p', .int .i64 x.act, .str (mkS x.s), .int .i64 x.num], 0⟩) (hp : SlV mm 9 1 p (strE x.path)) (hp' : SlV mm 9 1 p' (strE x.path)) (hl : x.path.length ≤ 100000000) :
    ∀ (j k : Nat) (sl : Slots), k + j = x.path.length → sget sl 2 = .ptr b2 4 0 → sget sl 3 = .ptr b3 4 0 → sget sl 36 = .int .i64 (x.path.length : Nat) → sget sl 37 = .int .i64 (k : Nat) →
    vwp ES loop145 (fun ex st => ex = .exit 0 ∧ ∃ sl', st = ⟨145, 52, sl', mm⟩) ⟨145, 52, sl, mm⟩ := by
  have hpc := hp.cl
  have hpc' := hp'.cl
  intro j
  induction j with
  | zero =>
    intro k sl hij s2 s3 s36 s37
    obtain rfl : k = x.path.length := by omega
    unfold loop145 f145
    refine vwp_loop (vwp_seq ?_)
    refine vwp_region ?_
    iterate 1 (refine vops_cons (n := 0) (by simp (maxSteps := 1000000) [s36, s37]; rfl) ?_)
    refine vops_nil ?_
    refine vwp_seq (vwp_cond (t := false) (by simp [St.ev, St.slot_mk, sget_put]) (vwp_exit ?_))
    exact ⟨rfl, _, rfl⟩
  | succ j ih =>
    intro k sl hij s2 s3 s36 s37
    have hk : k < x.path.length := by omega
    have hk' : (k : Int) < (x.path.length : Int) := by omega
    obtain ⟨t, ht⟩ : ∃ t, x.path[k]? = some t := ⟨x.path[k], List.getElem?_eq_getElem hk⟩
    obtain ⟨q, hA, hR⟩ := hp.elem (E := ES) ty63 rfl ty9 rfl (by decide) (i := k) (x := [.str (mkS t)]) (by simp [strE, ht])
    obtain ⟨q', hA', hR'⟩ := hp'.elem (E := ES) ty63 rfl ty9 rfl (by decide) (i := k) (x := [.str (mkS t)]) (by simp [strE, ht])
    unfold loop145 f145
    refine vwp_loop (vwp_seq ?_)
    refine vwp_region ?_
    iterate 1 (refine vops_cons (n := 0) (by simp (maxSteps := 1000000) [s36, s37, hk']; rfl) ?_)
    refine vops_nil ?_
    refine vwp_seq (vwp_cond (t := true) (by simp [St.ev, St.slot_mk, sget_put]) (vwp_skip ?_))
    refine vwp_seq (vwp_block (vwp_seq ?_))
    refine vwp_region ?_
    iterate 2 (refine vops_cons (n := 0) (by simp (maxSteps := 1000000) [s37]; rfl) ?_)
    refine vops_nil ?_
    refine vwp_seq (vwp_draw plan145 rfl ?_)
    iterate 4 (refine vpl_run (n := 0) rfl (by simp (maxSteps := 1000000) [s2, ty65, ty63, hb2.2, hA]; rfl) ?_)
    refine vpl_load (v := .str (mkS t)) rfl rfl rfl ty9 (by simp; exact hR) rfl ⟨_, by simp; rfl, ?_⟩
    iterate 4 (refine vpl_run (n := 0) rfl (by simp (maxSteps := 1000000) [s3, ty65, ty63, hb3.2, hA']; rfl) ?_)
    refine vpl_load (v := .str (mkS t)) rfl rfl rfl ty9 (by simp; exact hR') rfl ⟨_, by simp; rfl, ?_⟩
    iterate 1 (refine vpl_run (n := 0) rfl (by simp (maxSteps := 1000000) [strOp_neq]; rfl) ?_)
    refine vpl_nil ?_
    refine vwp_cond (t := false) (by simp [St.ev, St.slot_mk, sget_put]) (vwp_skip ?_)
    refine vwp_region ?_
    iterate 2 (refine vops_cons (n := 0) (by simp (maxSteps := 1000000) [s37, wrap_up (show k < 1000000000 by omega)]; rfl) ?_)
    refine vops_nil ?_
    exact ih (k + 1) _ (by omega) (by simp [s2]) (by simp [s3]) (by simp [s36]) (by simp)

theorem sameOp_ok {m : Mem} {x : LStep} {p p' : AVal} (hp : SlV m 9 1 p (strE x.path)) (hp' : SlV m 9 1 p' (strE x.path)) (hl : x.path.length ≤ 100000000) (hn : m.next ≤ 900000) :
    vcall ES 145 [.agg [p, .int .i64 x.act, .str (mkS x.s), .int .i64 x.num], .agg [p', .int .i64 x.act, .str (mkS x.s), .int .i64 x.num]] m fun r m' => r = .bool true ∧ Fr S0 m m' 2 := by
  have hnx : m.next < 1048576 := by omega
  have hpl : sliceLen p = some x.path.length := by rw [hp.len, strE_len]
  have hpl' : sliceLen p' = some x.path.length := by rw [hp'.len, strE_len]
  have hpc := hp.cl
  have hpc' := hp'.cl
  have ha := at_add_self m ⟨65, [p, .int .i64 x.act, .str (mkS x.s), .int .i64 x.num], 0⟩ hnx
  have hF1 := Fr.add (S := S0) m ⟨65, [p, .int .i64 x.act, .str (mkS x.s), .int .i64 x.num], 0⟩ hnx
  have hn1 : (m.add ⟨65, [p, .int .i64 x.act, .str (mkS x.s), .int .i64 x.num], 0⟩).next = m.next + 1 := rfl
  refine vcall_body (fn := f145) (c := ((f145.body).getD .skip)) rfl fns145 body145 (by rw [vntmps145]; show 2 ≤ 52; decide) (by rw [vntmps145]; decide) ?_
  rw [vntmps145]
  simp only [vresults145]
  unfold f145
  simp only [Option.getD_some]
  refine vwp_seq (vwp_region ?_)
  iterate 1 (refine vops_cons (n := 0) (by simp (maxSteps := 1000000) [hnx]; rfl) ?_)
  show vops _ _ _ _ ⟨145, 52, _, m.add ⟨65, [p, .int .i64 x.act, .str (mkS x.s), .int .i64 x.num], 0⟩⟩
  generalize m.add ⟨65, [p, .int .i64 x.act, .str (mkS x.s), .int .i64 x.num], 0⟩ = m1 at *
  have hnx1 : m1.next < 1048576 := by omega
  iterate 1 (refine vops_cons (n := 0) (by simp (maxSteps := 1000000) [hnx1]; rfl) ?_)
  have hb := at_add_self m1 ⟨65, [p', .int .i64 x.act, .str (mkS x.s), .int .i64 x.num], 0⟩ hnx1
  have hF2 := Fr.add (S := S0) m1 ⟨65, [p', .int .i64 x.act, .str (mkS x.s), .int .i64 x.num], 0⟩ hnx1
  have ha2 := hF2.keep _ _ ha rfl
  have hF := hF1.trans hF2 (Nat.le_refl _)
  show vops _ _ _ _ ⟨145, 52, _, m1.add ⟨65, [p', .int .i64 x.act, .str (mkS x.s), .int .i64 x.num], 0⟩⟩
  generalize m1.add ⟨65, [p', .int .i64 x.act, .str (mkS x.s), .int .i64 x.num], 0⟩ = m2 at *
  iterate 1 (refine vops_cons (n := 0) (by simp (maxSteps := 1000000) []; rfl) ?_)
  have hp2 := hp.fr hF rfl
  have hp2' := hp'.fr hF rfl
  refine vops_nil (vwp_seq (vwp_seq (vwp_region ?_)))
  iterate 28 (refine vops_cons (n := 0) (by simp (maxSteps := 1000000) [ty65, ty63, ty3, ty9, ty2, ha2.2, hb.2, hpl, hpl', strOp_neq]; rfl) ?_)
  refine vops_nil (vwp_cond (t := false) (by simp [St.ev, St.slot_mk, sget_put]) (vwp_skip ?_))
  refine vwp_seq (vwp_seq ?_)
  refine vwp_region ?_
  iterate 4 (refine vops_cons (n := 0) (by simp (maxSteps := 1000000) [ty65, ty63, ha2.2, hpl]; rfl) ?_)
  refine vops_nil ?_
  refine vwp_block ?_
  refine (sameOp_loop m.next m1.next m2 x p p' ha2 hb hp2 hp2' hl x.path.length 0 _ (by omega) (by simp) (by simp) (by simp) (by simp)).mono ?_
  rintro ex st ⟨rfl, sl, rfl⟩
  refine vwp_seq ?_
  refine vwp_region ?_
  iterate 1 (refine vops_cons (n := 0) (by simp (maxSteps := 1000000) []; rfl) ?_)
  refine vops_nil ?_
  exact vwp_ret ⟨.inr rfl, _, by simp [resultVals]; rfl, rfl, hF⟩

noncomputable def loop56 : Code := match f56.body with
  | some (.seq _ (.seq _ (.seq (.seq _ (.block _ l)) _))) => l
  | _ => .skip
theorem same_loop (b2 b3 : Nat) (m : Mem) (x : LScript) (w w' : AVal) (hb2 : m.at b2 ⟨127, [.int .i64 x.c, .int .i64 x.s, .int .i64 x.cap, w], 0⟩) (hb3 : m.at b3 ⟨127, [.int .i64 x.c, .int .i64 x.s, .int .i64 x.cap, w'], 0⟩) (hw : StepsR m 115 w x.steps) (hw' : StepsR m 115 w' x.steps) (hl : x.steps.length ≤ 1000) (hpl : ∀ y ∈ x.steps, y.path.length ≤ 100000000) (hm : m.next ≤ 700000) :
    ∀ (j k : Nat) (sl : Slots) (mm : Mem), k + j = x.steps.length → Fr S0 m mm (4 * k) → sget sl 2 = .ptr b2 4 0 → sget sl 3 = .ptr b3 4 0 → sget sl 38 = .int .i64 (x.steps.length : Nat) → sget sl 39 = .int .i64 (k : Nat) →
    vwp ES loop56 (fun ex st => ex = .exit 0 ∧ ∃ sl' mm', st = ⟨56, 94, sl', mm'⟩ ∧ Fr S0 m mm' (4 * x.steps.length)) ⟨56, 94, sl, mm⟩ := by
  intro j
  induction j with
  | zero =>
    intro k sl mm hij hF s2 s3 s38 s39
    obtain rfl : k = x.steps.length := by omega
    unfold loop56 f56
    refine vwp_loop (vwp_seq ?_)
    refine vwp_region ?_
    iterate 1 (refine vops_cons (n := 0) (by simp (maxSteps := 1000000) [s38, s39]; rfl) ?_)
    refine vops_nil ?_
    refine vwp_seq (vwp_cond (t := false) (by simp [St.ev, St.slot_mk, sget_put]) (vwp_exit ?_))
    exact ⟨rfl, _, mm, rfl, hF⟩
  | succ j ih =>
    intro k sl mm hij hF s2 s3 s38 s39
    have hk : k < x.steps.length := by omega
    have hk' : (k : Int) < (x.steps.length : Int) := by omega
    have hmx := hF.most
    obtain ⟨y, hy⟩ : ∃ y, x.steps[k]? = some y := ⟨x.steps[k], List.getElem?_eq_getElem hk⟩
    have hyl := hpl y (List.mem_of_getElem? hy)
    have hb2' := hF.keep _ _ hb2 rfl
    have hb3' := hF.keep _ _ hb3 rfl
    obtain ⟨els, hs, hsl, hse⟩ := hw.fr hF rfl rfl
    obtain ⟨cs, hcs, p, rfl, hp⟩ := hse k y hy
    obtain ⟨els', hs', hsl', hse'⟩ := hw'.fr hF rfl rfl
    obtain ⟨cs', hcs', p', rfl, hp'⟩ := hse' k y hy
    have hwc := hs.cl
    have hwc' := hs'.cl
    have hpc := hp.cl
    have hpc' := hp'.cl
    have hsame : AVal.same w' w' = true := SlV.same hs' (fun z hz => by
      obtain ⟨i, hi⟩ := List.getElem?_of_mem hz
      have hil : i < x.steps.length := by rw [← hsl']; exact (List.getElem?_eq_some_iff.1 hi).1
      obtain ⟨c, e1, r, rfl, e2⟩ := hse' i _ (List.getElem?_eq_getElem hil)
      rw [hi] at e1; cases e1
      exact stepC_same e2)
    obtain ⟨q, hA, hR⟩ := hs.elem (E := ES) ty125 rfl ty115 rfl (by decide) hcs
    obtain ⟨q', hA', hR'⟩ := hs'.elem (E := ES) ty125 rfl ty115 rfl (by decide) hcs'
    have hnx : mm.next < 1048576 := by omega
    unfold loop56 f56
    refine vwp_loop (vwp_seq ?_)
    refine vwp_region ?_
    iterate 1 (refine vops_cons (n := 0) (by simp (maxSteps := 1000000) [s38, s39, hk']; rfl) ?_)
    refine vops_nil ?_
    refine vwp_seq (vwp_cond (t := true) (by simp [St.ev, St.slot_mk, sget_put]) (vwp_skip ?_))
    refine vwp_seq (vwp_block (vwp_seq ?_))
    refine vwp_region ?_
    iterate 2 (refine vops_cons (n := 0) (by simp (maxSteps := 1000000) [s39]; rfl) ?_)
    refine vops_nil ?_
    refine vwp_seq (vwp_draw plan56 rfl ?_)
    iterate 4 (refine vpl_run (n := 0) rfl (by simp (maxSteps := 1000000) [s2, ty127, ty125, hb2'.2, hA]; rfl) ?_)
    refine vpl_load (cs := stepC y p) (v := .agg [.int .i64 y.kind, .int .i64 y.a, .int .i64 y.n, .int .i64 y.n2, .int .u8 (y.who.toNat : Nat), p, .int .i64 y.act, .str (mkS y.s), .int .i64 y.num]) rfl rfl rfl ty115 (by simp; exact hR) rfl ⟨_, by simp; rfl, ?_⟩
    iterate 4 (refine vpl_run (n := 0) rfl (by simp (maxSteps := 1000000) [s3, ty127, ty125, hb3'.2, hA']; rfl) ?_)
    refine vpl_load (cs := stepC y p') (v := .agg [.int .i64 y.kind, .int .i64 y.a, .int .i64 y.n, .int .i64 y.n2, .int .u8 (y.who.toNat : Nat), p', .int .i64 y.act, .str (mkS y.s), .int .i64 y.num]) rfl rfl rfl ty115 (by simp; exact hR') rfl ⟨_, by simp; rfl, ?_⟩
    iterate 1 (refine vpl_run (n := 0) rfl (by simp (maxSteps := 1000000) [ty115, hnx]; rfl) ?_)
    have hz := at_add_self mm ⟨115, [.int .i64 0, .int .i64 0, .int .i64 0, .int .i64 0, .int .u8 0, .nil true, .int .i64 0, .str ⟨#[]⟩, .int .i64 0], 0⟩ hnx
    have hF1 := Fr.add (S := S0) mm ⟨115, [.int .i64 0, .int .i64 0, .int .i64 0, .int .i64 0, .int .u8 0, .nil true, .int .i64 0, .str ⟨#[]⟩, .int .i64 0], 0⟩ hnx
    have hn1 : (mm.add ⟨115, [.int .i64 0, .int .i64 0, .int .i64 0, .int .i64 0, .int .u8 0, .nil true, .int .i64 0, .str ⟨#[]⟩, .int .i64 0], 0⟩).next = mm.next + 1 := rfl
    generalize mm.add ⟨115, [.int .i64 0, .int .i64 0, .int .i64 0, .int .i64 0, .int .u8 0, .nil true, .int .i64 0, .str ⟨#[]⟩, .int .i64 0], 0⟩ = m1 at *
    have hnx1 : m1.next < 1048576 := by omega
    iterate 1 (refine vpl_run (n := 0) rfl (by simp (maxSteps := 1000000) [ty115, hnx1]; rfl) ?_)
    have hz2 := at_add_self m1 ⟨115, [.int .i64 0, .int .i64 0, .int .i64 0, .int .i64 0, .int .u8 0, .nil true, .int .i64 0, .str ⟨#[]⟩, .int .i64 0], 0⟩ hnx1
    have hF2 := Fr.add (S := S0) m1 ⟨115, [.int .i64 0, .int .i64 0, .int .i64 0, .int .i64 0, .int .u8 0, .nil true, .int .i64 0, .str ⟨#[]⟩, .int .i64 0], 0⟩ hnx1
    have hz' := hF2.keep _ _ hz rfl
    have hn2 : (m1.add ⟨115, [.int .i64 0, .int .i64 0, .int .i64 0, .int .i64 0, .int .u8 0, .nil true, .int .i64 0, .str ⟨#[]⟩, .int .i64 0], 0⟩).next = m1.next + 1 := rfl
    generalize m1.add ⟨115, [.int .i64 0, .int .i64 0, .int .i64 0, .int .i64 0, .int .u8 0, .nil true, .int .i64 0, .str ⟨#[]⟩, .int .i64 0], 0⟩ = m2 at *
    have hnx2 : m2.next ≤ 1048576 := by omega
    have hne : m1.next ≠ mm.next := by omega
    iterate 1 (refine vpl_run (n := 0) rfl (by simp (maxSteps := 1000000) [ty115, hz'.2]; rfl) ?_)
    show vpl _ _ _ _ ⟨56, 94, _, m2.upd mm.next ⟨115, [.int .i64 y.kind, .int .i64 y.a, .int .i64 y.n, .int .i64 y.n2, .int .u8 (y.who.toNat : Nat), p, .int .i64 y.act, .str (mkS y.s), .int .i64 y.num], 0⟩⟩
    have hF3 : Fr S0 mm (m2.upd mm.next ⟨115, [.int .i64 y.kind, .int .i64 y.a, .int .i64 y.n, .int .i64 y.n2, .int .u8 (y.who.toNat : Nat), p, .int .i64 y.act, .str (mkS y.s), .int .i64 y.num], 0⟩) 2 := (hF1.trans hF2 (Nat.le_refl _)).updNew hz' hnx2 (Nat.le_refl _) _
    have hc3 := at_upd_self hz' hnx2 ⟨115, [.int .i64 y.kind, .int .i64 y.a, .int .i64 y.n, .int .i64 y.n2, .int .u8 (y.who.toNat : Nat), p, .int .i64 y.act, .str (mkS y.s), .int .i64 y.num], 0⟩
    have hz3 := at_upd hz' hnx2 hz2 hne ⟨115, [.int .i64 y.kind, .int .i64 y.a, .int .i64 y.n, .int .i64 y.n2, .int .u8 (y.who.toNat : Nat), p, .int .i64 y.act, .str (mkS y.s), .int .i64 y.num], 0⟩
    have hn3 : (m2.upd mm.next ⟨115, [.int .i64 y.kind, .int .i64 y.a, .int .i64 y.n, .int .i64 y.n2, .int .u8 (y.who.toNat : Nat), p, .int .i64 y.act, .str (mkS y.s), .int .i64 y.num], 0⟩).next = m2.next := rfl
    generalize m2.upd mm.next ⟨115, [.int .i64 y.kind, .int .i64 y.a, .int .i64 y.n, .int .i64 y.n2, .int .u8 (y.who.toNat : Nat), p, .int .i64 y.act, .str (mkS y.s), .int .i64 y.num], 0⟩ = m3 at *
    have hb33 := hF3.keep _ _ hb3' rfl
    obtain ⟨q3, hA3, hR3⟩ := (hs'.fr hF3 rfl).elem (E := ES) ty125 rfl ty115 rfl (by decide) hcs'
    have hq : q3 = q' := by rw [hA'] at hA3; cases hA3; rfl
    rw [hq] at hR3
    refine vpl_chk (d := 48) (v := w') rfl rfl ?_ rfl ?_ ?_
    · simp [ty125, hb33.2]
    · simp [hsame]
    refine vpl_chk (d := 51) (v := .agg (stepC y p')) rfl rfl ?_ rfl ?_ ?_
    · have hR3' : readCells m3 q' 9 = some (stepC y p') := hR3
      simp [ty115, hR3']
    · have := stepC_same hp'
      simp [AVal.same]
      exact this
    have hnx3 : m3.next ≤ 1048576 := by omega
    iterate 1 (refine vpl_run (n := 0) rfl (by simp (maxSteps := 1000000) [ty115, hz3.2]; rfl) ?_)
    show vpl _ _ _ _ ⟨56, 94, _, m3.upd m1.next ⟨115, [.int .i64 y.kind, .int .i64 y.a, .int .i64 y.n, .int .i64 y.n2, .int .u8 (y.who.toNat : Nat), p', .int .i64 y.act, .str (mkS y.s), .int .i64 y.num], 0⟩⟩
    have hF4 : Fr S0 mm (m3.upd m1.next ⟨115, [.int .i64 y.kind, .int .i64 y.a, .int .i64 y.n, .int .i64 y.n2, .int .u8 (y.who.toNat : Nat), p', .int .i64 y.act, .str (mkS y.s), .int .i64 y.num], 0⟩) 2 := hF3.updNew hz3 hnx3 (by omega) _
    have hd4 := at_upd_self hz3 hnx3 ⟨115, [.int .i64 y.kind, .int .i64 y.a, .int .i64 y.n, .int .i64 y.n2, .int .u8 (y.who.toNat : Nat), p', .int .i64 y.act, .str (mkS y.s), .int .i64 y.num], 0⟩
    have hc4 := at_upd hz3 hnx3 hc3 (fun e => hne e.symm) ⟨115, [.int .i64 y.kind, .int .i64 y.a, .int .i64 y.n, .int .i64 y.n2, .int .u8 (y.who.toNat : Nat), p', .int .i64 y.act, .str (mkS y.s), .int .i64 y.num], 0⟩
    have hn4 : (m3.upd m1.next ⟨115, [.int .i64 y.kind, .int .i64 y.a, .int .i64 y.n, .int .i64 y.n2, .int .u8 (y.who.toNat : Nat), p', .int .i64 y.act, .str (mkS y.s), .int .i64 y.num], 0⟩).next = m3.next := rfl
    generalize m3.upd m1.next ⟨115, [.int .i64 y.kind, .int .i64 y.a, .int .i64 y.n, .int .i64 y.n2, .int .u8 (y.who.toNat : Nat), p', .int .i64 y.act, .str (mkS y.s), .int .i64 y.num], 0⟩ = m4 at *
    refine vpl_nil (vwp_seq (vwp_region ?_))
    iterate 38 (refine vops_cons (n := 0) (by simp (maxSteps := 1000000) [ty115, ty3, ty5, ty65, hc4.2, hd4.2]; rfl) ?_)
    refine vops_callv (g := 145) (first := []) (cap := []) (avs := [.agg [p, .int .i64 y.act, .str (mkS y.s), .int .i64 y.num], .agg [p', .int .i64 y.act, .str (mkS y.s), .int .i64 y.num]]) (by simp) rfl rfl (by simp) ?_
    refine (sameOp_ok (m := m4) (hp.fr hF4 rfl) (hp'.fr hF4 rfl) hyl (by omega)).mono fun r m5 h => ?_
    obtain ⟨rfl, hF5⟩ := h
    refine ⟨_, by simp; rfl, ?_⟩
    iterate 2 (refine vops_cons (n := 0) (by simp (maxSteps := 1000000) []; rfl) ?_)
    refine vops_nil (vwp_cond (t := false) (by simp [St.ev, St.slot_mk, sget_put]) (vwp_skip ?_))
    refine vwp_region ?_
    iterate 2 (refine vops_cons (n := 0) (by simp (maxSteps := 1000000) [s39, wrap_up (show k < 1000000000 by omega)]; rfl) ?_)
    refine vops_nil ?_
    exact ih (k + 1) _ m5 (by omega) ((hF.trans (hF4.trans hF5 (Nat.le_refl _)) (Nat.le_refl _)).le (by omega)) (by simp [s2]) (by simp [s3]) (by simp [s38]) (by simp)

/-- A script is told to be what it is. -/
theorem same_ok {m : Mem} {cs cs' : List AVal} {x : LScript} (h : ScrR m 115 cs x) (h' : ScrR m 115 cs' x) (hl : x.steps.length ≤ 1000) (hpl : ∀ y ∈ x.steps, y.path.length ≤ 100000000) (hm : m.next ≤ 600000) :
    vcall ES 56 [.agg cs, .agg cs'] m fun r m' => r = .bool true ∧ Fr S0 m m' (2 + 4 * x.steps.length) := by
  obtain ⟨w, rfl, hw⟩ := h
  obtain ⟨w', rfl, hw'⟩ := h'
  have hnx : m.next < 1048576 := by omega
  have hwl := hw.len
  have hwl' := hw'.len
  have hwc : AVal.cells? w = some [w] := by obtain ⟨els, h1, _⟩ := hw; exact h1.cl
  have hwc' : AVal.cells? w' = some [w'] := by obtain ⟨els, h1, _⟩ := hw'; exact h1.cl
  have ha := at_add_self m ⟨127, [.int .i64 x.c, .int .i64 x.s, .int .i64 x.cap, w], 0⟩ hnx
  have hF1 := Fr.add (S := S0) m ⟨127, [.int .i64 x.c, .int .i64 x.s, .int .i64 x.cap, w], 0⟩ hnx
  have hn1 : (m.add ⟨127, [.int .i64 x.c, .int .i64 x.s, .int .i64 x.cap, w], 0⟩).next = m.next + 1 := rfl
  refine vcall_body (fn := f56) (c := ((f56.body).getD .skip)) rfl fns56 body56 (by rw [vntmps56]; show 2 ≤ 94; decide) (by rw [vntmps56]; decide) ?_
  rw [vntmps56]
  simp only [vresults56]
  unfold f56
  simp only [Option.getD_some]
  refine vwp_seq (vwp_region ?_)
  iterate 1 (refine vops_cons (n := 0) (by simp (maxSteps := 1000000) [hnx]; rfl) ?_)
  show vops _ _ _ _ ⟨56, 94, _, m.add ⟨127, [.int .i64 x.c, .int .i64 x.s, .int .i64 x.cap, w], 0⟩⟩
  generalize m.add ⟨127, [.int .i64 x.c, .int .i64 x.s, .int .i64 x.cap, w], 0⟩ = m1 at *
  have hnx1 : m1.next < 1048576 := by omega
  iterate 1 (refine vops_cons (n := 0) (by simp (maxSteps := 1000000) [hnx1]; rfl) ?_)
  have hb := at_add_self m1 ⟨127, [.int .i64 x.c, .int .i64 x.s, .int .i64 x.cap, w'], 0⟩ hnx1
  have hF2 := Fr.add (S := S0) m1 ⟨127, [.int .i64 x.c, .int .i64 x.s, .int .i64 x.cap, w'], 0⟩ hnx1
  have ha2 := hF2.keep _ _ ha rfl
  have hF := hF1.trans hF2 (Nat.le_refl _)
  show vops _ _ _ _ ⟨56, 94, _, m1.add ⟨127, [.int .i64 x.c, .int .i64 x.s, .int .i64 x.cap, w'], 0⟩⟩
  generalize m1.add ⟨127, [.int .i64 x.c, .int .i64 x.s, .int .i64 x.cap, w'], 0⟩ = m2 at *
  iterate 1 (refine vops_cons (n := 0) (by simp (maxSteps := 1000000) []; rfl) ?_)
  have hmx := hF.most
  refine vops_nil (vwp_seq (vwp_seq (vwp_region ?_)))
  iterate 28 (refine vops_cons (n := 0) (by simp (maxSteps := 1000000) [ty127, ty125, ty3, ha2.2, hb.2, hwl, hwl']; rfl) ?_)
  refine vops_nil (vwp_cond (t := false) (by simp [St.ev, St.slot_mk, sget_put]) (vwp_skip ?_))
  refine vwp_seq (vwp_seq ?_)
  refine vwp_region ?_
  iterate 4 (refine vops_cons (n := 0) (by simp (maxSteps := 1000000) [ty127, ty125, ha2.2, hwl]; rfl) ?_)
  refine vops_nil ?_
  refine vwp_block ?_
  refine (same_loop m.next m1.next m2 x w w' ha2 hb (hw.fr hF rfl rfl) (hw'.fr hF rfl rfl) hl hpl (by omega) x.steps.length 0 _ m2 (by omega) (.refl _ _) (by simp) (by simp) (by simp) (by simp)).mono ?_
  rintro ex st ⟨rfl, sl, m3, rfl, hF3⟩
  refine vwp_seq ?_
  refine vwp_region ?_
  iterate 1 (refine vops_cons (n := 0) (by simp (maxSteps := 1000000) []; rfl) ?_)
  refine vops_nil ?_
  exact vwp_ret ⟨.inr rfl, _, by simp [resultVals]; rfl, rfl, hF.trans hF3 (Nat.le_refl _)⟩
end Go.Proofs.Tryz
