/-
  What a script may be: on the abstract machine.
-/
import Derived.Test.YtdmaodpmfbgcaaaGreatSOut
set_option maxRecDepth 100000
namespace Go.Proofs.Tryz
open Go Go.V Go.SC
attribute [local simp] runOp wanted isHeavy light St.ev St.slot_mk sget_put St.put_mk cl_int cl_bool cl_str cl_ptr cl_nil cl_ref cl_imm cl_agg cl_nilp NewV.at nblt nble nbeq ofConst ofConst1 fieldOf sh_ptr sh_iptr rc_ptr rc_iptr lget mkVal VD.isAgg lenOf bin ar_add ar_sub ar_mul ar_eql ar_neq ar_lss ar_leq ar_gtr ar_geq argSlots un heavy writeCells lput eqVals next_add next_upd fillA zeros natOf_cast
abbrev S0 : TypeId → Bool := fun _ => false
theorem wrap_up {n : Nat} (h : n < 1000000000) : IntKind.i64.wrap ((n : Int) + 1) = ((n + 1 : Nat) : Int) := wrap_succ h

theorem fns341 : ES.fns.get 341 = some f341 := by kernel_rfl
theorem vntmps341 : f341.ntmps = 19 := by kernel_rfl
theorem vresults341 : f341.results.toList = [.tmp 4] := by kernel_rfl
theorem body341 : f341.body = some ((f341.body).getD .skip) := by kernel_rfl
theorem fns243 : ES.fns.get 243 = some f243 := by kernel_rfl
theorem vntmps243 : f243.ntmps = 9 := by kernel_rfl
theorem vresults243 : f243.results.toList = [.tmp 4] := by kernel_rfl
theorem body243 : f243.body = some ((f243.body).getD .skip) := by kernel_rfl
noncomputable def loop341 : Code := match f341.body with
  | some (.seq _ (.seq (.seq _ (.block _ l)) _)) => l
  | _ => .skip

theorem index341_loop (v : AVal) (g : FuncId) (els : List (List AVal)) (mv : List AVal → AVal) (p : Nat → Bool) (c : Nat) (m : Mem) (hv : SlV m 3 1 v els) (hlen : els.length ≤ 1000)
    (hmk : ∀ x ∈ els, ∃ ve, ES.ty.get 3 = some ve ∧ mkVal ve x = some (mv x)) (hc : ∀ i x, els[i]? = some x → ∀ mm, Fr S0 m mm (c * els.length) → vcall ES g [mv x] mm fun r m' => r = .bool (p i) ∧ Fr S0 mm m' c) :
    ∀ (j i : Nat) (sl : Slots) (mm : Mem), i + j = els.length → Fr S0 m mm (c * i) → (∀ k, k < i → p k = false) → sget sl 0 = v → sget sl 1 = .fn g [] [] → sget sl 7 = .int .i64 (els.length : Nat) → sget sl 8 = .int .i64 (i : Nat) →
    vwp ES loop341 (fun ex st => (ex = .exit 0 ∧ (List.range els.length).any p = false ∧ ∃ sl' mm', st = ⟨341, 19, sl', mm'⟩ ∧ Fr S0 m mm' (c * els.length)) ∨ (ex = .ret ∧ (List.range els.length).any p = true ∧ ∃ sl' mm' k, st = ⟨341, 19, sl', mm'⟩ ∧ sget sl' 4 = .int .i64 ((k : Nat) : Int) ∧ Fr S0 m mm' (c * els.length))) ⟨341, 19, sl, mm⟩ := by
  intro j
  induction j with
  | zero =>
    intro i sl mm hij hF hp s0 s1 s7 s8
    obtain rfl : i = els.length := by omega
    unfold loop341 f341
    refine vwp_loop (vwp_seq ?_)
    refine vwp_region ?_
    iterate 1 (refine vops_cons (n := 0) (by simp [s7, s8]; rfl) ?_)
    refine vops_nil ?_
    refine vwp_seq (vwp_cond (t := false) (by simp [St.ev, St.slot_mk, sget_put]) (vwp_exit ?_))
    refine .inl ⟨rfl, ?_, _, mm, rfl, hF⟩
    rw [List.any_eq_false]
    intro x hx; rw [hp x (List.mem_range.1 hx)]; decide
  | succ j ih =>
    intro i sl mm hij hF hp s0 s1 s7 s8
    have hi : i < els.length := by omega
    have hi' : (i : Int) < (els.length : Int) := by omega
    obtain ⟨x, hx⟩ : ∃ x, els[i]? = some x := ⟨els[i], List.getElem?_eq_getElem hi⟩
    have hxm := List.mem_of_getElem? hx
    have hle : c * i + c ≤ c * els.length := by rw [← Nat.mul_succ]; exact Nat.mul_le_mul_left _ hi
    obtain ⟨q, hA, hR⟩ := (hv.fr hF rfl).elem (E := ES) ty230 rfl ty3 rfl (by decide) hx
    obtain ⟨ve, hve, hmv⟩ := hmk x hxm
    have hte : some ve = some _ := hve.symm.trans ty3
    cases hte
    unfold loop341 f341
    refine vwp_loop (vwp_seq ?_)
    refine vwp_region ?_
    iterate 1 (refine vops_cons (n := 0) (by simp [s7, s8, hi']; rfl) ?_)
    refine vops_nil ?_
    refine vwp_seq (vwp_cond (t := true) (by simp [St.ev, St.slot_mk, sget_put]) (vwp_skip ?_))
    refine vwp_seq (vwp_block (vwp_seq ?_))
    refine vwp_region ?_
    iterate 2 (refine vops_cons (n := 0) (by simp [s8]; rfl) ?_)
    refine vops_nil ?_
    refine vwp_seq (vwp_region ?_)
    iterate 4 (refine vops_cons (n := 0) (by simp [s0, s1, s8, hA]; rfl) ?_)
    refine vops_load rfl rfl ty3 (by simp; exact hR) hmv ⟨_, by simp; rfl, ?_⟩
    refine vops_callv (g := g) (first := []) (cap := []) (avs := [mv x]) rfl rfl (by simp [s1]) (by simp) ?_
    refine (hc i x hx mm (hF.le (by omega))).mono fun r m' h => ?_
    obtain ⟨rfl, hF2⟩ := h
    refine ⟨_, by simp; rfl, vops_nil ?_⟩
    have hF3 := hF.trans hF2 (Nat.le_refl _)
    cases hpx : p i with
    | true =>
      refine vwp_cond (t := true) (by simp [St.ev, St.slot_mk, sget_put]) ?_
      refine vwp_seq ?_
      refine vwp_region ?_
      iterate 2 (refine vops_cons (n := 0) (by simp [s8]; rfl) ?_)
      refine vops_nil ?_
      refine vwp_ret (.inr ⟨rfl, ?_, _, m', i, rfl, by simp, hF3.le (by omega)⟩)
      rw [List.any_eq_true]
      exact ⟨i, List.mem_range.2 hi, hpx⟩
    | false =>
      refine vwp_cond (t := false) (by simp [St.ev, St.slot_mk, sget_put]) (vwp_skip ?_)
      refine vwp_region ?_
      iterate 2 (refine vops_cons (n := 0) (by simp [s8, wrap_up (show i < 1000000000 by omega)]; rfl) ?_)
      refine vops_nil ?_
      refine ih (i + 1) _ m' (by omega) (hF3.le (by rw [Nat.mul_succ]; exact Nat.le_refl _)) ?_ (by simp [s0]) (by simp [s1]) (by simp [s7]) (by simp)
      intro k hk
      rcases Nat.lt_succ_iff_lt_or_eq.1 hk with h | rfl
      · exact hp k h
      · exact hpx

theorem contains243_ok {v : AVal} {g : FuncId} {els : List (List AVal)} (mv : List AVal → AVal) (p : Nat → Bool) (c : Nat) {m : Mem} (hv : SlV m 3 1 v els) (hlen : els.length ≤ 1000)
    (hmk : ∀ x ∈ els, ∃ ve, ES.ty.get 3 = some ve ∧ mkVal ve x = some (mv x)) (hc : ∀ i x, els[i]? = some x → ∀ mm, Fr S0 m mm (c * els.length) → vcall ES g [mv x] mm fun r m' => r = .bool (p i) ∧ Fr S0 mm m' c) :
    vcall ES 243 [v, .fn g [] []] m fun r m' => r = .bool ((List.range els.length).any p) ∧ Fr S0 m m' (c * els.length) := by
  refine vcall_body (fn := f243) (c := ((f243.body).getD .skip)) rfl fns243 body243 (by rw [vntmps243]; show 2 ≤ 9; decide) (by rw [vntmps243]; decide) ?_
  rw [vntmps243]
  simp only [vresults243]
  unfold f243
  simp only [Option.getD_some]
  refine vwp_seq ?_
  refine vwp_region ?_
  iterate 1 (refine vops_cons (n := 0) (by simp []; rfl) ?_)
  refine vops_nil ?_
  refine vwp_seq (vwp_region ?_)
  iterate 2 (refine vops_cons (n := 0) (by simp []; rfl) ?_)
  refine vops_callv (g := 341) (first := []) (cap := []) (avs := [v, .fn g [] []]) rfl rfl rfl (by simp) ?_
  have hI : vcall ES 341 [v, .fn g [] []] m fun r m' => (∃ z : Int, r = .int .i64 z ∧ decide (0 ≤ z) = (List.range els.length).any p) ∧ Fr S0 m m' (c * els.length) := by
    refine vcall_body (fn := f341) (c := ((f341.body).getD .skip)) rfl fns341 body341 (by rw [vntmps341]; show 2 ≤ 19; decide) (by rw [vntmps341]; decide) ?_
    rw [vntmps341]
    simp only [vresults341]
    unfold f341
    simp only [Option.getD_some]
    have hl := hv.len
    refine vwp_seq ?_
    refine vwp_region ?_
    iterate 1 (refine vops_cons (n := 0) (by simp []; rfl) ?_)
    refine vops_nil ?_
    refine vwp_seq (vwp_seq ?_)
    refine vwp_region ?_
    iterate 3 (refine vops_cons (n := 0) (by simp [ty230, hl]; rfl) ?_)
    refine vops_nil ?_
    refine vwp_block ?_
    refine (index341_loop v g els mv p c m hv hlen hmk hc els.length 0 _ m (by omega) (Fr.refl _ _) (fun k hk => absurd hk (Nat.not_lt_zero _)) (by simp) (by simp) (by simp) (by simp)).mono ?_
    rintro ex st (⟨rfl, ha, sl', mm', rfl, hF⟩ | ⟨rfl, ha, sl', mm', k, rfl, s4, hF⟩)
    · refine vwp_seq ?_
      refine vwp_region ?_
      iterate 1 (refine vops_cons (n := 0) (by simp []; rfl) ?_)
      refine vops_nil ?_
      exact vwp_ret ⟨.inr rfl, _, by simp [resultVals]; rfl, ⟨-1, rfl, by rw [ha]; rfl⟩, hF⟩
    · exact ⟨.inr rfl, _, by simp [resultVals, s4]; rfl, ⟨(k : Nat), rfl, by rw [ha]; exact decide_eq_true (by omega)⟩, hF⟩
  refine hI.mono fun r m' h => ?_
  obtain ⟨⟨z, rfl, hz⟩, hF⟩ := h
  refine ⟨_, by simp; rfl, ?_⟩
  iterate 2 (refine vops_cons (n := 0) (by simp []; rfl) ?_)
  exact vops_nil (vwp_ret ⟨.inr rfl, _, by simp [resultVals]; rfl, by rw [← hz]; rfl, hF⟩)

theorem fns342 : ES.fns.get 342 = some f342 := by kernel_rfl
theorem vntmps342 : f342.ntmps = 19 := by kernel_rfl
theorem vresults342 : f342.results.toList = [.tmp 4] := by kernel_rfl
theorem body342 : f342.body = some ((f342.body).getD .skip) := by kernel_rfl
theorem fns246 : ES.fns.get 246 = some f246 := by kernel_rfl
theorem vntmps246 : f246.ntmps = 9 := by kernel_rfl
theorem vresults246 : f246.results.toList = [.tmp 4] := by kernel_rfl
theorem body246 : f246.body = some ((f246.body).getD .skip) := by kernel_rfl
noncomputable def loop342 : Code := match f342.body with
  | some (.seq _ (.seq (.seq _ (.block _ l)) _)) => l
  | _ => .skip

theorem index342_loop (v : AVal) (g : FuncId) (els : List (List AVal)) (mv : List AVal → AVal) (p : Nat → Bool) (c : Nat) (m : Mem) (hv : SlV m 9 1 v els) (hlen : els.length ≤ 1000)
    (hmk : ∀ x ∈ els, ∃ ve, ES.ty.get 9 = some ve ∧ mkVal ve x = some (mv x)) (hc : ∀ i x, els[i]? = some x → ∀ mm, Fr S0 m mm (c * els.length) → vcall ES g [mv x] mm fun r m' => r = .bool (p i) ∧ Fr S0 mm m' c) :
    ∀ (j i : Nat) (sl : Slots) (mm : Mem), i + j = els.length → Fr S0 m mm (c * i) → (∀ k, k < i → p k = false) → sget sl 0 = v → sget sl 1 = .fn g [] [] → sget sl 7 = .int .i64 (els.length : Nat) → sget sl 8 = .int .i64 (i : Nat) →
    vwp ES loop342 (fun ex st => (ex = .exit 0 ∧ (List.range els.length).any p = false ∧ ∃ sl' mm', st = ⟨342, 19, sl', mm'⟩ ∧ Fr S0 m mm' (c * els.length)) ∨ (ex = .ret ∧ (List.range els.length).any p = true ∧ ∃ sl' mm' k, st = ⟨342, 19, sl', mm'⟩ ∧ sget sl' 4 = .int .i64 ((k : Nat) : Int) ∧ Fr S0 m mm' (c * els.length))) ⟨342, 19, sl, mm⟩ := by
  intro j
  induction j with
  | zero =>
    intro i sl mm hij hF hp s0 s1 s7 s8
    obtain rfl : i = els.length := by omega
    unfold loop342 f342
    refine vwp_loop (vwp_seq ?_)
    refine vwp_region ?_
    iterate 1 (refine vops_cons (n := 0) (by simp [s7, s8]; rfl) ?_)
    refine vops_nil ?_
    refine vwp_seq (vwp_cond (t := false) (by simp [St.ev, St.slot_mk, sget_put]) (vwp_exit ?_))
    refine .inl ⟨rfl, ?_, _, mm, rfl, hF⟩
    rw [List.any_eq_false]
    intro x hx; rw [hp x (List.mem_range.1 hx)]; decide
  | succ j ih =>
    intro i sl mm hij hF hp s0 s1 s7 s8
    have hi : i < els.length := by omega
    have hi' : (i : Int) < (els.length : Int) := by omega
    obtain ⟨x, hx⟩ : ∃ x, els[i]? = some x := ⟨els[i], List.getElem?_eq_getElem hi⟩
    have hxm := List.mem_of_getElem? hx
    have hle : c * i + c ≤ c * els.length := by rw [← Nat.mul_succ]; exact Nat.mul_le_mul_left _ hi
    obtain ⟨q, hA, hR⟩ := (hv.fr hF rfl).elem (E := ES) ty63 rfl ty9 rfl (by decide) hx
    obtain ⟨ve, hve, hmv⟩ := hmk x hxm
    have hte : some ve = some _ := hve.symm.trans ty9
    cases hte
    unfold loop342 f342
    refine vwp_loop (vwp_seq ?_)
    refine vwp_region ?_
    iterate 1 (refine vops_cons (n := 0) (by simp [s7, s8, hi']; rfl) ?_)
    refine vops_nil ?_
    refine vwp_seq (vwp_cond (t := true) (by simp [St.ev, St.slot_mk, sget_put]) (vwp_skip ?_))
    refine vwp_seq (vwp_block (vwp_seq ?_))
    refine vwp_region ?_
    iterate 2 (refine vops_cons (n := 0) (by simp [s8]; rfl) ?_)
    refine vops_nil ?_
    refine vwp_seq (vwp_region ?_)
    iterate 4 (refine vops_cons (n := 0) (by simp [s0, s1, s8, hA]; rfl) ?_)
    refine vops_load rfl rfl ty9 (by simp; exact hR) hmv ⟨_, by simp; rfl, ?_⟩
    refine vops_callv (g := g) (first := []) (cap := []) (avs := [mv x]) rfl rfl (by simp [s1]) (by simp) ?_
    refine (hc i x hx mm (hF.le (by omega))).mono fun r m' h => ?_
    obtain ⟨rfl, hF2⟩ := h
    refine ⟨_, by simp; rfl, vops_nil ?_⟩
    have hF3 := hF.trans hF2 (Nat.le_refl _)
    cases hpx : p i with
    | true =>
      refine vwp_cond (t := true) (by simp [St.ev, St.slot_mk, sget_put]) ?_
      refine vwp_seq ?_
      refine vwp_region ?_
      iterate 2 (refine vops_cons (n := 0) (by simp [s8]; rfl) ?_)
      refine vops_nil ?_
      refine vwp_ret (.inr ⟨rfl, ?_, _, m', i, rfl, by simp, hF3.le (by omega)⟩)
      rw [List.any_eq_true]
      exact ⟨i, List.mem_range.2 hi, hpx⟩
    | false =>
      refine vwp_cond (t := false) (by simp [St.ev, St.slot_mk, sget_put]) (vwp_skip ?_)
      refine vwp_region ?_
      iterate 2 (refine vops_cons (n := 0) (by simp [s8, wrap_up (show i < 1000000000 by omega)]; rfl) ?_)
      refine vops_nil ?_
      refine ih (i + 1) _ m' (by omega) (hF3.le (by rw [Nat.mul_succ]; exact Nat.le_refl _)) ?_ (by simp [s0]) (by simp [s1]) (by simp [s7]) (by simp)
      intro k hk
      rcases Nat.lt_succ_iff_lt_or_eq.1 hk with h | rfl
      · exact hp k h
      · exact hpx

theorem contains246_ok {v : AVal} {g : FuncId} {els : List (List AVal)} (mv : List AVal → AVal) (p : Nat → Bool) (c : Nat) {m : Mem} (hv : SlV m 9 1 v els) (hlen : els.length ≤ 1000)
    (hmk : ∀ x ∈ els, ∃ ve, ES.ty.get 9 = some ve ∧ mkVal ve x = some (mv x)) (hc : ∀ i x, els[i]? = some x → ∀ mm, Fr S0 m mm (c * els.length) → vcall ES g [mv x] mm fun r m' => r = .bool (p i) ∧ Fr S0 mm m' c) :
    vcall ES 246 [v, .fn g [] []] m fun r m' => r = .bool ((List.range els.length).any p) ∧ Fr S0 m m' (c * els.length) := by
  refine vcall_body (fn := f246) (c := ((f246.body).getD .skip)) rfl fns246 body246 (by rw [vntmps246]; show 2 ≤ 9; decide) (by rw [vntmps246]; decide) ?_
  rw [vntmps246]
  simp only [vresults246]
  unfold f246
  simp only [Option.getD_some]
  refine vwp_seq ?_
  refine vwp_region ?_
  iterate 1 (refine vops_cons (n := 0) (by simp []; rfl) ?_)
  refine vops_nil ?_
  refine vwp_seq (vwp_region ?_)
  iterate 2 (refine vops_cons (n := 0) (by simp []; rfl) ?_)
  refine vops_callv (g := 342) (first := []) (cap := []) (avs := [v, .fn g [] []]) rfl rfl rfl (by simp) ?_
  have hI : vcall ES 342 [v, .fn g [] []] m fun r m' => (∃ z : Int, r = .int .i64 z ∧ decide (0 ≤ z) = (List.range els.length).any p) ∧ Fr S0 m m' (c * els.length) := by
    refine vcall_body (fn := f342) (c := ((f342.body).getD .skip)) rfl fns342 body342 (by rw [vntmps342]; show 2 ≤ 19; decide) (by rw [vntmps342]; decide) ?_
    rw [vntmps342]
    simp only [vresults342]
    unfold f342
    simp only [Option.getD_some]
    have hl := hv.len
    refine vwp_seq ?_
    refine vwp_region ?_
    iterate 1 (refine vops_cons (n := 0) (by simp []; rfl) ?_)
    refine vops_nil ?_
    refine vwp_seq (vwp_seq ?_)
    refine vwp_region ?_
    iterate 3 (refine vops_cons (n := 0) (by simp [ty63, hl]; rfl) ?_)
    refine vops_nil ?_
    refine vwp_block ?_
    refine (index342_loop v g els mv p c m hv hlen hmk hc els.length 0 _ m (by omega) (Fr.refl _ _) (fun k hk => absurd hk (Nat.not_lt_zero _)) (by simp) (by simp) (by simp) (by simp)).mono ?_
    rintro ex st (⟨rfl, ha, sl', mm', rfl, hF⟩ | ⟨rfl, ha, sl', mm', k, rfl, s4, hF⟩)
    · refine vwp_seq ?_
      refine vwp_region ?_
      iterate 1 (refine vops_cons (n := 0) (by simp []; rfl) ?_)
      refine vops_nil ?_
      exact vwp_ret ⟨.inr rfl, _, by simp [resultVals]; rfl, ⟨-1, rfl, by rw [ha]; rfl⟩, hF⟩
    · exact ⟨.inr rfl, _, by simp [resultVals, s4]; rfl, ⟨(k : Nat), rfl, by rw [ha]; exact decide_eq_true (by omega)⟩, hF⟩
  refine hI.mono fun r m' h => ?_
  obtain ⟨⟨z, rfl, hz⟩, hF⟩ := h
  refine ⟨_, by simp; rfl, ?_⟩
  iterate 2 (refine vops_cons (n := 0) (by simp []; rfl) ?_)
  exact vops_nil (vwp_ret ⟨.inr rfl, _, by simp [resultVals]; rfl, by rw [← hz]; rfl, hF⟩)

theorem fns245 : ES.fns.get 245 = some f245 := by kernel_rfl
theorem vntmps245 : f245.ntmps = 19 := by kernel_rfl
theorem vresults245 : f245.results.toList = [.tmp 4] := by kernel_rfl
theorem body245 : f245.body = some ((f245.body).getD .skip) := by kernel_rfl
theorem fns134 : ES.fns.get 134 = some f134 := by kernel_rfl
theorem vntmps134 : f134.ntmps = 9 := by kernel_rfl
theorem vresults134 : f134.results.toList = [.tmp 4] := by kernel_rfl
theorem body134 : f134.body = some ((f134.body).getD .skip) := by kernel_rfl
noncomputable def loop245 : Code := match f245.body with
  | some (.seq _ (.seq (.seq _ (.block _ l)) _)) => l
  | _ => .skip

theorem index245_loop (v : AVal) (g : FuncId) (els : List (List AVal)) (mv : List AVal → AVal) (p : Nat → Bool) (c : Nat) (m : Mem) (hv : SlV m 119 9 v els) (hlen : els.length ≤ 1000)
    (hmk : ∀ x ∈ els, ∃ ve, ES.ty.get 119 = some ve ∧ mkVal ve x = some (mv x)) (hc : ∀ i x, els[i]? = some x → ∀ mm, Fr S0 m mm (c * els.length) → vcall ES g [mv x] mm fun r m' => r = .bool (p i) ∧ Fr S0 mm m' c) :
    ∀ (j i : Nat) (sl : Slots) (mm : Mem), i + j = els.length → Fr S0 m mm (c * i) → (∀ k, k < i → p k = false) → sget sl 0 = v → sget sl 1 = .fn g [] [] → sget sl 7 = .int .i64 (els.length : Nat) → sget sl 8 = .int .i64 (i : Nat) →
    vwp ES loop245 (fun ex st => (ex = .exit 0 ∧ (List.range els.length).any p = false ∧ ∃ sl' mm', st = ⟨245, 19, sl', mm'⟩ ∧ Fr S0 m mm' (c * els.length)) ∨ (ex = .ret ∧ (List.range els.length).any p = true ∧ ∃ sl' mm' k, st = ⟨245, 19, sl', mm'⟩ ∧ sget sl' 4 = .int .i64 ((k : Nat) : Int) ∧ Fr S0 m mm' (c * els.length))) ⟨245, 19, sl, mm⟩ := by
  intro j
  induction j with
  | zero =>
    intro i sl mm hij hF hp s0 s1 s7 s8
    obtain rfl : i = els.length := by omega
    unfold loop245 f245
    refine vwp_loop (vwp_seq ?_)
    refine vwp_region ?_
    iterate 1 (refine vops_cons (n := 0) (by simp [s7, s8]; rfl) ?_)
    refine vops_nil ?_
    refine vwp_seq (vwp_cond (t := false) (by simp [St.ev, St.slot_mk, sget_put]) (vwp_exit ?_))
    refine .inl ⟨rfl, ?_, _, mm, rfl, hF⟩
    rw [List.any_eq_false]
    intro x hx; rw [hp x (List.mem_range.1 hx)]; decide
  | succ j ih =>
    intro i sl mm hij hF hp s0 s1 s7 s8
    have hi : i < els.length := by omega
    have hi' : (i : Int) < (els.length : Int) := by omega
    obtain ⟨x, hx⟩ : ∃ x, els[i]? = some x := ⟨els[i], List.getElem?_eq_getElem hi⟩
    have hxm := List.mem_of_getElem? hx
    have hle : c * i + c ≤ c * els.length := by rw [← Nat.mul_succ]; exact Nat.mul_le_mul_left _ hi
    obtain ⟨q, hA, hR⟩ := (hv.fr hF rfl).elem (E := ES) ty128 rfl ty119 rfl (by decide) hx
    obtain ⟨ve, hve, hmv⟩ := hmk x hxm
    have hte : some ve = some _ := hve.symm.trans ty119
    cases hte
    unfold loop245 f245
    refine vwp_loop (vwp_seq ?_)
    refine vwp_region ?_
    iterate 1 (refine vops_cons (n := 0) (by simp [s7, s8, hi']; rfl) ?_)
    refine vops_nil ?_
    refine vwp_seq (vwp_cond (t := true) (by simp [St.ev, St.slot_mk, sget_put]) (vwp_skip ?_))
    refine vwp_seq (vwp_block (vwp_seq ?_))
    refine vwp_region ?_
    iterate 2 (refine vops_cons (n := 0) (by simp [s8]; rfl) ?_)
    refine vops_nil ?_
    refine vwp_seq (vwp_region ?_)
    iterate 4 (refine vops_cons (n := 0) (by simp [s0, s1, s8, hA]; rfl) ?_)
    refine vops_load rfl rfl ty119 (by simp; exact hR) hmv ⟨_, by simp; rfl, ?_⟩
    refine vops_callv (g := g) (first := []) (cap := []) (avs := [mv x]) rfl rfl (by simp [s1]) (by simp) ?_
    refine (hc i x hx mm (hF.le (by omega))).mono fun r m' h => ?_
    obtain ⟨rfl, hF2⟩ := h
    refine ⟨_, by simp; rfl, vops_nil ?_⟩
    have hF3 := hF.trans hF2 (Nat.le_refl _)
    cases hpx : p i with
    | true =>
      refine vwp_cond (t := true) (by simp [St.ev, St.slot_mk, sget_put]) ?_
      refine vwp_seq ?_
      refine vwp_region ?_
      iterate 2 (refine vops_cons (n := 0) (by simp [s8]; rfl) ?_)
      refine vops_nil ?_
      refine vwp_ret (.inr ⟨rfl, ?_, _, m', i, rfl, by simp, hF3.le (by omega)⟩)
      rw [List.any_eq_true]
      exact ⟨i, List.mem_range.2 hi, hpx⟩
    | false =>
      refine vwp_cond (t := false) (by simp [St.ev, St.slot_mk, sget_put]) (vwp_skip ?_)
      refine vwp_region ?_
      iterate 2 (refine vops_cons (n := 0) (by simp [s8, wrap_up (show i < 1000000000 by omega)]; rfl) ?_)
      refine vops_nil ?_
      refine ih (i + 1) _ m' (by omega) (hF3.le (by rw [Nat.mul_succ]; exact Nat.le_refl _)) ?_ (by simp [s0]) (by simp [s1]) (by simp [s7]) (by simp)
      intro k hk
      rcases Nat.lt_succ_iff_lt_or_eq.1 hk with h | rfl
      · exact hp k h
      · exact hpx

theorem contains134_ok {v : AVal} {g : FuncId} {els : List (List AVal)} (mv : List AVal → AVal) (p : Nat → Bool) (c : Nat) {m : Mem} (hv : SlV m 119 9 v els) (hlen : els.length ≤ 1000)
    (hmk : ∀ x ∈ els, ∃ ve, ES.ty.get 119 = some ve ∧ mkVal ve x = some (mv x)) (hc : ∀ i x, els[i]? = some x → ∀ mm, Fr S0 m mm (c * els.length) → vcall ES g [mv x] mm fun r m' => r = .bool (p i) ∧ Fr S0 mm m' c) :
    vcall ES 134 [v, .fn g [] []] m fun r m' => r = .bool ((List.range els.length).any p) ∧ Fr S0 m m' (c * els.length) := by
  refine vcall_body (fn := f134) (c := ((f134.body).getD .skip)) rfl fns134 body134 (by rw [vntmps134]; show 2 ≤ 9; decide) (by rw [vntmps134]; decide) ?_
  rw [vntmps134]
  simp only [vresults134]
  unfold f134
  simp only [Option.getD_some]
  refine vwp_seq ?_
  refine vwp_region ?_
  iterate 1 (refine vops_cons (n := 0) (by simp []; rfl) ?_)
  refine vops_nil ?_
  refine vwp_seq (vwp_region ?_)
  iterate 2 (refine vops_cons (n := 0) (by simp []; rfl) ?_)
  refine vops_callv (g := 245) (first := []) (cap := []) (avs := [v, .fn g [] []]) rfl rfl rfl (by simp) ?_
  have hI : vcall ES 245 [v, .fn g [] []] m fun r m' => (∃ z : Int, r = .int .i64 z ∧ decide (0 ≤ z) = (List.range els.length).any p) ∧ Fr S0 m m' (c * els.length) := by
    refine vcall_body (fn := f245) (c := ((f245.body).getD .skip)) rfl fns245 body245 (by rw [vntmps245]; show 2 ≤ 19; decide) (by rw [vntmps245]; decide) ?_
    rw [vntmps245]
    simp only [vresults245]
    unfold f245
    simp only [Option.getD_some]
    have hl := hv.len
    refine vwp_seq ?_
    refine vwp_region ?_
    iterate 1 (refine vops_cons (n := 0) (by simp []; rfl) ?_)
    refine vops_nil ?_
    refine vwp_seq (vwp_seq ?_)
    refine vwp_region ?_
    iterate 3 (refine vops_cons (n := 0) (by simp [ty128, hl]; rfl) ?_)
    refine vops_nil ?_
    refine vwp_block ?_
    refine (index245_loop v g els mv p c m hv hlen hmk hc els.length 0 _ m (by omega) (Fr.refl _ _) (fun k hk => absurd hk (Nat.not_lt_zero _)) (by simp) (by simp) (by simp) (by simp)).mono ?_
    rintro ex st (⟨rfl, ha, sl', mm', rfl, hF⟩ | ⟨rfl, ha, sl', mm', k, rfl, s4, hF⟩)
    · refine vwp_seq ?_
      refine vwp_region ?_
      iterate 1 (refine vops_cons (n := 0) (by simp []; rfl) ?_)
      refine vops_nil ?_
      exact vwp_ret ⟨.inr rfl, _, by simp [resultVals]; rfl, ⟨-1, rfl, by rw [ha]; rfl⟩, hF⟩
    · exact ⟨.inr rfl, _, by simp [resultVals, s4]; rfl, ⟨(k : Nat), rfl, by rw [ha]; exact decide_eq_true (by omega)⟩, hF⟩
  refine hI.mono fun r m' h => ?_
  obtain ⟨⟨z, rfl, hz⟩, hF⟩ := h
  refine ⟨_, by simp; rfl, ?_⟩
  iterate 2 (refine vops_cons (n := 0) (by simp []; rfl) ?_)
  exact vops_nil (vwp_ret ⟨.inr rfl, _, by simp [resultVals]; rfl, by rw [← hz]; rfl, hF⟩)

end Go.Proofs.Tryz
