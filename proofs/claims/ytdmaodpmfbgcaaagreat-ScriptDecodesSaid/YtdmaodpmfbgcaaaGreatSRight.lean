/-
  What the program says a script may be: on the abstract machine.
-/
import Derived.Test.YtdmaodpmfbgcaaaGreatSIdx
set_option maxRecDepth 100000
namespace Go.Proofs.Tryz
open Go Go.V Go.SC
attribute [local simp] runOp wanted isHeavy light St.ev St.slot_mk sget_put St.put_mk cl_int cl_bool cl_str cl_ptr cl_nil cl_ref cl_imm cl_agg cl_nilp NewV.at nblt nble nbeq ofConst ofConst1 fieldOf sh_ptr sh_iptr rc_ptr rc_iptr lget mkVal VD.isAgg lenOf bin ar_add ar_sub ar_mul ar_eql ar_neq ar_lss ar_leq ar_gtr ar_geq argSlots un heavy writeCells lput eqVals next_add next_upd fillA zeros natOf_cast
theorem fns244 : ES.fns.get 244 = some f244 := by kernel_rfl
theorem vntmps244 : f244.ntmps = 9 := by kernel_rfl
theorem vresults244 : f244.results.toList = [.tmp 2] := by kernel_rfl
theorem body244 : f244.body = some ((f244.body).getD .skip) := by kernel_rfl
theorem fns247 : ES.fns.get 247 = some f247 := by kernel_rfl
theorem vntmps247 : f247.ntmps = 6 := by kernel_rfl
theorem vresults247 : f247.results.toList = [.tmp 2] := by kernel_rfl
theorem body247 : f247.body = some ((f247.body).getD .skip) := by kernel_rfl
theorem fns133 : ES.fns.get 133 = some f133 := by kernel_rfl
theorem vntmps133 : f133.ntmps = 6 := by kernel_rfl
theorem vresults133 : f133.results.toList = [.tmp 2] := by kernel_rfl
theorem body133 : f133.body = some ((f133.body).getD .skip) := by kernel_rfl
theorem fns136 : ES.fns.get 136 = some f136 := by kernel_rfl
theorem vntmps136 : f136.ntmps = 48 := by kernel_rfl
theorem vresults136 : f136.results.toList = [.tmp 2] := by kernel_rfl
theorem body136 : f136.body = some ((f136.body).getD .skip) := by kernel_rfl
theorem fns135 : ES.fns.get 135 = some f135 := by kernel_rfl
theorem vntmps135 : f135.ntmps = 6 := by kernel_rfl
theorem vresults135 : f135.results.toList = [.tmp 2] := by kernel_rfl
theorem body135 : f135.body = some ((f135.body).getD .skip) := by kernel_rfl
theorem fns53 : ES.fns.get 53 = some f53 := by kernel_rfl
theorem vntmps53 : f53.ntmps = 23 := by kernel_rfl
theorem vresults53 : f53.results.toList = [.tmp 2] := by kernel_rfl
theorem body53 : f53.body = some ((f53.body).getD .skip) := by kernel_rfl
/-! ### Lists of numbers, of texts; steps -/
def intE (l : List Int) : List (List AVal) := l.map fun n => [.int .i64 n]
def strE (l : List (List UInt8)) : List (List AVal) := l.map fun t => [.str (mkS t)]
def stepC (x : LStep) (p : AVal) : List AVal := [.int .i64 x.kind, .int .i64 x.a, .int .i64 x.n, .int .i64 x.n2, .int .u8 (x.who.toNat : Nat), p, .int .i64 x.act, .str (mkS x.s), .int .i64 x.num]
def StepR (m : Mem) (cs : List AVal) (x : LStep) : Prop := ∃ p, cs = stepC x p ∧ SlV m 9 1 p (strE x.path)
/-- Steps in a slice whose blocks have this type. -/
def StepsR (m : Mem) (ty : TypeId) (v : AVal) (l : List LStep) : Prop := ∃ els : List (List AVal), SlV m ty 9 v els ∧ els.length = l.length ∧ ∀ (i : Nat) (x : LStep), l[i]? = some x → ∃ cs, els[i]? = some cs ∧ StepR m cs x
def ScrR (m : Mem) (ty : TypeId) (cs : List AVal) (x : LScript) : Prop := ∃ v, cs = [.int .i64 x.c, .int .i64 x.s, .int .i64 x.cap, v] ∧ StepsR m ty v x.steps

theorem intE_one (l : List Int) : ∀ x ∈ intE l, x.length = 1 := by
  intro x hx; simp only [intE, List.mem_map] at hx; obtain ⟨_, _, rfl⟩ := hx; rfl
theorem strE_one (l : List (List UInt8)) : ∀ x ∈ strE l, x.length = 1 := by
  intro x hx; simp only [strE, List.mem_map] at hx; obtain ⟨_, _, rfl⟩ := hx; rfl
theorem strE_len (l : List (List UInt8)) : (strE l).length = l.length := by simp [strE]
theorem StepR.fr {S : TypeId → Bool} {m m' : Mem} {k : Nat} {cs : List AVal} {x : LStep} (hF : Fr S m m' k) (hS : S 9 = false) (h : StepR m cs x) : StepR m' cs x := by
  obtain ⟨p, h1, h2⟩ := h; exact ⟨p, h1, h2.fr hF hS⟩
theorem StepsR.fr {S : TypeId → Bool} {m m' : Mem} {k ty : Nat} {v : AVal} {l : List LStep} (hF : Fr S m m' k) (hS : S 9 = false) (hT : S ty = false) (h : StepsR m ty v l) : StepsR m' ty v l := by
  obtain ⟨els, h1, h2, h3⟩ := h
  exact ⟨els, h1.fr hF hT, h2, fun i x hi => by obtain ⟨cs, e1, e2⟩ := h3 i x hi; exact ⟨cs, e1, e2.fr hF hS⟩⟩
theorem ScrR.fr {S : TypeId → Bool} {m m' : Mem} {k ty : Nat} {cs : List AVal} {x : LScript} (hF : Fr S m m' k) (hS : S 9 = false) (hT : S ty = false) (h : ScrR m ty cs x) : ScrR m' ty cs x := by
  obtain ⟨v, h1, h2⟩ := h; exact ⟨v, h1, h2.fr hF hS hT⟩
theorem StepsR.len {m : Mem} {ty : TypeId} {v : AVal} {l : List LStep} (h : StepsR m ty v l) : sliceLen v = some l.length := by
  obtain ⟨els, h1, h2, _⟩ := h; rw [h1.len, h2]

def smallB (n : Int) : Bool := decide (small n)
theorem smallB_iff (n : Int) : smallB n = true ↔ small n := decide_eq_true_iff

/-! ### One number -/
theorem num1_ok {m : Mem} (n : Int) : vcall ES 244 [.int .i64 n] m fun r m' => r = .bool (!smallB n) ∧ Fr S0 m m' 0 := by
  refine vcall_body (fn := f244) (c := ((f244.body).getD .skip)) rfl fns244 body244 (by rw [vntmps244]; show 1 ≤ 9; decide) (by rw [vntmps244]; decide) ?_
  rw [vntmps244]
  simp only [vresults244]
  unfold f244
  simp only [Option.getD_some]
  refine vwp_seq ?_
  refine vwp_region ?_
  iterate 1 (refine vops_cons (n := 0) (by simp (maxSteps := 1000000) []; rfl) ?_)
  refine vops_nil ?_
  have e : mostN = 2147483647 := rfl
  refine vwp_seq (vwp_region ?_)
  by_cases c1 : n < -2147483647
  · have hs : smallB n = false := decide_eq_false (fun h => by have := h.1; omega)
    iterate 7 (refine vops_cons (n := 0) (by simp (maxSteps := 1000000) [c1]; rfl) ?_)
    exact vops_nil (vwp_ret ⟨.inr rfl, _, by simp [resultVals]; rfl, by rw [hs]; rfl, .refl _ _⟩)
  · by_cases c2 : (2147483647 : Int) < n
    · have hs : smallB n = false := decide_eq_false (fun h => by have := h.2; omega)
      iterate 7 (refine vops_cons (n := 0) (by simp (maxSteps := 1000000) [c1, c2]; rfl) ?_)
      exact vops_nil (vwp_ret ⟨.inr rfl, _, by simp [resultVals]; rfl, by rw [hs]; rfl, .refl _ _⟩)
    · have hs : smallB n = true := decide_eq_true (⟨by omega, by omega⟩ : small n)
      iterate 7 (refine vops_cons (n := 0) (by simp (maxSteps := 1000000) [c1, c2]; rfl) ?_)
      exact vops_nil (vwp_ret ⟨.inr rfl, _, by simp [resultVals]; rfl, by rw [hs]; rfl, .refl _ _⟩)

theorem text1_ok {m : Mem} (t : List UInt8) : vcall ES 247 [.str (mkS t)] m fun r m' => r = .bool (decide (30 < t.length)) ∧ Fr S0 m m' 0 := by
  refine vcall_body (fn := f247) (c := ((f247.body).getD .skip)) rfl fns247 body247 (by rw [vntmps247]; show 1 ≤ 6; decide) (by rw [vntmps247]; decide) ?_
  rw [vntmps247]
  simp only [vresults247]
  unfold f247
  simp only [Option.getD_some]
  refine vwp_seq ?_
  refine vwp_region ?_
  iterate 1 (refine vops_cons (n := 0) (by simp (maxSteps := 1000000) []; rfl) ?_)
  refine vops_nil ?_
  refine vwp_seq (vwp_region ?_)
  by_cases c1 : (30 : Int) < (t.length : Int)
  · have c2 : 30 < t.length := by omega
    iterate 4 (refine vops_cons (n := 0) (by simp (maxSteps := 1000000) [ty9, mkS_size, c1]; rfl) ?_)
    exact vops_nil (vwp_ret ⟨.inr rfl, _, by simp [resultVals]; rfl, by rw [decide_eq_true c2]; rfl, .refl _ _⟩)
  · have c2 : ¬ 30 < t.length := by omega
    iterate 4 (refine vops_cons (n := 0) (by simp (maxSteps := 1000000) [ty9, mkS_size, c1]; rfl) ?_)
    exact vops_nil (vwp_ret ⟨.inr rfl, _, by simp [resultVals]; rfl, by rw [decide_eq_false c2]; rfl, .refl _ _⟩)

theorem any_range {α : Type} (f : α → Bool) (p : Nat → Bool) (l : List α) (n : Nat) (hn : n = l.length) (h : ∀ i x, l[i]? = some x → p i = f x) : (List.range n).any p = l.any f := by
  subst hn
  rw [Bool.eq_iff_iff, List.any_eq_true, List.any_eq_true]
  constructor
  · rintro ⟨i, hi, hp⟩
    have hi' := List.mem_range.1 hi
    have hx := List.getElem?_eq_getElem hi'
    exact ⟨l[i], List.getElem_mem hi', by rw [← h i _ hx]; exact hp⟩
  · rintro ⟨x, hx, hf⟩
    obtain ⟨i, hi⟩ := List.getElem?_of_mem hx
    exact ⟨i, List.mem_range.2 (List.getElem?_eq_some_iff.1 hi).1, by rw [h i x hi]; exact hf⟩

/-- Numbers. -/
theorem numbers_ok {m : Mem} {v : AVal} {l : List Int} (hv : SlV m 3 1 v (intE l)) (hl : l.length ≤ 1000) : vcall ES 133 [v] m fun r m' => r = .bool (l.all smallB) ∧ Fr S0 m m' 0 := by
  refine vcall_body (fn := f133) (c := ((f133.body).getD .skip)) rfl fns133 body133 (by rw [vntmps133]; show 1 ≤ 6; decide) (by rw [vntmps133]; decide) ?_
  rw [vntmps133]
  simp only [vresults133]
  unfold f133
  simp only [Option.getD_some]
  refine vwp_seq ?_
  refine vwp_region ?_
  iterate 1 (refine vops_cons (n := 0) (by simp (maxSteps := 1000000) []; rfl) ?_)
  refine vops_nil ?_
  refine vwp_seq (vwp_region ?_)
  iterate 1 (refine vops_cons (n := 0) (by simp (maxSteps := 1000000) []; rfl) ?_)
  refine vops_callv (g := 243) (first := []) (cap := []) (avs := [v, .fn 244 [] []]) rfl rfl rfl (by simp) ?_
  refine (contains243_ok (fun x => x.headD .any) (fun i => !smallB ((l[i]?).getD 0)) 0 hv (by simpa [intE] using hl) ?_ ?_).mono fun r m' h => ?_
  · intro x hx
    refine ⟨_, ty3, ?_⟩
    simp only [intE, List.mem_map] at hx
    obtain ⟨n, _, rfl⟩ := hx
    rfl
  · intro i x hx mm _
    simp only [intE, List.getElem?_map, Option.map_eq_some_iff] at hx
    obtain ⟨n, hn, rfl⟩ := hx
    rw [hn]
    exact num1_ok n
  · obtain ⟨rfl, hF⟩ := h
    rw [any_range (fun n => !smallB n) _ l _ (by simp [intE]) (fun i x hx => by rw [hx]; rfl)]
    refine ⟨_, by simp; rfl, ?_⟩
    iterate 2 (refine vops_cons (n := 0) (by simp (maxSteps := 1000000) []; rfl) ?_)
    refine vops_nil (vwp_ret ⟨.inr rfl, _, by simp [resultVals]; rfl, ?_, hF.le (by omega)⟩)
    rw [← List.not_all_eq_any_not, Bool.not_not]; rfl

theorem path_ok {m : Mem} {v : AVal} {l : List (List UInt8)} (hv : SlV m 9 1 v (strE l)) (hl : l.length ≤ 1000) : vcall ES 246 [v, .fn 247 [] []] m fun r m' => r = .bool (l.any fun t => decide (30 < t.length)) ∧ Fr S0 m m' 0 := by
  refine (contains246_ok (fun x => x.headD .any) (fun i => decide (30 < ((l[i]?).getD []).length)) 0 hv (by simpa [strE] using hl) ?_ ?_).mono fun r m' h => ?_
  · intro x hx
    refine ⟨_, ty9, ?_⟩
    simp only [strE, List.mem_map] at hx
    obtain ⟨n, _, rfl⟩ := hx
    rfl
  · intro i x hx mm _
    simp only [strE, List.getElem?_map, Option.map_eq_some_iff] at hx
    obtain ⟨n, hn, rfl⟩ := hx
    rw [hn]
    exact text1_ok n
  · obtain ⟨rfl, hF⟩ := h
    refine ⟨?_, hF.le (by omega)⟩
    rw [any_range (fun t : List UInt8 => decide (30 < t.length)) _ l _ (by simp [strE]) (fun i x hx => by rw [hx]; rfl)]

/-! ### One step -/
def stepOkB (x : LStep) : Bool := [x.kind, x.a, x.n, x.n2, x.act].all smallB && decide (x.path.length ≤ 3) && decide (x.s.length ≤ 30) && decide (x.num ≤ mostInc) && decide (-mostInc ≤ x.num) && !(x.path.any fun t => decide (30 < t.length))
theorem stepOkB_iff (x : LStep) : stepOkB x = true ↔ StepOk x := by
  simp only [stepOkB, List.all_cons, List.all_nil, Bool.and_true, Bool.and_eq_true, smallB_iff, decide_eq_true_eq, Bool.not_eq_true', List.any_eq_false, Nat.not_lt]
  constructor
  · rintro ⟨⟨⟨⟨⟨⟨h1, h2, h3, h4, h5⟩, h6⟩, h7⟩, h8⟩, h9⟩, h10⟩
    exact ⟨h1, h2, h3, h4, h5, h6, h10, h7, ⟨h9, h8⟩⟩
  · rintro ⟨h1, h2, h3, h4, h5, h6, h10, h7, ⟨h9, h8⟩⟩
    exact ⟨⟨⟨⟨⟨⟨h1, h2, h3, h4, h5⟩, h6⟩, h7⟩, h8⟩, h9⟩, h10⟩

theorem right1_ok {m : Mem} {cs : List AVal} {x : LStep} (h : StepR m cs x) (hn : m.next ≤ 900000) : vcall ES 136 [.agg cs] m fun r m' => r = .bool (stepOkB x) ∧ Fr S0 m m' 2 := by
  obtain ⟨p, rfl, hp⟩ := h
  have hnx : m.next < 1048576 := by omega
  have hnx2 : m.next + 1 < 1048576 := by omega
  have hnx2' : (m.add ⟨119, stepC x p, 0⟩).next < 1048576 := hnx2
  have hB := get_add_self m ⟨119, stepC x p, 0⟩ hnx
  have hB' : (m.add ⟨119, stepC x p, 0⟩).get m.next = some ⟨119, [.int .i64 x.kind, .int .i64 x.a, .int .i64 x.n, .int .i64 x.n2, .int .u8 (x.who.toNat : Nat), p, .int .i64 x.act, .str (mkS x.s), .int .i64 x.num], 0⟩ := hB
  have hF1 : Fr S0 m (m.add ⟨119, stepC x p, 0⟩) 1 := Fr.add m _ hnx
  have hF2 : Fr S0 (m.add ⟨119, stepC x p, 0⟩) ((m.add ⟨119, stepC x p, 0⟩).add ⟨3, (intE [x.kind, x.a, x.n, x.n2, x.act]).flatten, 0⟩) 1 := Fr.add _ _ hnx2'
  refine vcall_body (fn := f136) (c := ((f136.body).getD .skip)) rfl fns136 body136 (by rw [vntmps136]; show 1 ≤ 48; decide) (by rw [vntmps136]; decide) ?_
  rw [vntmps136]
  simp only [vresults136]
  unfold f136
  simp only [Option.getD_some]
  refine vwp_seq ?_
  refine vwp_region ?_
  iterate 2 (refine vops_cons (n := 0) (by simp (maxSteps := 1000000) [hnx]; rfl) ?_)
  refine vops_nil ?_
  refine vwp_seq (vwp_seq ?_)
  refine vwp_region ?_
  show vops _ _ _ _ ⟨136, 48, _, m.add ⟨119, stepC x p, 0⟩⟩
  iterate 12 (refine vops_cons (n := 0) (by simp (maxSteps := 1000000) [ty119, ty65, ty3, ty230, hB', hnx2]; rfl) ?_)
  show vops _ _ _ _ ⟨136, 48, _, (m.add ⟨119, stepC x p, 0⟩).add ⟨3, (intE [x.kind, x.a, x.n, x.n2, x.act]).flatten, 0⟩⟩
  have hsl : SlV ((m.add ⟨119, stepC x p, 0⟩).add ⟨3, (intE [x.kind, x.a, x.n, x.n2, x.act]).flatten, 0⟩) 3 1 (.ref (m.next + 1) 5 0 5 5 true 1) (intE [x.kind, x.a, x.n, x.n2, x.act]) :=
    .ref (m.next + 1) 5 0 5 true _ (intE [x.kind, x.a, x.n, x.n2, x.act]) (intE_one _) (at_add_self _ _ hnx2') rfl rfl rfl (Nat.le_refl _)
  refine vops_callv (g := 133) (first := []) (cap := []) (avs := [.ref (m.next + 1) 5 0 5 5 true 1]) rfl rfl rfl (by simp) ?_
  refine (numbers_ok hsl (by simp)).mono fun r m' h => ?_
  obtain ⟨rfl, hF3⟩ := h
  have hF := (hF1.trans hF2 (Nat.le_refl _)).trans hF3 (Nat.le_refl _)
  have hA := (hF2.trans hF3 (Nat.le_refl _)).keep m.next _ (at_add_self m ⟨119, stepC x p, 0⟩ hnx) rfl
  have hA' : m'.get m.next = some ⟨119, [.int .i64 x.kind, .int .i64 x.a, .int .i64 x.n, .int .i64 x.n2, .int .u8 (x.who.toNat : Nat), p, .int .i64 x.act, .str (mkS x.s), .int .i64 x.num], 0⟩ := hA.2
  have hpl : sliceLen p = some x.path.length := by rw [hp.len, strE_len]
  have hpc : AVal.cells? p = some [p] := hp.cl
  have e : mostInc = 1099511627776 := rfl
  generalize c0 : [x.kind, x.a, x.n, x.n2, x.act].all smallB = q0
  refine ⟨_, by simp; rfl, ?_⟩
  have fin : ∀ (sl : Slots), stepOkB x = false → (∃ ex st', ex = Ex.ret ∧ st' = (⟨136, 48, Slots.put sl 2 (.bool false), m'⟩ : St)) → True := fun _ _ _ => trivial
  clear fin

  cases q0 with
  | false =>
    have hbad : stepOkB x = false := by simp [stepOkB, c0]
    iterate 27 (refine vops_cons (n := 0) (by simp (maxSteps := 1000000) []; rfl) ?_)
    refine vops_nil (vwp_cond (t := true) (by simp [St.ev, St.slot_mk, sget_put]) ?_)
    refine vwp_seq ?_
    refine vwp_region ?_
    iterate 1 (refine vops_cons (n := 0) (by simp (maxSteps := 1000000) []; rfl) ?_)
    refine vops_nil ?_
    exact vwp_ret ⟨.inr rfl, _, by simp [resultVals]; rfl, by rw [hbad]; rfl, hF⟩
  | true =>
    by_cases c1 : (3 : Int) < (x.path.length : Int)
    · have c1' : ¬ x.path.length ≤ 3 := by omega
      have hbad : stepOkB x = false := by simp [stepOkB, c1']
      iterate 27 (refine vops_cons (n := 0) (by simp (maxSteps := 1000000) [ty119, ty65, ty63, hA', hpl, c1]; rfl) ?_)
      refine vops_nil (vwp_cond (t := true) (by simp [St.ev, St.slot_mk, sget_put]) ?_)
      refine vwp_seq ?_
      refine vwp_region ?_
      iterate 1 (refine vops_cons (n := 0) (by simp (maxSteps := 1000000) []; rfl) ?_)
      refine vops_nil ?_
      exact vwp_ret ⟨.inr rfl, _, by simp [resultVals]; rfl, by rw [hbad]; rfl, hF⟩
    · by_cases c2 : (30 : Int) < (x.s.length : Int)
      · have c2' : ¬ x.s.length ≤ 30 := by omega
        have hbad : stepOkB x = false := by simp [stepOkB, c2']
        iterate 27 (refine vops_cons (n := 0) (by simp (maxSteps := 1000000) [ty119, ty65, ty63, ty9, hA', hpl, mkS_size, c1, c2]; rfl) ?_)
        refine vops_nil (vwp_cond (t := true) (by simp [St.ev, St.slot_mk, sget_put]) ?_)
        refine vwp_seq ?_
        refine vwp_region ?_
        iterate 1 (refine vops_cons (n := 0) (by simp (maxSteps := 1000000) []; rfl) ?_)
        refine vops_nil ?_
        exact vwp_ret ⟨.inr rfl, _, by simp [resultVals]; rfl, by rw [hbad]; rfl, hF⟩
      · by_cases c3 : (1099511627776 : Int) < x.num
        · have c3' : ¬ x.num ≤ mostInc := by omega
          have hbad : stepOkB x = false := by simp [stepOkB, c3']
          iterate 27 (refine vops_cons (n := 0) (by simp (maxSteps := 1000000) [ty119, ty65, ty63, ty9, ty2, hA', hpl, mkS_size, c1, c2, c3]; rfl) ?_)
          refine vops_nil (vwp_cond (t := true) (by simp [St.ev, St.slot_mk, sget_put]) ?_)
          refine vwp_seq ?_
          refine vwp_region ?_
          iterate 1 (refine vops_cons (n := 0) (by simp (maxSteps := 1000000) []; rfl) ?_)
          refine vops_nil ?_
          exact vwp_ret ⟨.inr rfl, _, by simp [resultVals]; rfl, by rw [hbad]; rfl, hF⟩
        · by_cases c4 : x.num < (-1099511627776 : Int)
          · have c4' : ¬ -mostInc ≤ x.num := by omega
            have hbad : stepOkB x = false := by simp [stepOkB, c4']
            iterate 27 (refine vops_cons (n := 0) (by simp (maxSteps := 1000000) [ty119, ty65, ty63, ty9, ty2, hA', hpl, mkS_size, c1, c2, c3, c4]; rfl) ?_)
            refine vops_nil (vwp_cond (t := true) (by simp [St.ev, St.slot_mk, sget_put]) ?_)
            refine vwp_seq ?_
            refine vwp_region ?_
            iterate 1 (refine vops_cons (n := 0) (by simp (maxSteps := 1000000) []; rfl) ?_)
            refine vops_nil ?_
            exact vwp_ret ⟨.inr rfl, _, by simp [resultVals]; rfl, by rw [hbad]; rfl, hF⟩
          · have hgood : stepOkB x = !(x.path.any fun t => decide (30 < t.length)) := by
              have a1 : x.path.length ≤ 3 := by omega
              have a2 : x.s.length ≤ 30 := by omega
              have a3 : x.num ≤ mostInc := by omega
              have a4 : -mostInc ≤ x.num := by omega
              unfold stepOkB
              rw [c0]; simp only [a1, a2, a3, a4, decide_true, Bool.true_and, Bool.and_true]
            iterate 27 (refine vops_cons (n := 0) (by simp (maxSteps := 1000000) [ty119, ty65, ty63, ty9, ty2, hA', hpl, mkS_size, c1, c2, c3, c4]; rfl) ?_)
            refine vops_nil (vwp_cond (t := false) (by simp [St.ev, St.slot_mk, sget_put]) (vwp_skip ?_))
            refine vwp_seq (vwp_region ?_)
            iterate 3 (refine vops_cons (n := 0) (by simp (maxSteps := 1000000) [ty119, ty65, ty63, hA']; rfl) ?_)
            refine vops_callv (g := 246) (first := []) (cap := []) (avs := [p, .fn 247 [] []]) rfl rfl rfl (by simp) ?_
            refine (path_ok (hp.fr hF rfl) (by omega)).mono fun r m2 h => ?_
            obtain ⟨rfl, hF4⟩ := h
            refine ⟨_, by simp; rfl, ?_⟩
            iterate 2 (refine vops_cons (n := 0) (by simp (maxSteps := 1000000) []; rfl) ?_)
            exact vops_nil (vwp_ret ⟨.inr rfl, _, by simp [resultVals]; rfl, by rw [hgood]; rfl, hF.trans hF4 (Nat.le_refl _)⟩)


theorem right1n_ok {m : Mem} {cs : List AVal} {x : LStep} (h : StepR m cs x) (hn : m.next ≤ 800000) : vcall ES 135 [.agg cs] m fun r m' => r = .bool (!stepOkB x) ∧ Fr S0 m m' 3 := by
  have hnx : m.next < 1048576 := by omega
  have hB := get_add_self m ⟨119, cs, 0⟩ hnx
  have hF1 : Fr S0 m (m.add ⟨119, cs, 0⟩) 1 := Fr.add m _ hnx
  have hl : cs.length = 9 := by obtain ⟨p, rfl, _⟩ := h; rfl
  refine vcall_body (fn := f135) (c := ((f135.body).getD .skip)) rfl fns135 body135 (by rw [vntmps135]; show 1 ≤ 6; decide) (by rw [vntmps135]; decide) ?_
  rw [vntmps135]
  simp only [vresults135]
  unfold f135
  simp only [Option.getD_some]
  refine vwp_seq ?_
  refine vwp_region ?_
  iterate 2 (refine vops_cons (n := 0) (by simp (maxSteps := 1000000) [hnx]; rfl) ?_)
  refine vops_nil ?_
  refine vwp_seq (vwp_region ?_)
  refine vops_load (cs := cs) (v := .agg cs) rfl rfl ty119 (by simp [hB, hl, List.take_of_length_le (Nat.le_of_eq hl)]) (by rfl) ⟨_, by simp; rfl, ?_⟩
  refine vops_callv (g := 136) (first := []) (cap := []) (avs := [.agg cs]) rfl rfl rfl (by simp) ?_
  refine (right1_ok (h.fr hF1 rfl) (by rw [next_add]; omega)).mono fun r m' h => ?_
  obtain ⟨rfl, hF⟩ := h
  refine ⟨_, by simp; rfl, ?_⟩
  iterate 2 (refine vops_cons (n := 0) (by simp (maxSteps := 1000000) []; rfl) ?_)
  exact vops_nil (vwp_ret ⟨.inr rfl, _, by simp [resultVals]; rfl, rfl, hF1.trans hF (Nat.le_refl _)⟩)

/-! ### Scripts -/
def scriptOkB (x : LScript) : Bool := [x.c, x.s, x.cap].all smallB && decide (x.steps.length ≤ 200) && !(x.steps.any fun y => !stepOkB y)
theorem scriptOkB_iff (x : LScript) : scriptOkB x = true ↔ ScriptOk x := by
  simp only [scriptOkB, List.all_cons, List.all_nil, Bool.and_true, Bool.and_eq_true, smallB_iff, decide_eq_true_eq, Bool.not_eq_true', List.any_eq_false]
  constructor
  · rintro ⟨⟨⟨h1, h2, h3⟩, h4⟩, h5⟩
    exact ⟨h1, h2, h3, h4, fun y hy => (stepOkB_iff y).1 (by have := h5 y hy; simpa using this)⟩
  · rintro ⟨h1, h2, h3, h4, h5⟩
    exact ⟨⟨⟨h1, h2, h3⟩, h4⟩, fun y hy => by simp [(stepOkB_iff y).2 (h5 y hy)]⟩

theorem rightN_ok {m : Mem} {v : AVal} {l : List LStep} (h : StepsR m 119 v l) (hl : l.length ≤ 1000) (hn : m.next ≤ 700000) : vcall ES 134 [v, .fn 135 [] []] m fun r m' => r = .bool (l.any fun y => !stepOkB y) ∧ Fr S0 m m' (3 * l.length) := by
  obtain ⟨els, hs, hlen, hel⟩ := h
  refine (contains134_ok (fun x => .agg x) (fun i => match l[i]? with | some y => !stepOkB y | none => false) 3 hs (by omega) ?_ ?_).mono fun r m' h => ?_
  · intro x hx
    exact ⟨_, ty119, rfl⟩
  · intro i cs hi mm hF
    have hil : i < l.length := by rw [← hlen]; exact (List.getElem?_eq_some_iff.1 hi).1
    have hx := List.getElem?_eq_getElem hil
    obtain ⟨cs', h1, h2⟩ := hel i _ hx
    rw [hi] at h1
    cases h1
    rw [hx]
    have := hF.most
    exact right1n_ok (h2.fr hF rfl) (by omega)
  · obtain ⟨rfl, hF⟩ := h
    rw [hlen] at hF
    refine ⟨?_, hF⟩
    rw [any_range (fun y : LStep => !stepOkB y) _ l _ hlen (fun i x hx => by rw [hx])]

theorem right_ok {m : Mem} {cs : List AVal} {x : LScript} (h : ScrR m 119 cs x) (hl : x.steps.length ≤ 1000) (hn : m.next ≤ 600000) : vcall ES 53 [.agg cs] m fun r m' => r = .bool (scriptOkB x) ∧ Fr S0 m m' (2 + 3 * x.steps.length) := by
  obtain ⟨v, rfl, hv⟩ := h
  have hnx : m.next < 1048576 := by omega
  have hnx2 : m.next + 1 < 1048576 := by omega
  have hnx2' : (m.add ⟨130, [.int .i64 x.c, .int .i64 x.s, .int .i64 x.cap, v], 0⟩).next < 1048576 := hnx2
  have hB := get_add_self m ⟨130, [.int .i64 x.c, .int .i64 x.s, .int .i64 x.cap, v], 0⟩ hnx
  have hF1 : Fr S0 m (m.add ⟨130, [.int .i64 x.c, .int .i64 x.s, .int .i64 x.cap, v], 0⟩) 1 := Fr.add m _ hnx
  have hF2 : Fr S0 (m.add ⟨130, [.int .i64 x.c, .int .i64 x.s, .int .i64 x.cap, v], 0⟩) ((m.add ⟨130, [.int .i64 x.c, .int .i64 x.s, .int .i64 x.cap, v], 0⟩).add ⟨3, (intE [x.c, x.s, x.cap]).flatten, 0⟩) 1 := Fr.add _ _ hnx2'
  refine vcall_body (fn := f53) (c := ((f53.body).getD .skip)) rfl fns53 body53 (by rw [vntmps53]; show 1 ≤ 23; decide) (by rw [vntmps53]; decide) ?_
  rw [vntmps53]
  simp only [vresults53]
  unfold f53
  simp only [Option.getD_some]
  refine vwp_seq ?_
  refine vwp_region ?_
  iterate 2 (refine vops_cons (n := 0) (by simp (maxSteps := 1000000) [hnx]; rfl) ?_)
  refine vops_nil ?_
  refine vwp_seq (vwp_region ?_)
  iterate 7 (refine vops_cons (n := 0) (by simp (maxSteps := 1000000) [ty130, ty3, ty230, hB, hnx2]; rfl) ?_)
  show vops _ _ _ _ ⟨53, 23, _, (m.add ⟨130, [.int .i64 x.c, .int .i64 x.s, .int .i64 x.cap, v], 0⟩).add ⟨3, (intE [x.c, x.s, x.cap]).flatten, 0⟩⟩
  have hsl : SlV ((m.add ⟨130, [.int .i64 x.c, .int .i64 x.s, .int .i64 x.cap, v], 0⟩).add ⟨3, (intE [x.c, x.s, x.cap]).flatten, 0⟩) 3 1 (.ref (m.next + 1) 3 0 3 3 true 1) (intE [x.c, x.s, x.cap]) :=
    .ref (m.next + 1) 3 0 3 true _ (intE [x.c, x.s, x.cap]) (intE_one _) (at_add_self _ _ hnx2') rfl rfl rfl (Nat.le_refl _)
  refine vops_callv (g := 133) (first := []) (cap := []) (avs := [.ref (m.next + 1) 3 0 3 3 true 1]) rfl rfl rfl (by simp) ?_
  refine (numbers_ok hsl (by simp)).mono fun r m' h => ?_
  obtain ⟨rfl, hF3⟩ := h
  have hF := (hF1.trans hF2 (Nat.le_refl _)).trans hF3 (Nat.le_refl _)
  have hA := ((hF2.trans hF3 (Nat.le_refl _)).keep m.next _ (at_add_self m ⟨130, [.int .i64 x.c, .int .i64 x.s, .int .i64 x.cap, v], 0⟩ hnx) rfl).2
  have hpl : sliceLen v = some x.steps.length := hv.len
  have hpc : AVal.cells? v = some [v] := by obtain ⟨els, h1, _⟩ := hv; exact h1.cl
  generalize c0 : [x.c, x.s, x.cap].all smallB = q0
  refine ⟨_, by simp; rfl, ?_⟩
  have hsc : scriptOkB x = ([x.c, x.s, x.cap].all smallB && decide (x.steps.length ≤ 200) && !(x.steps.any fun y => !stepOkB y)) := rfl
  cases q0 with
  | false =>
    rw [c0] at hsc
    iterate 13 (refine vops_cons (n := 0) (by simp (maxSteps := 1000000) []; rfl) ?_)
    exact vops_nil (vwp_ret ⟨.inr rfl, _, by simp [resultVals]; rfl, by rw [hsc]; rfl, hF.le (by omega)⟩)
  | true =>
    by_cases c1 : (x.steps.length : Int) ≤ 200
    · rw [c0, decide_eq_true (show x.steps.length ≤ 200 by omega)] at hsc
      iterate 9 (refine vops_cons (n := 0) (by simp (maxSteps := 1000000) [ty130, ty128, hA, hpl, c1]; rfl) ?_)
      refine vops_callv (g := 134) (first := []) (cap := []) (avs := [v, .fn 135 [] []]) ?_ rfl rfl (by simp) ?_
      · simp
      have := hF.most
      refine (rightN_ok (hv.fr hF rfl rfl) hl (by omega)).mono fun r m2 h => ?_
      obtain ⟨rfl, hF4⟩ := h
      refine ⟨_, by simp; rfl, ?_⟩
      iterate 3 (refine vops_cons (n := 0) (by simp (maxSteps := 1000000) []; rfl) ?_)
      exact vops_nil (vwp_ret ⟨.inr rfl, _, by simp [resultVals]; rfl, by rw [hsc]; rfl, hF.trans hF4 (by omega)⟩)
    · rw [c0, decide_eq_false (show ¬ x.steps.length ≤ 200 by omega)] at hsc
      iterate 13 (refine vops_cons (n := 0) (by simp (maxSteps := 1000000) [ty130, ty128, hA, hpl, c1]; rfl) ?_)
      exact vops_nil (vwp_ret ⟨.inr rfl, _, by simp [resultVals]; rfl, by rw [hsc]; rfl, hF.le (by omega)⟩)
end Go.Proofs.Tryz
