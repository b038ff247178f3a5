/-
  Slots while a plan's operations run in another order; and what a plan's checks say.
-/
import Derived.Test.YtdmaodpmfbgcaaaGreatVPlanMem2
namespace Go.V

mutual
theorem AVal.same_ok : ∀ (a b : AVal), AVal.same a b = true → a = b
  | .any, b, h => by cases b <;> simp [AVal.same] at h
  | .opq _, b, h => by cases b <;> simp [AVal.same] at h
  | .bool x, b, h => by cases b <;> simp [AVal.same] at h; rw [h]
  | .int k x, b, h => by cases b <;> simp [AVal.same] at h; rw [h.1, h.2]
  | .str x, b, h => by
    cases b <;> simp [AVal.same] at h
    rename_i y
    rw [show x = y from ByteArray.ext (Array.toList_inj.1 (by simpa using h))]
  | .nilp, b, h => by cases b <;> simp [AVal.same] at h; rfl
  | .ptr x y z, b, h => by cases b <;> simp [AVal.same, nbeq] at h; simp [h]
  | .iptr xs, b, h => by
    cases b <;> simp [AVal.same] at h
    rw [AVal.sames_ok _ _ h]
  | .nil s, b, h => by cases b <;> simp [AVal.same] at h; rw [h]
  | .ref .., b, h => by cases b <;> simp [AVal.same, nbeq] at h; simp [h]
  | .imm xs n, b, h => by
    cases b <;> simp [AVal.same, nbeq] at h
    rw [AVal.sames_ok _ _ h.2, h.1]
  | .nilf, b, h => by cases b <;> simp [AVal.same] at h; rfl
  | .fn f xs ys, b, h => by
    cases b <;> simp [AVal.same, nbeq] at h
    rw [AVal.sames_ok _ _ h.1.2, AVal.sames_ok _ _ h.2, h.1.1]
  | .agg xs, b, h => by
    cases b <;> simp [AVal.same] at h
    rw [AVal.sames_ok _ _ h]
  | .tup xs, b, h => by
    cases b <;> simp [AVal.same] at h
    rw [AVal.sames_ok _ _ h]
theorem AVal.sames_ok : ∀ (a b : List AVal), AVal.sames a b = true → a = b
  | [], b, h => by cases b <;> simp [AVal.sames] at h; rfl
  | x :: xs, b, h => by
    cases b <;> simp [AVal.sames] at h
    rw [AVal.same_ok _ _ h.1, AVal.sames_ok _ _ h.2]
end

structure SI (ops : List Oper) (plan : List RStep) (S : Nat → St) (T : Nat → Prop) (Γ : Ctx) (a : Act) : Prop where
  at_ : ∀ j o d, T j → ops[j]? = some o → o.dst = some d → VR Γ ((S (posOf plan j + 1)).slot d) (a.tmps.getD d undef)
  no : ∀ d, (∀ j o, T j → ops[j]? = some o → o.dst ≠ some d) → VR Γ ((S 0).slot d) (a.tmps.getD d undef)
  nt : a.tmps.size = (S 0).nt
  defers : a.defers = []

section
variable {E : Env} {Γ0 : Ctx} {call : CallFn} {ops : List Oper} {plan : List RStep} {S : Nat → St} {Γ Δ : Ctx} {w : World} {T : Nat → Prop} {p i : Nat} {a : Act} {o : Oper}

theorem SI.mono (h : SI ops plan S T Γ a) (hl : Γ.le Δ) : SI ops plan S T Δ a :=
  ⟨fun j o d h1 h2 h3 => VR.mono hl _ _ (h.at_ j o d h1 h2 h3), fun d hd => VR.mono hl _ _ (h.no d hd), h.nt, h.defers⟩

theorem getD_put (a : Act) (dst : Option Nat) (q : Value) (d : Nat) (hlt : ∀ d, dst = some d → d < a.tmps.size) : (a.put dst q).tmps.getD d undef = if dst = some d then q else a.tmps.getD d undef := by
  cases dst with
  | none => simp [Act.put]
  | some d' =>
    have h1 := hlt d' rfl
    by_cases e : d' = d
    · subst e; simp [Act.put, h1]
    · rw [if_neg (by simpa using e)]
      simp [Act.put, Array.getElem?_setIfInBounds_ne e]

variable (hS : Trace E Γ0 call ops plan S)
include hS

theorem Trace.dst_lt (ho : ops[i]? = some o) {d : Nat} (hd : o.dst = some d) : d < (S 0).nt := by
  obtain ⟨s, v, h1, h2, h3⟩ := runOp_put (hS.stepAt ho)
  rw [hd] at h3
  have := St.put_lt h3
  rw [h2, hS.fields (by have := (hS.posLt ho).1; omega)] at this
  exact this

theorem Trace.dst_ne {x y : Nat} {ox oy : Oper} (hx : ops[x]? = some ox) (hy : ops[y]? = some oy) {d : Nat} (hd : ox.dst = some d) (hd' : oy.dst = some d) : x = y := by
  refine Decidable.byContradiction fun hne => ?_
  have := (hS.pair hx hy).2
  simp only [slotOk, hd, nbeq, hne, decide_false, cond_false, Bool.and_eq_true] at this
  rw [hd'] at this
  simp at this

theorem SI.put (h : SI ops plan S T Γ a) (ho : ops[i]? = some o) (hi : ¬ T i) {q : Value} (hq : ∀ d, o.dst = some d → VR Γ ((S (posOf plan i + 1)).slot d) q) : SI ops plan S (fun k => k = i ∨ T k) Γ (a.put o.dst q) := by
  have hlt : ∀ d, o.dst = some d → d < a.tmps.size := fun d hd => by rw [h.nt]; exact hS.dst_lt ho hd
  refine ⟨fun j oj d hj hoj hd => ?_, fun d hd => ?_, by rw [← h.nt]; cases o.dst <;> simp [Act.put], by rw [← h.defers]; cases o.dst <;> rfl⟩
  · rw [getD_put a o.dst q d hlt]
    by_cases e : o.dst = some d
    · rw [if_pos e]
      have := hS.dst_ne hoj ho hd e
      subst this
      exact hq d e
    · rw [if_neg e]
      rcases hj with rfl | hj
      · rw [ho] at hoj; cases hoj; exact absurd hd e
      · exact h.at_ j oj d hj hoj hd
  · rw [getD_put a o.dst q d hlt, if_neg (hd i o (.inl rfl) ho)]
    exact h.no d fun j oj hj => hd j oj (.inr hj)

/-- What an operation that may run next reads. -/
theorem SI.read (h : SI ops plan S T Γ a) (hcl : Closed ops T) (hcl' : Closed ops (fun k => k = i ∨ T k)) (ho : ops[i]? = some o) (hi : ¬ T i) {d : Nat} (hd : d ∈ readsOf ops o) : VR Γ ((S (posOf plan i)).slot d) (a.tmps.getD d undef) := by
  have hlt := (hS.posLt ho).1
  have hc : (readsOf ops o).contains d = true := by simpa using hd
  by_cases hw : ∃ j oj, T j ∧ ops[j]? = some oj ∧ oj.dst = some d
  · obtain ⟨j, oj, hj, hoj, hdj⟩ := hw
    have hne : j ≠ i := fun e => hi (e ▸ hj)
    have hs := (hS.pair hoj ho).2
    simp only [slotOk, hdj, nbeq, hne, decide_false, cond_false, hc, Bool.and_eq_true, Bool.or_eq_true, Bool.not_true, Bool.false_eq_true, false_or] at hs
    have hanc : isAnc (ancs ops) j i = true := by
      rcases hs.2 with h1 | h1
      · exact h1
      · exact absurd (isAnc_ok hcl h1.2 hj) hi
    have hpos := hS.ancPos hanc hne
    rw [hS.slot (p := posOf plan j + 1) (q := posOf plan i) (by omega) (by omega) (fun k ok hk hkd hc => by have := hS.dst_ne hoj hk hdj hkd; subst this; omega)]
    exact h.at_ j oj d hj hoj hdj
  · rw [hS.slot (p := 0) (q := posOf plan i) (by omega) (by omega) (fun k ok hk hkd hc' => ?_)]
    · exact h.no d fun j oj hj hoj hdj => hw ⟨j, oj, hj, hoj, hdj⟩
    · by_cases e : k = i
      · subst e; omega
      · have hs := (hS.pair hk ho).2
        simp only [slotOk, hkd, nbeq, e, decide_false, cond_false, hc, Bool.and_eq_true, Bool.or_eq_true, Bool.not_true, Bool.false_eq_true, false_or] at hs
        rcases hs.2 with h1 | h1
        · rcases isAnc_ok hcl' h1 (.inl rfl) with h2 | h2
          · exact e h2
          · exact hw ⟨k, ok, h2, hk, hkd⟩
        · have := hS.ancPos h1.2 (fun x => e x.symm); omega

omit hS in
theorem mem_reads_op {t : Nat} (h : Operand.tmp t ∈ o.op.operands.toList) : t ∈ readsOf ops o := by
  unfold readsOf Oper.looksAt
  exact List.mem_append_left _ (List.mem_filterMap.2 ⟨_, h, rfl⟩)

omit hS in
theorem mem_reads_guard {j d : Nat} {want : Bool} (h : o.guard = some (j, want)) (hd : (ops.toArray[j]?).bind (·.dst) = some d) : d ∈ readsOf ops o := by
  unfold readsOf Oper.looksAt
  refine List.mem_append_right _ ?_
  simp only [h, hd]
  simp

theorem SI.ev (h : SI ops plan S T Γ a) (hcl : Closed ops T) (hcl' : Closed ops (fun k => k = i ∨ T k)) (ho : ops[i]? = some o) (hi : ¬ T i) {x : Operand} (hx : x ∈ o.op.operands.toList) : VR Γ ((S (posOf plan i)).ev x) (a.eval x) := by
  cases x with
  | tmp t => exact h.read hS hcl hcl' ho hi (mem_reads_op hx)
  | const v => exact VR_ofConst Γ v
  | global g => simp [St.ev, VR]
  | func f => simp only [St.ev, Act.eval, VR]; exact ⟨_, _, rfl, by simp [VRs], by simp [VRs]⟩

/-- Behind a load nothing writes what it reads, nor its own slot. -/
theorem Trace.loadKeep (ho : ops[i]? = some o) (hl : isLoad o.op = true) {q d : Nat} (hq : posOf plan i ≤ q) (hq' : q ≤ plan.length) (hd : d ∈ readsOf ops o) : (S q).slot d = (S (posOf plan i)).slot d := by
  have hc : (readsOf ops o).contains d = true := by simpa using hd
  refine hS.slot hq hq' fun k ok hk hkd hc' => ?_
  by_cases e : k = i
  · subst e
    rw [ho] at hk; cases hk
    have hs := (hS.pair ho ho).2
    simp only [slotOk, hkd, nbeq, decide_true, cond_true, hl, hc] at hs
    simp at hs
  · have hs := (hS.pair hk ho).2
    simp only [slotOk, hkd, nbeq, e, decide_false, cond_false, hc, hl, Bool.and_eq_true, Bool.or_eq_true, Bool.not_true, Bool.false_eq_true, false_or, false_and, or_false] at hs
    have := hS.ancPos hs.2 e
    omega

theorem Trace.dstKeep (ho : ops[i]? = some o) {q d : Nat} (hq : posOf plan i + 1 ≤ q) (hq' : q ≤ plan.length) (hd : o.dst = some d) : (S q).slot d = (S (posOf plan i + 1)).slot d :=
  hS.slot hq hq' fun k ok hk hkd hc' => by have := hS.dst_ne ho hk hd hkd; subst this; omega

theorem Trace.chk {l : List RStep} : ∀ {q : Nat}, plan.drop q = l → (chksOf l).contains i = true → stepP E call ops (.chk i) (S q) = some (S q) := by
  induction l with
  | nil => intro q _ h; simp [chksOf] at h
  | cons x l ih =>
    intro q hq h
    have hx : plan[q]? = some x := by
      have := congrArg (fun l => l[0]?) hq
      simpa using this
    have ht := hS.tr q x hx
    cases x with
    | run j => simp [chksOf] at h
    | chk j =>
      have e := stepP_chk ht
      simp only [chksOf, List.contains_cons, Bool.or_eq_true, beq_iff_eq] at h
      rcases h with rfl | h
      · rw [e] at ht; exact ht
      · have := ih (q := q + 1) (by rw [← List.drop_drop, hq]; rfl) h
        rwa [e] at this

omit hS in
theorem chk_says {st : St} (ho : ops[i]? = some o) (h : stepP E call ops (.chk i) st = some st) (hw : wanted ops st o = some true) : ∃ d, o.dst = some d ∧ light E st.mem st.ev o.op = some (.val (st.slot d)) := by
  simp only [stepP, runPlan, ho, hw] at h
  split at h
  · rename_i v d hv hd
    simp only [cond_eq_ite] at h
    split at h
    · rename_i hs
      exact ⟨d, hd, by rw [hv, AVal.same_ok _ _ hs]⟩
    · cases h
  · cases h

omit hS in
theorem wanted_congr {st st' : St} (h : ∀ d ∈ readsOf ops o, st.slot d = st'.slot d) : wanted ops st o = wanted ops st' o := by
  unfold wanted
  cases hg : o.guard with
  | none => rfl
  | some g =>
    obtain ⟨j, want⟩ := g
    simp only
    cases hj : ops[j]? with
    | none => rfl
    | some oj =>
      cases hd : oj.dst with
      | none => cases oj; simp at hd; subst hd; rfl
      | some d =>
        have := h d (mem_reads_guard hg (by simp [hj, hd]))
        cases oj; simp at hd; subst hd
        simp only [this]

omit hS in
theorem pair_lt {x y : Nat} {ox oy : Oper} {A : List (List Nat)} (h : pairOk ops plan A x y ox oy = true) (hlt : posOf plan x < posOf plan y) :
    (isHeavy oy.op = true → isHeavy ox.op = true ∨ isNew ox.op = true → isAnc A x y = true) ∧ (isHeavy ox.op = true → isLoad oy.op = true → isAnc A x y = true) ∧
    (isHeavy oy.op = true → isLoad ox.op = true → isAnc A x y = true ∨ (chksOf (plan.drop (posOf plan y + 1))).contains x = true) := by
  simp only [pairOk, nblt, hlt, decide_true, Bool.not_true, Bool.false_or, Bool.and_eq_true] at h
  obtain ⟨⟨h1, h2⟩, h3⟩ := h
  refine ⟨fun e1 e2 => ?_, fun e1 e2 => ?_, fun e1 e2 => ?_⟩
  · simp only [e1] at h1
    rcases e2 with e2 | e2 <;> simp [e2] at h1 <;> exact h1
  · simpa [e1, e2] using h2
  · simp only [e1, e2, Bool.and_self, Bool.not_true, Bool.false_or, Bool.or_eq_true] at h3
    exact h3
end
end Go.V
