/-
  One operation of a frame, and a region in the order of its text.
-/
import Derived.Test.YtdmaodpmfbgcaaaGreatVHeavy3
namespace Go.V

/-- What is asked of the function that carries out calls. -/
structure CallOk (E : Env) (Γ0 : Ctx) (call : CallFn) : Prop where
  dom : ∀ b, ¬ Γ0.dom b
  fn : ∀ f args m r, call f args m = some r → ∃ fn, E.P.funcs[f]? = some fn ∧ fn.name ≠ "runtime.NumGoroutine" ∧ fn.body.isSome = true
  ok : ∀ f args m v m', call f args m = some (v, m') → ∀ (Γ : Ctx) (vs : Array Value) (w : World), Γ0.le Γ → VRs Γ args vs.toList → MemR Γ m w →
    Calls E.P f vs w fun e w' => ∃ Δ u, e = .returned u ∧ Γ.le Δ ∧ VR Δ v u ∧ Step Γ w Δ w' ∧ MemR Δ m' w'

section
variable {E : Env} {w : World} {Γ0 Γ : Ctx} {m : Mem} {st : St} {a : Act} {call : CallFn}

theorem StR.ev (h : StR Γ0 Γ st a w) (x : Operand) : VR Γ (st.ev x) (a.eval x) := by
  cases x with
  | tmp t => exact h.slot t
  | const v => exact VR_ofConst Γ v
  | global g => simp [St.ev, VR]
  | func f => simp only [St.ev, Act.eval, VR]; exact ⟨_, _, rfl, by simp [VRs], by simp [VRs]⟩

theorem wanted_slots (ops : List Oper) (o : Oper) {b : Bool} (h : wanted ops st o = some b) (hs : ∀ j want d, o.guard = some (j, want) → (ops.toArray[j]?).bind (·.dst) = some d → VR Γ (st.slot d) (a.tmps.getD d undef)) : Region.wanted o (yielded ops.toArray a.tmps) = b := by
  unfold wanted at h
  unfold Region.wanted
  cases hg : o.guard with
  | none => simp [hg] at h; simp [← h]
  | some g =>
    obtain ⟨j, want⟩ := g
    simp only [hg] at h ⊢
    split at h
    · rename_i d _ _ _ _ _ hj
      have hj' : (ops.toArray[j]?).bind (·.dst) = some d := by simp [hj]
      have hv := hs j want d hg hj'
      split at h
      · rename_i c hc
        rw [hc] at hv
        simp only [VR] at hv
        simp only [Option.some.injEq] at h
        have ht : a.tmps[d]? = some (.bool c) := by
          cases hh : a.tmps[d]? with
          | none => rw [Array.getD_eq_getD_getElem?, hh] at hv; cases hv
          | some u => rw [Array.getD_eq_getD_getElem?, hh] at hv; exact congrArg some hv
        simp only [yielded, hj', Option.bind_some, ht]
        rw [← h]
        cases c <;> cases want <;> rfl
      · rename_i vs hc
        rw [hc] at hv
        simp only [VR] at hv
        obtain ⟨us, hus, _⟩ := hv
        simp only [Option.some.injEq] at h
        subst h
        have : yielded ops.toArray a.tmps j = none := by
          simp only [yielded, hj', Option.bind_some]
          cases hh : a.tmps[d]? with
          | none => rfl
          | some u =>
            rw [Array.getD_eq_getD_getElem?, hh] at hus
            have hus : u = _ := hus
            subst hus
            rfl
        rw [this]
        rfl
      · cases h
    · cases h

theorem StR.put (h : StR Γ0 Γ st a w) {dst : Option Nat} {v : AVal} {q : Value} {st' : St} (hp : st.put dst v = some st') (hv : VR Γ v q) : StR Γ0 Γ st' (a.put dst q) w := by
  cases dst with
  | none => simp only [St.put, Option.some.injEq] at hp; subst hp; exact h
  | some d =>
    simp only [St.put, nblt, cond_eq_ite, decide_eq_true_eq] at hp
    split at hp
    · rename_i hlt
      simp only [Option.some.injEq] at hp
      subst hp
      have hsm := h.small
      refine ⟨h.mem, fun x u hx => ?_, by simpa [Act.put] using h.nt, h.small, h.defers, h.base⟩
      rw [Slots.get_put _ _ _ _ (by omega)] at hx
      have hd : d < a.tmps.size := by rw [h.nt]; exact hlt
      split at hx
      · rename_i e
        subst e
        simp only [Option.some.injEq] at hx
        subst hx
        simpa [Act.put, hd] using hv
      · rename_i e
        have := h.slots x u hx
        have hne : d ≠ x := fun e' => e e'.symm
        simpa [Act.put, Array.getElem?_setIfInBounds_ne hne] using this
    · cases hp

theorem StR.step (h : StR Γ0 Γ st a w) {Δ : Ctx} {m' : Mem} {w' : World} (hl : Γ.le Δ) (hm : MemR Δ m' w') : StR Γ0 Δ { st with mem := m' } a w' :=
  ⟨hm, fun d v hv => VR.mono hl _ _ (h.slots d v hv), h.nt, h.small, h.defers, h.base.trans hl⟩

theorem St.put_fields {dst : Option Nat} {v : AVal} {st st' : St} (hp : st.put dst v = some st') : st'.fn = st.fn ∧ st'.nt = st.nt ∧ st'.mem = st.mem := by
  cases dst with
  | none => simp only [St.put, Option.some.injEq] at hp; subst hp; exact ⟨rfl, rfl, rfl⟩
  | some d =>
    simp only [St.put, cond_eq_ite] at hp
    split at hp
    · simp only [Option.some.injEq] at hp; subst hp; exact ⟨rfl, rfl, rfl⟩
    · cases hp

/-- An operation that writes or calls. -/
theorem heavy_wp (hT : TysOk E) (hC : CallOk E Γ0 call) (hb : Γ0.le Γ) (hm : MemR Γ m w) {ρ : Operand → AVal} (hρ : ∀ x, VR Γ (ρ x) (a.eval x)) (o : Oper) {v : AVal} {m' : Mem} (h : heavy E call m ρ o.op = some (v, m'))
    {K : Act → World → Prop} {Q : Exit → Act → World → Prop} (hK : ∀ Δ q w', Γ.le Δ → VR Δ v q → Step Γ w Δ w' → MemR Δ m' w' → K (a.put o.dst q) w') : o.wp E.P a w K Q := by
  cases hc : isCall o.op with
  | false =>
    obtain ⟨Δ, w', k1, k2, k3, k4⟩ := heavy_wrote hT hm hρ o hc h
    unfold Oper.wp
    rcases k4 with ⟨rfl, k4⟩ | ⟨q, k4, k5⟩
    · rw [k4, Oper.upon_skip]
      exact hK Δ undef w' k1 (by simp only [VR]; exact ⟨#[], rfl, by simp [VRs]⟩) k3 k2
    · rw [k4, Oper.upon_value]
      exact hK Δ q w' k1 k5 k3 k2
  | true =>
    cases ho : o.op with
    | call c =>
      obtain ⟨callee, args, argTypes⟩ := c
      cases callee with
      | builtin b => rw [ho] at hc; simp [isCall] at hc
      | invoke r n => rw [ho] at h; simp [heavy] at h
      | value f =>
        rw [ho] at h
        simp only [heavy] at h
        split at h
        · rename_i g first captured hf
          have hv := hρ f
          rw [hf] at hv
          simp only [VR] at hv
          obtain ⟨us, vs, hσ, h1, h2⟩ := hv
          obtain ⟨fn, e1, e2, e3⟩ := hC.fn _ _ _ _ h
          have e3' : ¬ (fn.body = none) := by intro e0; simp [e0] at e3
          have hrun : (execOp a.eval o).run E.P w = .ok (.enter g ((us ++ args.map a.eval) ++ vs)) w := by
            simp [execOp, ho, resolve, Deferred.ofValue, hσ, invoke, callFunc, e1, e2, e3']
          unfold Oper.wp
          rw [hrun, Oper.upon_enter]
          have hargs : VRs Γ (first ++ args.toList.map ρ ++ captured) ((us ++ args.map a.eval) ++ vs).toList := by
            simp only [Array.toList_append, Array.toList_map]
            exact (h1.append (VRs_map args.toList hρ)).append h2
          refine (hC.ok _ _ _ _ _ h Γ _ w hb hargs hm).mono (fun e w' he => ?_)
          obtain ⟨Δ, u, rfl, k1, k2, k3, k4⟩ := he
          exact hK Δ u w' k1 k2 k3 k4
        · cases h
    | _ => rw [ho] at hc; simp [isCall] at hc

/-- One operation, as it stands next. -/
theorem runOp_wp (hT : TysOk E) (hC : CallOk E Γ0 call) (ops : List Oper) {o : Oper} {st' : St} (h : runOp E call ops st o = some st') (hs : StR Γ0 Γ st a w)
    {K : Act → World → Prop} {Q : Exit → Act → World → Prop} (hK : ∀ Δ a' w', Γ.le Δ → Step Γ w Δ w' → StR Γ0 Δ st' a' w' → K a' w') :
    if Region.wanted o (yielded ops.toArray a.tmps) then o.wp E.P a w K Q else K (a.put o.dst undef) w := by
  unfold runOp at h
  split at h
  · cases h
  · rename_i hw
    rw [wanted_slots ops o hw (fun _ _ d _ _ => hs.slot d)]
    simp only [Bool.false_eq_true, if_false]
    exact hK Γ _ w (.refl Γ) (.refl Γ w) (hs.put h (by simp only [VR]; exact ⟨#[], rfl, by simp [VRs]⟩))
  · rename_i hw
    rw [wanted_slots ops o hw (fun _ _ d _ _ => hs.slot d)]
    simp only [if_true]
    cases hh : isHeavy o.op with
    | true =>
      simp only [hh, cond_true] at h
      split at h
      · rename_i v m' hv
        refine heavy_wp hT hC hs.base hs.mem hs.ev o hv (fun Δ q w' k1 k2 k3 k4 => ?_)
        exact hK Δ _ w' k1 k3 ((hs.step k1 k4).put h k2)
      · cases h
    | false =>
      simp only [hh, cond_false] at h
      split at h
      · rename_i v hv
        obtain ⟨q, hq, hr⟩ := light_val hT hs.mem.view hs.ev o hv
        unfold Oper.wp
        rw [hq, Oper.upon_value]
        exact hK Γ _ w (.refl Γ) (.refl Γ w) (hs.put h hr)
      · rename_i blk mk hv
        simp only [nblt, cond_eq_ite, decide_eq_true_eq] at h
        split at h
        · rename_i hn
          obtain ⟨q, cs, hq, hfz, h1, h2, h3⟩ := light_new (w := w) hT hs.ev o hv
          obtain ⟨l1, l2, l3⟩ := hs.mem.add hn (CellsR.of_VRs h1 h2)
          unfold Oper.wp
          rw [hq, Oper.upon_value]
          exact hK _ _ _ l1 l3 ((hs.step l1 l2).put h (h3 _ _ (.inl rfl) (by simp [Ctx.set])))
        · cases h
      · cases h

theorem runSeq_wp (hT : TysOk E) (hC : CallOk E Γ0 call) (ops : List Oper) {Q : Exit → Act → World → Prop} : ∀ (l : List Oper) (st st' : St) (Γ : Ctx) (a : Act) (w : World), runSeq E call ops l st = some st' → StR Γ0 Γ st a w →
    (∀ Δ a' w', Γ.le Δ → Step Γ w Δ w' → StR Γ0 Δ st' a' w' → Q .normal a' w') → wpList E.P ops.toArray Q l a w
  | [], st, st', Γ, a, w, h, hs, hQ => by
    simp only [runSeq, Option.some.injEq] at h
    subst h
    exact hQ Γ a w (.refl Γ) (.refl Γ w) hs
  | o :: l, st, st', Γ, a, w, h, hs, hQ => by
    simp only [runSeq] at h
    split at h
    · rename_i s1 h1
      have := runOp_wp hT hC ops (K := wpList E.P ops.toArray Q l) (Q := Q) h1 hs (fun Δ a' w' k1 k2 k3 => runSeq_wp hT hC ops l s1 st' Δ a' w' h k3 (fun Θ a2 w2 j1 j2 j3 => hQ Θ a2 w2 (k1.trans j1) (k2.trans j2) j3))
      unfold wpList
      split at this
      · rename_i hw; rw [if_pos hw]; exact .inl this
      · rename_i hw; rw [if_neg hw]; exact this
    · cases h

theorem runOp_fields {ops : List Oper} {o : Oper} {st st' : St} (h : runOp E call ops st o = some st') : st'.fn = st.fn ∧ st'.nt = st.nt := by
  unfold runOp at h
  split at h
  · cases h
  · obtain ⟨h1, h2, _⟩ := St.put_fields h; exact ⟨h1, h2⟩
  · simp only [cond_eq_ite] at h
    split at h
    · split at h
      · obtain ⟨h1, h2, _⟩ := St.put_fields h; exact ⟨h1, h2⟩
      · cases h
    · split at h
      · obtain ⟨h1, h2, _⟩ := St.put_fields h; exact ⟨h1, h2⟩
      · split at h
        · obtain ⟨h1, h2, _⟩ := St.put_fields h; exact ⟨h1, h2⟩
        · cases h
      · cases h

theorem runSeq_fields {ops : List Oper} : ∀ {l : List Oper} {st st' : St}, runSeq E call ops l st = some st' → st'.fn = st.fn ∧ st'.nt = st.nt
  | [], st, st', h => by simp only [runSeq, Option.some.injEq] at h; subst h; exact ⟨rfl, rfl⟩
  | o :: l, st, st', h => by
    simp only [runSeq] at h
    split at h
    · rename_i s1 h1
      obtain ⟨e1, e2⟩ := runOp_fields h1
      obtain ⟨e3, e4⟩ := runSeq_fields h
      exact ⟨e3.trans e1, e4.trans e2⟩
    · cases h
end
end Go.V
