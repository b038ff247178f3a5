/-
  A plan's run as a row of states: what changes from one to the next.
-/
import Derived.Test.YtdmaodpmfbgcaaaGreatVAux
namespace Go.V

def stepP (E : Env) (call : CallFn) (ops : List Oper) (x : RStep) (st : St) : Option St := runPlan E call ops [x] st

structure Trace (E : Env) (Γ0 : Ctx) (call : CallFn) (ops : List Oper) (plan : List RStep) (S : Nat → St) : Prop where
  hT : TysOk E
  hC : CallOk E Γ0 call
  ok : planOk ops plan = true
  tr : ∀ p x, plan[p]? = some x → stepP E call ops x (S p) = some (S (p + 1))
  rf : ∃ Γ a w, StR Γ0 Γ (S 0) a w

section
variable {E : Env} {Γ0 : Ctx} {call : CallFn} {ops : List Oper} {plan : List RStep} {S : Nat → St} {st st' : St}

theorem runPlan_cons {x : RStep} {l : List RStep} (h : runPlan E call ops (x :: l) st = some st') : ∃ s1, stepP E call ops x st = some s1 ∧ runPlan E call ops l s1 = some st' := by
  cases x with
  | run j =>
    simp only [runPlan, stepP] at h ⊢
    split at h
    · rename_i o ho
      split at h
      · rename_i s1 h1; exact ⟨s1, by simp, h⟩
      · cases h
    · cases h
  | chk j =>
    simp only [runPlan, stepP] at h ⊢
    split at h
    · split at h
      · split at h
        · simp only [cond_eq_ite] at h
          split at h
          · rename_i hc
            exact ⟨st, by simp [hc], h⟩
          · cases h
        · cases h
      · exact ⟨st, rfl, h⟩
      · cases h
    · cases h

theorem trace_exists : ∀ {l : List RStep} {st st' : St}, runPlan E call ops l st = some st' → ∃ S : Nat → St, S 0 = st ∧ S l.length = st' ∧ ∀ (p : Nat) x, l[p]? = some x → stepP E call ops x (S p) = some (S (p + 1))
  | [], st, st', h => by
    simp only [runPlan, Option.some.injEq] at h
    subst h
    exact ⟨fun _ => st, rfl, rfl, fun p x hx => by simp at hx⟩
  | x :: l, st, st', h => by
    obtain ⟨s1, h1, h2⟩ := runPlan_cons h
    obtain ⟨S, k0, k1, k2⟩ := trace_exists h2
    refine ⟨fun p => match p with | 0 => st | p + 1 => S p, rfl, k1, fun p y hy => ?_⟩
    cases p with
    | zero =>
      simp only [List.getElem?_cons_zero, Option.some.injEq] at hy
      subst hy
      simp only [k0]
      exact h1
    | succ p => exact k2 p y (by simpa using hy)

theorem stepP_run {j : Nat} {o : Oper} (ho : ops[j]? = some o) (h : stepP E call ops (.run j) st = some st') : runOp E call ops st o = some st' := by
  simp only [stepP, runPlan, ho] at h
  split at h
  · rename_i s1 h1
    simp only [Option.some.injEq] at h
    subst h
    exact h1
  · cases h

theorem stepP_chk {j : Nat} (h : stepP E call ops (.chk j) st = some st') : st' = st := by
  simp only [stepP, runPlan] at h
  split at h
  · split at h
    · split at h
      · simp only [cond_eq_ite] at h
        split at h
        · simp only [Option.some.injEq] at h; exact h.symm
        · cases h
      · cases h
    · simp only [Option.some.injEq] at h; exact h.symm
    · cases h
  · cases h

theorem St.put_slot {dst : Option Nat} {v : AVal} (hs : st.nt ≤ 256) (h : st.put dst v = some st') (d : Nat) : st'.slot d = if dst = some d then v else st.slot d := by
  cases dst with
  | none => simp only [St.put, Option.some.injEq] at h; subst h; simp
  | some d' =>
    simp only [St.put, nblt, cond_eq_ite, decide_eq_true_eq] at h
    split at h
    · rename_i hlt
      simp only [Option.some.injEq] at h
      subst h
      unfold St.slot
      simp only
      rw [Slots.get_put _ _ _ _ (by omega)]
      by_cases e : d = d'
      · subst e; simp
      · rw [if_neg e, if_neg (by intro h; cases h; exact e rfl)]
    · cases h

theorem St.put_lt {d : Nat} {v : AVal} (h : st.put (some d) v = some st') : d < st.nt := by
  simp only [St.put, nblt, cond_eq_ite, decide_eq_true_eq] at h
  split at h
  · assumption
  · cases h

theorem runOp_put {o : Oper} (h : runOp E call ops st o = some st') : ∃ s v, s.slots = st.slots ∧ s.nt = st.nt ∧ St.put s o.dst v = some st' := by
  unfold runOp at h
  split at h
  · cases h
  · exact ⟨st, _, rfl, rfl, h⟩
  · simp only [cond_eq_ite] at h
    split at h
    · split at h
      · refine ⟨_, _, ?_, ?_, h⟩ <;> rfl
      · cases h
    · split at h
      · refine ⟨_, _, ?_, ?_, h⟩ <;> rfl
      · split at h
        · refine ⟨_, _, ?_, ?_, h⟩ <;> rfl
        · cases h
      · cases h

theorem runOp_slot {o : Oper} (hs : st.nt ≤ 256) (h : runOp E call ops st o = some st') {d : Nat} (hd : o.dst ≠ some d) : st'.slot d = st.slot d := by
  obtain ⟨s, v, h1, h2, h3⟩ := runOp_put h
  rw [St.put_slot (by omega) h3 d, if_neg hd]
  unfold St.slot
  rw [h1]

/-- What light operations do to memory. -/
theorem runOp_light {o : Oper} (hh : isHeavy o.op = false) (h : runOp E call ops st o = some st') : st'.mem = st.mem ∨ ∃ B, isNew o.op = true ∧ st.mem.next < 65536 ∧ st'.mem = st.mem.add B := by
  unfold runOp at h
  split at h
  · cases h
  · exact .inl (St.put_fields h).2.2
  · simp only [hh, cond_false] at h
    split at h
    · exact .inl (St.put_fields h).2.2
    · rename_i blk mk hl
      simp only [cond_eq_ite, nblt, decide_eq_true_eq] at h
      split at h
      · rename_i hn
        exact .inr ⟨blk, light_new_kind hl, hn, (St.put_fields h).2.2⟩
      · cases h
    · cases h

variable (hS : Trace E Γ0 call ops plan S)
include hS

theorem Trace.runPos {p j : Nat} (h : plan[p]? = some (.run j)) : j < ops.length ∧ posOf plan j = p := by
  have := hS.ok
  simp only [planOk, Bool.and_eq_true] at this
  have := stepsIdx_get this.1.1 h
  simp only [Nat.zero_add, Bool.and_eq_true, nblt, nbeq, decide_eq_true_eq] at this
  exact this

theorem Trace.posLt {j : Nat} {o : Oper} (h : ops[j]? = some o) : posOf plan j < plan.length ∧ plan[posOf plan j]? = some (.run j) ∧ ∀ d ∈ deps o, posOf plan d < posOf plan j := by
  have := hS.ok
  simp only [planOk, Bool.and_eq_true] at this
  have := allIdx_get this.1.2 h
  simp only [Nat.zero_add, Bool.and_eq_true, nblt, decide_eq_true_eq, List.all_eq_true] at this
  refine ⟨this.1, ?_, this.2⟩
  have hlt := this.1
  unfold posOf at hlt ⊢
  rw [List.getElem?_eq_getElem hlt]
  have hb := List.findIdx_getElem (w := hlt)
  cases hx : plan[plan.findIdx (RStep.isRun j)] with
  | run k => rw [hx] at hb; simp only [RStep.isRun, nbeq, decide_eq_true_eq] at hb; rw [hb]
  | chk k => rw [hx] at hb; simp [RStep.isRun] at hb

theorem Trace.pair {x y : Nat} {ox oy : Oper} (hx : ops[x]? = some ox) (hy : ops[y]? = some oy) : pairOk ops plan (ancs ops) x y ox oy = true ∧ slotOk ops (ancs ops) x y ox oy = true := by
  have := hS.ok
  simp only [planOk, Bool.and_eq_true] at this
  have := allIdx_get (allIdx_get this.2 hx) hy
  simpa using this

theorem Trace.posInj {x y : Nat} {ox oy : Oper} (hx : ops[x]? = some ox) (hy : ops[y]? = some oy) (h : posOf plan x = posOf plan y) : x = y := by
  have h1 := (hS.posLt hx).2.1
  have h2 := (hS.posLt hy).2.1
  rw [h, h2] at h1
  simpa using h1.symm

theorem Trace.ancPos {x y : Nat} (h : isAnc (ancs ops) x y = true) (hne : x ≠ y) : posOf plan x < posOf plan y := by
  have := isAnc_ok (ops := ops) (T := fun k => k = y ∨ posOf plan k < posOf plan y) (fun j o hj ho d hd => ?_) h (.inl rfl)
  · rcases this with e | e
    · exact absurd e hne
    · exact e
  · have := (hS.posLt ho).2.2 d hd
    rcases hj with rfl | hj
    · exact .inr this
    · exact .inr (by omega)

theorem Trace.stepAt {j : Nat} {o : Oper} (h : ops[j]? = some o) : runOp E call ops (S (posOf plan j)) o = some (S (posOf plan j + 1)) :=
  stepP_run h (hS.tr _ _ (hS.posLt h).2.1)

theorem Trace.ref1 {p : Nat} (hp : p < plan.length) {Γ : Ctx} {a : Act} {w : World} (h : StR Γ0 Γ (S p) a w) : ∃ Δ a' w', Γ.le Δ ∧ StR Γ0 Δ (S (p + 1)) a' w' := by
  have ht := hS.tr p _ (List.getElem?_eq_getElem hp)
  cases hx : plan[p] with
  | chk j => rw [hx] at ht; rw [stepP_chk ht]; exact ⟨Γ, a, w, .refl Γ, h⟩
  | run j =>
    rw [hx] at ht
    have hj := (hS.runPos (p := p) (j := j) (by rw [List.getElem?_eq_getElem hp, hx])).1
    have ho : ops[j]? = some ops[j] := List.getElem?_eq_getElem hj
    exact runOp_exists hS.hT hS.hC ops (stepP_run ho ht) h

theorem Trace.ref {p : Nat} (hp : p ≤ plan.length) : ∃ Γ a w, StR Γ0 Γ (S p) a w := by
  induction p with
  | zero => exact hS.rf
  | succ p ih =>
    obtain ⟨Γ, a, w, h⟩ := ih (by omega)
    obtain ⟨Δ, a', w', _, h2⟩ := hS.ref1 (by omega) h
    exact ⟨Δ, a', w', h2⟩

theorem Trace.next1 {p : Nat} (hp : p < plan.length) : (S p).mem.next ≤ (S (p + 1)).mem.next := by
  obtain ⟨Γ, a, w, h⟩ := hS.ref (p := p) (by omega)
  obtain ⟨Δ, a', w', h1, h2⟩ := hS.ref1 hp h
  refine Decidable.byContradiction fun hn => ?_
  have := (h2.mem.dom _).1 (h1.dom _ ((h.mem.dom (S (p + 1)).mem.next).2 (by omega)))
  omega

theorem Trace.next {p q : Nat} (h : p ≤ q) (hq : q ≤ plan.length) : (S p).mem.next ≤ (S q).mem.next := by
  induction q with
  | zero => rw [show p = 0 by omega]; omega
  | succ q ih =>
    by_cases e : p = q + 1
    · rw [e]; omega
    · have h1 := ih (by omega) (by omega)
      have h2 := hS.next1 (p := q) (by omega)
      omega

theorem Trace.fields {p : Nat} (hp : p ≤ plan.length) : (S p).nt = (S 0).nt := by
  induction p with
  | zero => rfl
  | succ p ih =>
    have := runPlan_fields (hS.tr p _ (List.getElem?_eq_getElem (by omega : p < plan.length)))
    rw [this.2, ih (by omega)]

theorem Trace.small {p : Nat} (hp : p ≤ plan.length) : (S p).nt ≤ 256 := by
  obtain ⟨Γ, a, w, h⟩ := hS.ref hp
  exact h.small

/-- A slot keeps its value where nothing that writes it runs. -/
theorem Trace.slot {p q d : Nat} (h : p ≤ q) (hq : q ≤ plan.length) (hn : ∀ j o, ops[j]? = some o → o.dst = some d → ¬ (p ≤ posOf plan j ∧ posOf plan j < q)) : (S q).slot d = (S p).slot d := by
  induction q with
  | zero => rw [show p = 0 by omega]
  | succ q ih =>
    by_cases e : p = q + 1
    · rw [e]
    · rw [← ih (by omega) (by omega) (fun j o ho hd hc => hn j o ho hd (by omega))]
      have ht := hS.tr q _ (List.getElem?_eq_getElem (by omega : q < plan.length))
      cases hx : plan[q] with
      | chk j => rw [hx] at ht; rw [stepP_chk ht]
      | run j =>
        rw [hx] at ht
        obtain ⟨hj, hp⟩ := hS.runPos (p := q) (j := j) (by rw [List.getElem?_eq_getElem (by omega : q < plan.length), hx])
        have ho : ops[j]? = some ops[j] := List.getElem?_eq_getElem hj
        exact runOp_slot (hS.small (by omega)) (stepP_run ho ht) (fun hd => hn j _ ho hd (by omega))

/-- Of an operation that makes a block: the block, and where it stands. -/
def Alloc (ops : List Oper) (plan : List RStep) (S : Nat → St) (j : Nat) (B : Block) : Prop :=
  ∃ o, ops[j]? = some o ∧ isHeavy o.op = false ∧ isNew o.op = true ∧ (S (posOf plan j)).mem.next < 65536 ∧ (S (posOf plan j + 1)).mem = (S (posOf plan j)).mem.add B

omit hS in
theorem Alloc.next {j : Nat} {B : Block} (h : Alloc ops plan S j B) : (S (posOf plan j + 1)).mem.next = (S (posOf plan j)).mem.next + 1 := by
  obtain ⟨o, _, _, _, _, e⟩ := h
  rw [e]; rfl

/-- Where nothing writes or calls, memory only grows. -/
theorem Trace.step {p : Nat} (hp : p < plan.length) (hn : ∀ j o, ops[j]? = some o → posOf plan j = p → isHeavy o.op = false) :
    (S (p + 1)).mem = (S p).mem ∨ ∃ j B, posOf plan j = p ∧ Alloc ops plan S j B := by
  have ht := hS.tr p _ (List.getElem?_eq_getElem hp)
  cases hx : plan[p] with
  | chk j => rw [hx] at ht; rw [stepP_chk ht]; exact .inl rfl
  | run j =>
    rw [hx] at ht
    obtain ⟨hj, hpp⟩ := hS.runPos (p := p) (j := j) (by rw [List.getElem?_eq_getElem hp, hx])
    have ho : ops[j]? = some ops[j] := List.getElem?_eq_getElem hj
    have hh := hn j _ ho hpp
    rcases runOp_light hh (stepP_run ho ht) with e | ⟨B, e1, e2, e3⟩
    · exact .inl e
    · exact .inr ⟨j, B, hpp, _, ho, hh, e1, by rw [hpp]; exact e2, by rw [hpp]; exact e3⟩

theorem Trace.keep {p q : Nat} (h : p ≤ q) (hq : q ≤ plan.length) (hn : ∀ j o, ops[j]? = some o → isHeavy o.op = true → ¬ (p ≤ posOf plan j ∧ posOf plan j < q)) {b : Nat} (hb : b < (S p).mem.next) :
    (S q).mem.get b = (S p).mem.get b := by
  induction q with
  | zero => rw [show p = 0 by omega]
  | succ q ih =>
    by_cases e : p = q + 1
    · rw [e]
    · rw [← ih (by omega) (by omega) (fun j o ho hd hc => hn j o ho hd (by omega))]
      have hmono := hS.next (p := p) (q := q) (by omega) (by omega)
      rcases hS.step (p := q) (by omega) (fun j o ho hp => Bool.eq_false_iff.2 fun hh => hn j o ho hh (by omega)) with e | ⟨j, B, hp, o, _, _, _, h4, h5⟩
      · rw [e]
      · rw [hp] at h4 h5
        rw [h5, get_add _ _ h4, if_neg (by omega)]
end
end Go.V
