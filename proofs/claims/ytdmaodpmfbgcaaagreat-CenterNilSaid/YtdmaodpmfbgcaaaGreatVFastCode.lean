/-
  The machine made for the kernel: what a call of it answers, the abstract machine answers.
-/
import Derived.Test.YtdmaodpmfbgcaaaGreatVFastOp
namespace Go.V

section
variable {E : Env} {f nt : Nat} {s : Slots} {m : Mem} {cf : CF} {k : KT}

theorem seqC_ok (hnt : nt ≤ 256) (hcf : CfOk E cf) (ops : List Oper) : ∀ (l : List Oper) (k : KT) (s : Slots) (m : Mem), (seqC E nt ops l).run cf k s m = .stuck ∨
    ∃ s' m', vops E ops l (fun st => st = ⟨f, nt, s', m'⟩) ⟨f, nt, s, m⟩ ∧ (seqC E nt ops l).run cf k s m = k s' m'
  | [], k, s, m => .inr ⟨s, m, vops_nil rfl, rfl⟩
  | o :: l, k, s, m => by
    have e : (seqC E nt ops (o :: l)).run cf k s m = (opC E nt ops o).run cf ((seqC E nt ops l).run cf k) s m := rfl
    rw [e]
    rcases opC_ok (E := E) (f := f) hnt ops o cf hcf ((seqC E nt ops l).run cf k) s m with h | ⟨n, s', m', h1, h2⟩
    · exact .inl h
    · rw [h2]
      rcases seqC_ok hnt hcf ops l k s' m' with h | ⟨s2, m2, h3, h4⟩
      · exact .inl h
      · exact .inr ⟨s2, m2, vops_cons h1 h3, h4⟩

def vplan (E : Env) (ops : List Oper) (l : List RStep) (Q : St → Prop) (st : St) : Prop := ∃ n st', runPlan E (call E n) ops l st = some st' ∧ Q st'

theorem planC_ok (hnt : nt ≤ 256) (hcf : CfOk E cf) (ops : List Oper) : ∀ (l : List RStep) (k : KT) (s : Slots) (m : Mem), (planC E nt ops l).run cf k s m = .stuck ∨
    ∃ s' m', vplan E ops l (fun st => st = ⟨f, nt, s', m'⟩) ⟨f, nt, s, m⟩ ∧ (planC E nt ops l).run cf k s m = k s' m'
  | [], k, s, m => .inr ⟨s, m, ⟨0, _, rfl, rfl⟩, rfl⟩
  | .run j :: l, k, s, m => by
    simp only [planC]
    cases ho : ops[j]? with
    | none => exact .inl rfl
    | some o =>
      simp only
      rcases opC_ok (E := E) (f := f) hnt ops o cf hcf ((planC E nt ops l).run cf k) s m with h | ⟨n, s', m', h1, h2⟩
      · exact .inl h
      · rw [h2]
        rcases planC_ok hnt hcf ops l k s' m' with h | ⟨s2, m2, ⟨n2, st2, h3, h3'⟩, h4⟩
        · exact .inl h
        · refine .inr ⟨s2, m2, ⟨max n n2, st2, ?_, h3'⟩, h4⟩
          simp only [runPlan, ho, runOp_mono (call_mono (Nat.le_max_left n n2)) h1]
          exact runPlan_mono (call_mono (Nat.le_max_right n n2)) h3
  | .chk j :: l, k, s, m => by
    simp only [planC]
    cases ho : ops[j]? with
    | none => exact .inl rfl
    | some o =>
      simp only
      cases hd : o.dst with
      | none => exact .inl rfl
      | some d =>
        simp only
        have rest := planC_ok hnt hcf ops l k s m
        have e0 : ∀ d : Nat, (opn (.tmp d)).g s = St.slot ⟨f, nt, s, m⟩ d := fun d => opn_ok (.tmp d) f nt s m
        have skip : wanted ops ⟨f, nt, s, m⟩ o = some false → (planC E nt ops l).run cf k s m = .stuck ∨ ∃ s' m', vplan E ops (.chk j :: l) (fun st => st = ⟨f, nt, s', m'⟩) ⟨f, nt, s, m⟩ ∧ (planC E nt ops l).run cf k s m = k s' m' := by
          intro hw
          rcases rest with h | ⟨s2, m2, ⟨n2, st2, h3, h3'⟩, h4⟩
          · exact .inl h
          · exact .inr ⟨s2, m2, ⟨n2, st2, by simp only [runPlan, ho, hw]; exact h3, h3'⟩, h4⟩
        have check : wanted ops ⟨f, nt, s, m⟩ o = some true → chkF ((lc E o.op).l s m) (St.slot ⟨f, nt, s, m⟩ d) ((planC E nt ops l).run cf k) s m = .stuck ∨
            ∃ s' m', vplan E ops (.chk j :: l) (fun st => st = ⟨f, nt, s', m'⟩) ⟨f, nt, s, m⟩ ∧ chkF ((lc E o.op).l s m) (St.slot ⟨f, nt, s, m⟩ d) ((planC E nt ops l).run cf k) s m = k s' m' := by
          intro hw
          cases hr : (lc E o.op).l s m with
          | none => exact .inl rfl
          | some u =>
            simp only [chkF]
            cases hs : AVal.same u (St.slot ⟨f, nt, s, m⟩ d) with
            | false => exact .inl rfl
            | true =>
              simp only [cond_true]
              rcases rest with h | ⟨s2, m2, ⟨n2, st2, h3, h3'⟩, h4⟩
              · exact .inl h
              · refine .inr ⟨s2, m2, ⟨n2, st2, ?_, h3'⟩, h4⟩
                have hl : light E m (St.ev ⟨f, nt, s, m⟩) o.op = some (.val u) := by rw [← evF_ok]; exact lc_ok _ hr
                simp only [runPlan, ho, hw, hl, hd, hs, cond_true]
                exact h3
        cases hg : o.guard with
        | none =>
          simp only [e0]
          exact check (by simp only [wanted, hg])
        | some iw =>
          obtain ⟨i, want⟩ := iw
          simp only
          split
          · rename_i e _ _ _ _ _ hj
            simp only [e0]
            cases hv : asGuard (St.slot ⟨f, nt, s, m⟩ e) with
            | no => exact .inl rfl
            | tup =>
              obtain ⟨vs, hvs⟩ := asGuard_tup hv
              exact skip (by simp only [wanted, hg, hj, hvs])
            | bool b =>
              have hb := asGuard_bool hv
              have hw : wanted ops ⟨f, nt, s, m⟩ o = some (b == want) := by simp only [wanted, hg, hj, hb]
              simp only [chkG, xorF_ok]
              cases hx : (b != want) with
              | true => exact skip (by rw [hw]; cases b <;> cases want <;> first | rfl | cases hx)
              | false => exact check (by rw [hw]; cases b <;> cases want <;> first | rfl | cases hx)
          · exact .inl rfl

/-- A closure of code. -/
def CodeOk (E : Env) (f nt : Nat) (c : Code) (oc : OC) : Prop :=
  ∀ cf, CfOk E cf → ∀ k s m, oc.run cf k s m = .stuck ∨ (∃ s' m', vwp E c (fun ex st => ex = .normal ∧ st = ⟨f, nt, s', m'⟩) ⟨f, nt, s, m⟩ ∧ oc.run cf k s m = k s' m') ∨
    ∃ ex s' m', ex ≠ .normal ∧ vwp E c (fun ex' st => ex' = ex ∧ st = ⟨f, nt, s', m'⟩) ⟨f, nt, s, m⟩ ∧ oc.run cf k s m = .done ex s' m'

theorem vwp_drawn {id : Nat} {ops : Array Oper} {plan : List RStep} {Q : Ex → St → Prop} {st : St} (hp : E.plans.get (planKey st.fn id) = some plan) (h : vplan E ops.toList plan (Q .normal) st) : vwp E (.region id ops true) Q st := by
  obtain ⟨n, s, h1, h2⟩ := h
  refine ⟨n + 1, .normal, s, ?_, h2⟩
  rw [exec_succ]
  simp only [execF, hp]
  rw [show callF E (exec E n) = call E n from rfl, h1]; rfl

theorem loopF_ok {body : Code} {oc : OC} (hb : CodeOk E f nt body oc) (hcf : CfOk E cf) : ∀ (n : Nat) (s : Slots) (m : Mem), loopF n oc cf s m = .stuck ∨
    ∃ ex s' m', ex ≠ .normal ∧ vwp E (.loop body) (fun ex' st => ex' = ex ∧ st = ⟨f, nt, s', m'⟩) ⟨f, nt, s, m⟩ ∧ loopF n oc cf s m = .done ex s' m'
  | 0, _, _ => .inl rfl
  | n + 1, s, m => by
    have step : ∀ r, oc.run cf kdone s m = r → loopF (n + 1) oc cf s m = @XR.rec (fun _ => OC → CF → (OC → CF → Slots → Mem → XR) → XR) (fun _ _ _ => .stuck)
      (fun ex s m body cf ih => @Ex.rec (fun _ => OC → CF → (OC → CF → Slots → Mem → XR) → Slots → Mem → XR) (fun body cf ih s m => ih body cf s m) (fun i _ _ _ s m => .done (.exit i) s m) (fun _ _ _ s m => .done .ret s m) ex body cf ih s m) r oc cf (loopF n) := by
      intro r hr; rw [← hr]; rfl
    rcases hb cf hcf kdone s m with h | ⟨s', m', h1, h2⟩ | ⟨ex, s', m', h0, h1, h2⟩
    · rw [step _ h]; exact .inl rfl
    · rw [step _ h2]
      have e : @XR.rec (fun _ => OC → CF → (OC → CF → Slots → Mem → XR) → XR) (fun _ _ _ => .stuck)
        (fun ex s m body cf ih => @Ex.rec (fun _ => OC → CF → (OC → CF → Slots → Mem → XR) → Slots → Mem → XR) (fun body cf ih s m => ih body cf s m) (fun i _ _ _ s m => .done (.exit i) s m) (fun _ _ _ s m => .done .ret s m) ex body cf ih s m) (kdone s' m') oc cf (loopF n) = loopF n oc cf s' m' := rfl
      rw [e]
      rcases loopF_ok hb hcf n s' m' with h | ⟨ex, s2, m2, h3, h4, h5⟩
      · exact .inl h
      · exact .inr ⟨ex, s2, m2, h3, vwp_loop (h1.mono fun ex' st he => by obtain ⟨rfl, rfl⟩ := he; exact h4), h5⟩
    · rw [step _ h2]
      cases ex with
      | normal => exact absurd rfl h0
      | exit i => exact .inr ⟨_, s', m', h0, vwp_loop (h1.mono fun ex' st he => by obtain ⟨rfl, rfl⟩ := he; exact ⟨rfl, rfl⟩), rfl⟩
      | ret => exact .inr ⟨_, s', m', h0, vwp_loop (h1.mono fun ex' st he => by obtain ⟨rfl, rfl⟩ := he; exact ⟨rfl, rfl⟩), rfl⟩

theorem cc_ok (hnt : nt ≤ 256) : ∀ c : Code, CodeOk E f nt c (cc E f nt c)
  | .skip => fun cf _ k s m => .inr (.inl ⟨s, m, vwp_skip ⟨rfl, rfl⟩, rfl⟩)
  | .ret => fun cf _ k s m => .inr (.inr ⟨.ret, s, m, nofun, vwp_ret ⟨rfl, rfl⟩, rfl⟩)
  | .exit id => fun cf _ k s m => .inr (.inr ⟨.exit id, s, m, nofun, vwp_exit ⟨rfl, rfl⟩, rfl⟩)
  | .seq a b => by
    intro cf hcf k s m
    have e : (cc E f nt (.seq a b)).run cf k s m = (cc E f nt a).run cf ((cc E f nt b).run cf k) s m := rfl
    rw [e]
    rcases cc_ok hnt a cf hcf ((cc E f nt b).run cf k) s m with h | ⟨s', m', h1, h2⟩ | ⟨ex, s', m', h0, h1, h2⟩
    · exact .inl h
    · rw [h2]
      rcases cc_ok hnt b cf hcf k s' m' with h | ⟨s2, m2, h3, h4⟩ | ⟨ex, s2, m2, h3, h4, h5⟩
      · exact .inl h
      · exact .inr (.inl ⟨s2, m2, vwp_seq (h1.mono fun ex' st he => by obtain ⟨rfl, rfl⟩ := he; exact h3), h4⟩)
      · exact .inr (.inr ⟨ex, s2, m2, h3, vwp_seq (h1.mono fun ex' st he => by obtain ⟨rfl, rfl⟩ := he; exact h4), h5⟩)
    · refine .inr (.inr ⟨ex, s', m', h0, vwp_seq (h1.mono fun ex' st he => ?_), h2⟩)
      obtain ⟨rfl, rfl⟩ := he
      cases ex' with
      | normal => exact absurd rfl h0
      | exit i => exact ⟨rfl, rfl⟩
      | ret => exact ⟨rfl, rfl⟩
  | .cond x a b => by
    intro cf hcf k s m
    have e : (cc E f nt (.cond x a b)).run cf k s m = condF (asBool ((opn x).g s)) (cc E f nt a) (cc E f nt b) cf k s m := rfl
    rw [e, opn_ok x f nt s m]
    cases hb : asBool (St.ev ⟨f, nt, s, m⟩ x) with
    | none => exact .inl rfl
    | some t =>
      have hx := asBool_some hb
      cases t with
      | true =>
        have e2 : condF (some true) (cc E f nt a) (cc E f nt b) cf k s m = (cc E f nt a).run cf k s m := rfl
        rw [e2]
        rcases cc_ok hnt a cf hcf k s m with h | ⟨s', m', h1, h2⟩ | ⟨ex, s', m', h0, h1, h2⟩
        · exact .inl h
        · exact .inr (.inl ⟨s', m', vwp_cond hx (by simpa using h1), h2⟩)
        · exact .inr (.inr ⟨ex, s', m', h0, vwp_cond hx (by simpa using h1), h2⟩)
      | false =>
        have e2 : condF (some false) (cc E f nt a) (cc E f nt b) cf k s m = (cc E f nt b).run cf k s m := rfl
        rw [e2]
        rcases cc_ok hnt b cf hcf k s m with h | ⟨s', m', h1, h2⟩ | ⟨ex, s', m', h0, h1, h2⟩
        · exact .inl h
        · exact .inr (.inl ⟨s', m', vwp_cond hx (by simpa using h1), h2⟩)
        · exact .inr (.inr ⟨ex, s', m', h0, vwp_cond hx (by simpa using h1), h2⟩)
  | .block id body => by
    intro cf hcf k s m
    have e : (cc E f nt (.block id body)).run cf k s m = blockF id k ((cc E f nt body).run cf kdone s m) := rfl
    rw [e]
    rcases cc_ok hnt body cf hcf kdone s m with h | ⟨s', m', h1, h2⟩ | ⟨ex, s', m', h0, h1, h2⟩
    · rw [h]; exact .inl rfl
    · rw [h2]
      exact .inr (.inl ⟨s', m', vwp_block (h1.mono fun ex' st he => by obtain ⟨rfl, rfl⟩ := he; exact ⟨rfl, rfl⟩), rfl⟩)
    · rw [h2]
      cases ex with
      | normal => exact absurd rfl h0
      | exit i =>
        have e2 : blockF id k (.done (.exit i) s' m') = @Bool.rec (fun _ => XR) (.done (.exit i) s' m') (k s' m') (Nat.beq i id) := rfl
        rw [e2, brec, nbeq, cond_eq_ite]
        by_cases hi : i = id
        · rw [if_pos (by simpa using hi)]
          exact .inr (.inl ⟨s', m', vwp_block (h1.mono fun ex' st he => by obtain ⟨rfl, rfl⟩ := he; exact ⟨if_pos hi, rfl⟩), rfl⟩)
        · rw [if_neg (by simpa using hi)]
          exact .inr (.inr ⟨_, s', m', h0, vwp_block (h1.mono fun ex' st he => by obtain ⟨rfl, rfl⟩ := he; exact ⟨if_neg hi, rfl⟩), rfl⟩)
      | ret =>
        exact .inr (.inr ⟨_, s', m', h0, vwp_block (h1.mono fun ex' st he => by obtain ⟨rfl, rfl⟩ := he; exact ⟨rfl, rfl⟩), rfl⟩)
  | .loop body => by
    intro cf hcf k s m
    have e : (cc E f nt (.loop body)).run cf k s m = loopF 1000000 (cc E f nt body) cf s m := rfl
    rw [e]
    rcases loopF_ok (cc_ok hnt body) hcf 1000000 s m with h | h
    · exact .inl h
    · exact .inr (.inr h)
  | .region id ops false => by
    intro cf hcf k s m
    have e : (cc E f nt (.region id ops false)).run cf k s m = (seqC E nt ops.toList ops.toList).run cf k s m := rfl
    rw [e]
    rcases seqC_ok (f := f) hnt hcf ops.toList ops.toList k s m with h | ⟨s', m', h1, h2⟩
    · exact .inl h
    · refine .inr (.inl ⟨s', m', vwp_region ?_, h2⟩)
      obtain ⟨n, st, h3, h4⟩ := h1
      exact ⟨n, st, h3, rfl, h4⟩
  | .region id ops true => by
    intro cf hcf k s m
    simp only [cc]
    cases hp : E.plans.get (planKey f id) with
    | none => exact .inl rfl
    | some plan =>
      simp only
      rcases planC_ok (f := f) hnt hcf ops.toList plan k s m with h | ⟨s', m', h1, h2⟩
      · exact .inl h
      · refine .inr (.inl ⟨s', m', vwp_drawn hp ?_, h2⟩)
        obtain ⟨n, st, h3, h4⟩ := h1
        exact ⟨n, st, h3, rfl, h4⟩
  | .rangeFunc .. => fun _ _ _ _ _ => .inl rfl
  | .scope .. => fun _ _ _ _ _ => .inl rfl
  | .label .. => fun _ _ _ _ _ => .inl rfl
  | .goto .. => fun _ _ _ _ _ => .inl rfl
  | .refuse .. => fun _ _ _ _ _ => .inl rfl

theorem argsF_ok : ∀ (l : List AVal) (i : Nat) (t : Slots), i + l.length ≤ 256 → argsF l i t = argSlots i l t
  | [], _, _, _ => rfl
  | v :: l, i, t, h => by
    simp only [List.length_cons] at h
    have e : argsF (v :: l) i t = argsF l (i + 1) ((sp i).p t v) := rfl
    rw [e, sp_ok i (by omega), argsF_ok l (i + 1) _ (by omega)]; rfl

theorem resTmps_ok : ∀ (l : List ResultVar) (xs : List Operand), resTmps l = some xs → resultVals E ⟨f, nt, s, m⟩ l = some (xs.map (evF s))
  | [], xs, h => by simp only [resTmps, Option.some.injEq] at h; subst h; rfl
  | .tmp t :: l, xs, h => by
    simp only [resTmps, Option.map_eq_some_iff] at h
    obtain ⟨ys, h1, rfl⟩ := h
    simp only [resultVals, resTmps_ok l ys h1, Option.map_some, List.map_cons, evF_ok f nt s m, St.ev]
  | .cell .. :: _, xs, h => by cases h

theorem resC_ok (l : List ResultVar) {v : AVal} {m' : Mem} (h : (resC E f nt l).r s m = .ok v m') : m' = m ∧ ∃ vs, resultVals E ⟨f, nt, s, m⟩ l = some vs ∧ v = oneOr vs := by
  unfold resC at h
  split at h
  · rename_i t
    cases h
    exact ⟨rfl, [_], by simp only [resultVals, Option.map_some, opn_ok (.tmp t) f nt s m, St.ev], rfl⟩
  · rename_i a t
    have h' : resG1 ((loadC E t (opn (.tmp a))).l s m) m = .ok v m' := h
    cases hl : (loadC E t (opn (.tmp a))).l s m with
    | none => rw [hl] at h'; cases h'
    | some u =>
      rw [hl] at h'
      cases h'
      obtain ⟨vt, h1, h2⟩ := loadC_ok hl
      rw [opn_ok (.tmp a) f nt s m] at h2
      refine ⟨rfl, [v], ?_, rfl⟩
      simp only [St.ev] at h2
      simp only [resultVals, h1, h2, Option.bind_some, Option.map_some]
  · split at h
    · rename_i xs hx
      cases h
      exact ⟨rfl, _, resTmps_ok l xs hx, by rw [argsC_ok]⟩
    · cases hr : resultVals E ⟨f, nt, s, m⟩ l with
      | none => simp only [hr, resG] at h; cases h
      | some vs => simp only [hr, resG] at h; cases h; exact ⟨rfl, vs, rfl, rfl⟩

theorem fnC_ok (hcf : CfOk E cf) {g : FuncId} {args : List AVal} {v : AVal} {m' : Mem} (ho : E.orc g args = none) (h : (fnC E g).run cf args m = .ok v m') : ∃ n, call E n g args m = some (v, m') := by
  unfold fnC at h
  cases hf : E.fns.get g with
  | none => rw [hf] at h; cases h
  | some fn =>
    rw [hf] at h
    simp only at h
    cases hb : fn.body with
    | none => rw [hb] at h; cases h
    | some c =>
      rw [hb] at h
      simp only at h
      cases hn : Nat.ble fn.ntmps 256 with
      | false => rw [hn] at h; cases h
      | true =>
        rw [hn] at h
        have hn' := hn
        rw [nble, decide_eq_true_eq] at hn'
        simp only [cond_true, brec, lenF_ok] at h
        cases hl : Nat.ble args.length fn.ntmps with
        | false => rw [hl] at h; cases h
        | true =>
          rw [hl] at h
          have hl' := hl
          rw [nble, decide_eq_true_eq] at hl'
          simp only [cond_true] at h
          rw [argsF_ok args 0 _ (by omega)] at h
          have fin_ : ∀ ex s' m1, (ex = .normal ∨ ex = .ret) → vwp E c (fun ex' st => ex' = ex ∧ st = ⟨g, fn.ntmps, s', m1⟩) ⟨g, fn.ntmps, argSlots 0 args Slots.nil, m⟩ → (resC E g fn.ntmps fn.results.toList).r s' m1 = .ok v m' → ∃ n, call E n g args m = some (v, m') := by
            intro ex s' m1 hex hw hr
            obtain ⟨rfl, vs, h2, rfl⟩ := resC_ok _ hr
            obtain ⟨n, ex', st, h3, rfl, rfl⟩ := hw
            refine ⟨n, ?_⟩
            show callF E (exec E n) g args m = _
            unfold callF
            simp only [ho, hf, hb, hl, hn, Bool.and_self, cond_true, h3]
            rcases hex with rfl | rfl <;> simp only [h2, Option.map_some]
          rcases cc_ok (E := E) (f := g) hn' c cf hcf kdone (argSlots 0 args Slots.nil) m with hh | ⟨s', m1, h1, h2⟩ | ⟨ex, s', m1, h0, h1, h2⟩
          · rw [hh] at h; cases h
          · rw [h2] at h
            exact fin_ .normal s' m1 (.inl rfl) h1 h
          · rw [h2] at h
            cases ex with
            | normal => exact absurd rfl h0
            | exit i => cases h
            | ret => exact fin_ .ret s' m1 (.inr rfl) h1 h

theorem fcall_ok : ∀ n, CfOk E (fcall E n)
  | 0 => fun _ _ _ _ _ h => by cases h
  | n + 1 => fun g args m v m' h => by
    have e : fcall E (n + 1) g args m = orcF (E.orc g args) (fnC E g) (fcall E n) args m := rfl
    rw [e] at h
    cases ho : E.orc g args with
    | none =>
      rw [ho] at h
      exact fnC_ok (fcall_ok n) ho h
    | some u =>
      rw [ho] at h
      cases h
      exact ⟨0, by show callF E (exec E 0) g args _ = _; unfold callF; rw [ho]⟩
end
end Go.V
