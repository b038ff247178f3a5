/-
  More fuel changes no answer of the abstract machine.
-/
import Derived.Test.YtdmaodpmfbgcaaaGreatVTys
namespace Go.V

def Leq (c c' : CallFn) : Prop := ∀ f args m r, c f args m = some r → c' f args m = some r

section
variable {E : Env} {call call' : CallFn} {ih ih' : Code → St → Option (Ex × St)}

theorem heavy_mono (h : Leq call call') {m : Mem} {ρ : Operand → AVal} {op : Op} {r : AVal × Mem} (hr : heavy E call m ρ op = some r) : heavy E call' m ρ op = some r := by
  cases op <;> try exact hr
  case call c =>
    obtain ⟨callee, args, argTypes⟩ := c
    cases callee with
    | invoke r n => exact hr
    | builtin b => cases b <;> exact hr
    | value f =>
      simp only [heavy] at hr ⊢
      split at hr
      · exact h _ _ _ _ hr
      · cases hr

theorem runOp_mono (h : Leq call call') {ops : List Oper} {st st' : St} {o : Oper} (hr : runOp E call ops st o = some st') : runOp E call' ops st o = some st' := by
  unfold runOp at hr ⊢
  split at hr
  · cases hr
  · exact hr
  · simp only [cond_eq_ite] at hr ⊢
    split at hr
    · rename_i hh
      rw [if_pos hh]
      split at hr
      · rename_i v m hv
        rw [heavy_mono h hv]
        exact hr
      · cases hr
    · rename_i hh
      rw [if_neg hh]
      exact hr

theorem runSeq_mono (h : Leq call call') {ops : List Oper} : ∀ {l : List Oper} {st st' : St}, runSeq E call ops l st = some st' → runSeq E call' ops l st = some st'
  | [], _, _, hr => hr
  | o :: l, st, st', hr => by
    simp only [runSeq] at hr ⊢
    split at hr
    · rename_i s hs
      rw [runOp_mono h hs]
      exact runSeq_mono h hr
    · cases hr

theorem runPlan_mono (h : Leq call call') {ops : List Oper} : ∀ {l : List RStep} {st st' : St}, runPlan E call ops l st = some st' → runPlan E call' ops l st = some st'
  | [], _, _, hr => hr
  | .run j :: l, st, st', hr => by
    simp only [runPlan] at hr ⊢
    split at hr
    · split at hr
      · rename_i s hs
        rw [runOp_mono h hs]
        exact runPlan_mono h hr
      · cases hr
    · cases hr
  | .chk j :: l, st, st', hr => by
    simp only [runPlan] at hr ⊢
    split at hr
    · split at hr
      · split at hr
        · simp only [cond_eq_ite] at hr ⊢
          split at hr
          · rename_i hc
            rw [if_pos hc]
            exact runPlan_mono h hr
          · cases hr
        · cases hr
      · exact runPlan_mono h hr
      · cases hr
    · cases hr

theorem execF_mono (h : Leq call call') (hi : ∀ c st r, ih c st = some r → ih' c st = some r) {c : Code} {st : St} {r : Ex × St} (hr : execF E call ih c st = some r) : execF E call' ih' c st = some r := by
  cases c <;> simp only [execF] at hr ⊢ <;> try exact hr
  case seq a b =>
    split at hr
    · rename_i s hs
      rw [hi _ _ _ hs]
      exact hi _ _ _ hr
    · rename_i hne
      rw [hi _ _ _ hr]
      obtain ⟨ex, s⟩ := r
      cases ex with
      | normal => exact absurd hr (hne s)
      | _ => rfl
  case cond x a b =>
    split at hr
    · exact hi _ _ _ hr
    · cases hr
  case block id b =>
    split at hr
    · rename_i i s hs
      rw [hi _ _ _ hs]
      exact hr
    · rename_i hne
      rw [hi _ _ _ hr]
      obtain ⟨ex, s⟩ := r
      cases ex with
      | exit i => exact absurd hr (hne i s)
      | _ => rfl
  case loop b =>
    split at hr
    · rename_i s hs
      rw [hi _ _ _ hs]
      exact hi _ _ _ hr
    · rename_i hne
      rw [hi _ _ _ hr]
      obtain ⟨ex, s⟩ := r
      cases ex with
      | normal => exact absurd hr (hne s)
      | _ => rfl
  case region id ops draw =>
    cases draw with
    | false =>
      simp only [Option.map_eq_some_iff] at hr ⊢
      obtain ⟨s, hs, rfl⟩ := hr
      exact ⟨s, runSeq_mono h hs, rfl⟩
    | true =>
      simp only at hr ⊢
      split at hr
      · simp only [Option.map_eq_some_iff] at hr ⊢
        obtain ⟨s, hs, rfl⟩ := hr
        exact ⟨s, runPlan_mono h hs, rfl⟩
      · cases hr

theorem callF_mono (hi : ∀ c st r, ih c st = some r → ih' c st = some r) : Leq (callF E ih) (callF E ih') := by
  intro f args m r hr
  unfold callF at hr ⊢
  split at hr
  · exact hr
  · split at hr
    · cases hr
    · split at hr
      · cases hr
      · simp only [cond_eq_ite] at hr ⊢
        split at hr
        · rename_i hc
          rw [if_pos hc]
          split at hr
          · rename_i s hs; rw [hi _ _ _ hs]; exact hr
          · rename_i s hs; rw [hi _ _ _ hs]; exact hr
          · cases hr
        · cases hr

theorem exec_mono1 : ∀ (n : Nat) (c : Code) (st : St) (r : Ex × St), exec E n c st = some r → exec E (n + 1) c st = some r
  | 0, c, st, r, h => by rw [exec_zero] at h; cases h
  | n + 1, c, st, r, h => by
    rw [exec_succ] at h ⊢
    exact execF_mono (callF_mono (exec_mono1 n)) (exec_mono1 n) h

theorem exec_mono {n k : Nat} (h : n ≤ k) {c : Code} {st : St} {r : Ex × St} (hr : exec E n c st = some r) : exec E k c st = some r := by
  induction k with
  | zero => rwa [show n = 0 by omega] at hr
  | succ k ih =>
    by_cases e : n = k + 1
    · rwa [e] at hr
    · exact exec_mono1 k c st r (ih (by omega))

theorem call_mono {n k : Nat} (h : n ≤ k) : Leq (V.call E n) (V.call E k) := callF_mono fun _ _ _ hr => exec_mono h hr
end

/-! ### What the abstract machine brings about, whatever the fuel -/
def vwp (E : Env) (c : Code) (Q : Ex → St → Prop) (st : St) : Prop := ∃ n ex st', exec E n c st = some (ex, st') ∧ Q ex st'
def vcall (E : Env) (f : FuncId) (args : List AVal) (m : Mem) (Q : AVal → Mem → Prop) : Prop := ∃ n v m', call E n f args m = some (v, m') ∧ Q v m'
def vops (E : Env) (ops : List Oper) (l : List Oper) (Q : St → Prop) (st : St) : Prop := ∃ n st', runSeq E (call E n) ops l st = some st' ∧ Q st'

section
variable {E : Env} {st : St} {Q : Ex → St → Prop} {R : St → Prop}

theorem vwp.mono {c : Code} {Q' : Ex → St → Prop} (h : vwp E c Q st) (hQ : ∀ ex s, Q ex s → Q' ex s) : vwp E c Q' st := by
  obtain ⟨n, ex, s, h1, h2⟩ := h; exact ⟨n, ex, s, h1, hQ _ _ h2⟩

theorem vwp_skip (h : Q .normal st) : vwp E .skip Q st := ⟨1, _, _, rfl, h⟩
theorem vwp_ret (h : Q .ret st) : vwp E .ret Q st := ⟨1, _, _, rfl, h⟩
theorem vwp_exit {id : Nat} (h : Q (.exit id) st) : vwp E (.exit id) Q st := ⟨1, _, _, rfl, h⟩

def Ex.thenV (Q : Ex → St → Prop) (K : St → Prop) : Ex → St → Prop
  | .normal, s => K s
  | ex, s => Q ex s

theorem vwp_seq {a b : Code} (h : vwp E a (Ex.thenV Q (vwp E b Q)) st) : vwp E (.seq a b) Q st := by
  obtain ⟨n, ex, s, h1, h2⟩ := h
  cases ex with
  | normal =>
    obtain ⟨k, ex', s', h3, h4⟩ := h2
    refine ⟨max n k + 1, ex', s', ?_, h4⟩
    rw [exec_succ]
    simp only [execF, exec_mono (Nat.le_max_left n k) h1]
    exact exec_mono (Nat.le_max_right n k) h3
  | exit id => exact ⟨n + 1, _, s, by rw [exec_succ]; simp only [execF, h1], h2⟩
  | ret => exact ⟨n + 1, _, s, by rw [exec_succ]; simp only [execF, h1], h2⟩

theorem vwp_cond {x : Operand} {a b : Code} {t : Bool} (hx : st.ev x = .bool t) (h : vwp E (if t then a else b) Q st) : vwp E (.cond x a b) Q st := by
  obtain ⟨n, ex, s, h1, h2⟩ := h
  refine ⟨n + 1, ex, s, ?_, h2⟩
  rw [exec_succ]
  simp only [execF, hx]
  cases t <;> exact h1

def Ex.blockV (id : Nat) (Q : Ex → St → Prop) : Ex → St → Prop
  | .exit i, s => Q (if i = id then .normal else .exit i) s
  | ex, s => Q ex s

theorem vwp_block {id : Nat} {b : Code} (h : vwp E b (Ex.blockV id Q) st) : vwp E (.block id b) Q st := by
  obtain ⟨n, ex, s, h1, h2⟩ := h
  cases ex with
  | exit i =>
    exact ⟨n + 1, if i = id then .normal else .exit i, s, by rw [exec_succ]; simp only [execF, h1, nbeq, cond_eq_ite, decide_eq_true_eq], h2⟩
  | normal => exact ⟨n + 1, _, s, by rw [exec_succ]; simp only [execF, h1], h2⟩
  | ret => exact ⟨n + 1, _, s, by rw [exec_succ]; simp only [execF, h1], h2⟩

theorem vwp_loop {b : Code} (h : vwp E b (Ex.thenV Q (vwp E (.loop b) Q)) st) : vwp E (.loop b) Q st := by
  obtain ⟨n, ex, s, h1, h2⟩ := h
  cases ex with
  | normal =>
    obtain ⟨k, ex', s', h3, h4⟩ := h2
    refine ⟨max n k + 1, ex', s', ?_, h4⟩
    rw [exec_succ]
    simp only [execF, exec_mono (Nat.le_max_left n k) h1]
    exact exec_mono (Nat.le_max_right n k) h3
  | exit id => exact ⟨n + 1, _, s, by rw [exec_succ]; simp only [execF, h1], h2⟩
  | ret => exact ⟨n + 1, _, s, by rw [exec_succ]; simp only [execF, h1], h2⟩

theorem vwp_region {id : Nat} {ops : Array Oper} (h : vops E ops.toList ops.toList (Q .normal) st) : vwp E (.region id ops false) Q st := by
  obtain ⟨n, s, h1, h2⟩ := h
  exact ⟨n + 1, .normal, s, by rw [exec_succ]; simp only [execF]; rw [show callF E (exec E n) = call E n from rfl, h1]; rfl, h2⟩

theorem vops_nil {ops : List Oper} (h : R st) : vops E ops [] R st := ⟨0, st, rfl, h⟩

theorem vops_cons {ops : List Oper} {o : Oper} {l : List Oper} {n : Nat} {s : St} (ho : runOp E (call E n) ops st o = some s) (h : vops E ops l R s) : vops E ops (o :: l) R st := by
  obtain ⟨k, s', h1, h2⟩ := h
  refine ⟨max n k, s', ?_, h2⟩
  simp only [runSeq, runOp_mono (call_mono (Nat.le_max_left n k)) ho]
  exact runSeq_mono (call_mono (Nat.le_max_right n k)) h1
end
end Go.V
