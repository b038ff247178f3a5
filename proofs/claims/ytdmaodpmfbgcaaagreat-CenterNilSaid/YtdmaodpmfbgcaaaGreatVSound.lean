/-
  What the abstract machine says is what the model does.
-/
import Derived.Test.YtdmaodpmfbgcaaaGreatVPlan
import Derived.LoopN
namespace Go.V

def goodC (pl : T (List RStep)) (f : FuncId) : Code → Bool
  | .region id ops true => match pl.get (planKey f id) with
    | some p => planOk ops.toList p
    | none => true
  | .seq a b => goodC pl f a && goodC pl f b
  | .cond _ a b => goodC pl f a && goodC pl f b
  | .block _ b => goodC pl f b
  | .loop b => goodC pl f b
  | _ => true

/-- From one world to one that has all that was there, and perhaps more. -/
structure Grown (w w' : World) : Prop where
  os : w'.os = w.os
  tape : w'.tape = w.tape
  output : w'.output = w.output
  size : w.heap.size ≤ w'.heap.size
  keep : ∀ k, k < w.heap.size → w'.heap[k]? = w.heap[k]?

/-- What is told of calls that are not carried out: they answer so, and leave all as it was. -/
def OrcOk (E : Env) (Γ0 : Ctx) : Prop :=
  ∀ f args v, E.orc f args = some v → (∃ fn, E.P.funcs[f]? = some fn ∧ fn.name ≠ "runtime.NumGoroutine" ∧ fn.body.isSome = true) ∧
    ∀ (Γ : Ctx) (vs : Array Value) (w : World), Γ0.le Γ → VRs Γ args vs.toList → (∀ b o u, Γ.ro b o = some u → w.cell? ⟨b, o, none⟩ = some u) →
      Calls E.P f vs w fun e w' => ∃ u, e = .returned u ∧ VR Γ v u ∧ Grown w w'

structure EnvOk (E : Env) (Γ0 : Ctx) : Prop where
  dom : ∀ b, ¬ Γ0.dom b
  orc : OrcOk E Γ0
  ty : TysOk E
  fns : ∀ f fn, E.fns.get f = some fn → E.P.funcs[f]? = some fn ∧ fn.name ≠ "runtime.NumGoroutine" ∧ ∀ c, fn.body = some c → goodC E.plans f c = true
  mixed : E.P.follows .mixedOrders = true

def Ex.toExit : Ex → Exit
  | .normal => .normal
  | .exit id => .exit id
  | .ret => .ret

theorem exec_zero (E : Env) (c : Code) (st : St) : exec E 0 c st = none := rfl
theorem exec_succ (E : Env) (n : Nat) (c : Code) (st : St) : exec E (n + 1) c st = execF E (callF E (exec E n)) (exec E n) c st := rfl

def Sound (E : Env) (Γ0 : Ctx) (n : Nat) : Prop :=
  ∀ (c : Code) (st : St) (ex : Ex) (st' : St), exec E n c st = some (ex, st') → goodC E.plans st.fn c = true → (st'.fn = st.fn ∧ st'.nt = st.nt) ∧
    ∀ (Γ : Ctx) (a : Act) (w : World) (Q : Exit → Act → World → Prop), StR Γ0 Γ st a w → (∀ Δ a' w', Γ.le Δ → Step Γ w Δ w' → StR Γ0 Δ st' a' w' → Q ex.toExit a' w') →
      c.wp E.P Q a w ∧ ∀ b, c = .loop b → Code.rounds E.P b Q n a w

section
variable {E : Env} {w : World} {Γ0 Γ : Ctx} {st : St} {a : Act}

theorem argSlots_get : ∀ (args : List AVal) (i : Nat) (t : Slots) (d : Nat), i + args.length ≤ 256 → Slots.get (argSlots i args t) d = if i ≤ d ∧ d < i + args.length then args[d - i]? else Slots.get t d
  | [], i, t, d, _ => by
    have : ¬ (i ≤ d ∧ d < i + ([] : List AVal).length) := by simp
    rw [if_neg this]; rfl
  | v :: vs, i, t, d, h => by
    simp only [List.length_cons] at h
    simp only [argSlots]
    rw [argSlots_get vs (i + 1) _ d (by omega), Slots.get_put _ _ _ _ (by omega)]
    simp only [List.length_cons]
    by_cases h1 : i + 1 ≤ d ∧ d < i + 1 + vs.length
    · rw [if_pos h1, if_pos (by omega), show d - i = (d - (i + 1)) + 1 by omega, List.getElem?_cons_succ]
    · rw [if_neg h1]
      by_cases h2 : d = i
      · subst h2; rw [if_pos rfl, if_pos (by omega)]; simp
      · rw [if_neg h2, if_neg (by omega)]

def resOne (tmps : Array Value) : ResultVar → Sem Value
  | .tmp t => pure (tmps.getD t undef)
  | .cell x t => do loadVar t (← asAddr (tmps.getD x undef))

theorem resultVals_ok (hT : TysOk E) (hs : StR Γ0 Γ st a w) : ∀ (rs : List ResultVar) (vs : List AVal), resultVals E st rs = some vs →
    ∃ us, (rs.mapM (resOne a.tmps)).run E.P w = .ok us w ∧ VRs Γ vs us
  | [], vs, h => by
    simp only [resultVals, Option.some.injEq] at h
    subst h
    exact ⟨[], by simp, by simp [VRs]⟩
  | .tmp t :: rs, vs, h => by
    simp only [resultVals, Option.map_eq_some_iff] at h
    obtain ⟨vs', h1, rfl⟩ := h
    obtain ⟨us, k1, k2⟩ := resultVals_ok hT hs rs vs' h1
    refine ⟨a.tmps.getD t undef :: us, ?_, by simp only [VRs]; exact ⟨_, _, rfl, hs.slot t, k2⟩⟩
    rw [List.mapM_cons]
    simp only [resOne, Sem.run_bind, Sem.run_pure, Result.andThen_ok, k1]
  | .cell x t :: rs, vs, h => by
    simp only [resultVals] at h
    split at h
    · rename_i vt hg
      obtain ⟨i, d, z, ok⟩ := hT _ _ hg
      cases hr : readCells st.mem (st.slot x) vt.size with
      | none => simp [hr] at h
      | some cs =>
        cases hk : mkVal vt cs with
        | none => simp [hr, hk] at h
        | some v =>
          simp only [hr, hk, Option.bind_some, Option.map_eq_some_iff] at h
          obtain ⟨vs', h1, rfl⟩ := h
          obtain ⟨us, k1, k2⟩ := resultVals_ok hT hs rs vs' h1
          obtain ⟨ad, ls, e1, _, e2, e3, e4, e5⟩ := readCells_ok hs.mem.view hr (hs.slot x)
          have hl := run_loadVar_cells (w := w) ok ad ls e3 (fun hb => by obtain ⟨c, hc⟩ := mkVal_len ok hk hb; have := e2.length; simp [hc] at this; exact this.symm) e5
          refine ⟨asVal E.P t ls :: us, ?_, by simp only [VRs]; exact ⟨_, _, rfl, mkVal_ok ok hk e2 e4, k2⟩⟩
          rw [List.mapM_cons]
          simp only [resOne, e1, asAddr, Sem.run_bind, Sem.run_pure, Result.andThen_ok, hl, k1]
    · cases h

theorem results_ok (hT : TysOk E) (hs : StR Γ0 Γ st a w) {fn : Func} {vs : List AVal} (h : resultVals E st fn.results.toList = some vs) : ∃ u, (results fn a.tmps).run E.P w = .ok u w ∧ VR Γ (oneOr vs) u := by
  obtain ⟨us, k1, k2⟩ := resultVals_ok hT hs _ _ h
  have e0 : results fn a.tmps = (fn.results.mapM (resOne a.tmps) >>= fun vs => pure (if h : vs.size = 1 then vs[0] else .tuple vs)) := by
    rfl
  rw [e0, Array.mapM_eq_mapM_toList]
  simp only [Sem.run_bind, Sem.run_map, k1, Result.andThen_ok]
  cases vs with
  | nil =>
    simp only [VRs] at k2
    subst k2
    exact ⟨.tuple #[], by simp, by simp only [oneOr, VR]; exact ⟨_, rfl, by simp [VRs]⟩⟩
  | cons v vs =>
    simp only [VRs] at k2
    obtain ⟨u, us', rfl, h1, h2⟩ := k2
    cases vs with
    | nil =>
      simp only [VRs] at h2
      subst h2
      exact ⟨u, by simp, by simpa [oneOr] using h1⟩
    | cons v2 vs2 =>
      have h2' := h2
      simp only [VRs] at h2
      obtain ⟨u2, us2, rfl, _, _⟩ := h2
      refine ⟨.tuple (u :: u2 :: us2).toArray, by simp, ?_⟩
      simp only [oneOr, VR]
      exact ⟨_, rfl, by simp only [VRs]; exact ⟨u, _, rfl, h1, by simpa [VRs] using h2'⟩⟩

theorem callF_ok (hE : EnvOk E Γ0) {n : Nat} (hS : Sound E Γ0 n) : CallOk E Γ0 (callF E (exec E n)) := by
  have split_ : ∀ f args m r, callF E (exec E n) f args m = some r → (∃ v, E.orc f args = some v ∧ r = (v, m)) ∨ ∃ fn c ex st' vs, E.fns.get f = some fn ∧ fn.body = some c ∧ args.length ≤ fn.ntmps ∧ fn.ntmps ≤ 256 ∧
      exec E n c ⟨f, fn.ntmps, argSlots 0 args Slots.nil, m⟩ = some (ex, st') ∧ (ex = .normal ∨ ex = .ret) ∧ resultVals E st' fn.results.toList = some vs ∧ r = (oneOr vs, st'.mem) := by
    intro f args m r h
    unfold callF at h
    split at h
    · rename_i v hv
      simp only [Option.some.injEq] at h
      exact .inl ⟨v, hv, h.symm⟩
    right
    split at h
    · cases h
    · rename_i fn hf
      split at h
      · cases h
      · rename_i c hb
        simp only [nble, cond_eq_ite, Bool.and_eq_true, decide_eq_true_eq] at h
        split at h
        · rename_i hc
          split at h
          · rename_i st' he
            simp only [Option.map_eq_some_iff] at h
            obtain ⟨vs, hv, rfl⟩ := h
            exact ⟨fn, c, _, st', vs, hf, hb, hc.1, hc.2, he, .inl rfl, hv, rfl⟩
          · rename_i st' he
            simp only [Option.map_eq_some_iff] at h
            obtain ⟨vs, hv, rfl⟩ := h
            exact ⟨fn, c, _, st', vs, hf, hb, hc.1, hc.2, he, .inr rfl, hv, rfl⟩
          · cases h
        · cases h
  refine ⟨hE.dom, fun f args m r h => ?_, fun f args m v m' h Γ vs w hbase hr hm => ?_⟩
  · rcases split_ f args m r h with ⟨v, hv, _⟩ | ⟨fn, c, _, _, _, hf, hb, _⟩
    · exact (hE.orc f args v hv).1
    obtain ⟨h1, h2, _⟩ := hE.fns f fn hf
    exact ⟨fn, h1, h2, by simp [hb]⟩
  · rcases split_ f args m _ h with ⟨v0, hv, hr'⟩ | ⟨fn, c, ex, st', rv, hf, hb, hl, hn, he, hex, hv, hr'⟩
    · cases hr'
      refine ((hE.orc f args v hv).2 Γ vs w hbase hr hm.ro).mono fun e w' he => ?_
      obtain ⟨u, rfl, h1, h2⟩ := he
      exact ⟨Γ, u, rfl, .refl Γ, h1, ⟨.refl Γ, h2.os, h2.tape, h2.output, h2.size, fun k hk _ => h2.keep k hk, fun b i hb hi _ => ⟨b, i, hb, hi, rfl⟩, fun _ _ _ h => .inl h⟩, hm.to (fun _ => Iff.rfl) (fun _ _ => rfl) rfl h2.keep⟩
    cases hr'
    obtain ⟨h1, h2, h3⟩ := hE.fns f fn hf
    refine calls_of_wp h1 hb ?_
    have hlen := hr.length
    simp only [Array.length_toList] at hlen
    have hst : StR Γ0 Γ ⟨f, fn.ntmps, argSlots 0 args Slots.nil, m⟩ { tmps := vs ++ Array.replicate (fn.ntmps - vs.size) undef, defers := [] } w := by
      refine ⟨hm, fun d u hd => ?_, by simp; omega, hn, rfl, hbase⟩
      rw [argSlots_get args 0 .nil d (by omega)] at hd
      split at hd
      · rename_i hc
        obtain ⟨q, hq, hqr⟩ := hr.get hd
        simp only [Nat.sub_zero] at hq
        have hlt : d < vs.size := by omega
        have hq' : vs[d]? = some q := by simpa using hq
        have : (vs ++ Array.replicate (fn.ntmps - vs.size) undef).getD d undef = q := by
          rw [Array.getD_eq_getD_getElem?, Array.getElem?_append_left hlt, hq']; rfl
        rw [this]
        exact hqr
      · rw [Slots.get_nil hd]; simp [VR]
    refine ((hS c _ ex st' he (h3 c hb)).2 Γ _ w _ hst (fun Δ a' w' k1 k2 k3 => ?_)).1
    obtain ⟨u, hu, hur⟩ := results_ok hE.ty k3 hv
    rcases hex with rfl | rfl
    · exact ⟨k3.defers, u, hu, Δ, u, rfl, k1, hur, k2, k3.mem⟩
    · exact ⟨k3.defers, u, hu, Δ, u, rfl, k1, hur, k2, k3.mem⟩

theorem sound (hE : EnvOk E Γ0) : ∀ n, Sound E Γ0 n := by
  intro n
  induction n with
  | zero => intro c st ex st' h; rw [exec_zero] at h; cases h
  | succ n ih =>
    have hC := callF_ok hE ih
    intro c st ex st' h hg
    rw [exec_succ] at h
    cases c <;> simp only [execF, reduceCtorEq] at h
    case skip =>
      simp only [Option.some.injEq, Prod.mk.injEq] at h
      obtain ⟨rfl, rfl⟩ := h
      exact ⟨⟨rfl, rfl⟩, fun Γ a w Q hs hQ => ⟨wp_skip (hQ Γ a w (.refl Γ) (.refl Γ w) hs), fun b hb => by cases hb⟩⟩
    case ret =>
      simp only [Option.some.injEq, Prod.mk.injEq] at h
      obtain ⟨rfl, rfl⟩ := h
      exact ⟨⟨rfl, rfl⟩, fun Γ a w Q hs hQ => ⟨wp_ret (hQ Γ a w (.refl Γ) (.refl Γ w) hs), fun b hb => by cases hb⟩⟩
    case exit id =>
      simp only [Option.some.injEq, Prod.mk.injEq] at h
      obtain ⟨rfl, rfl⟩ := h
      exact ⟨⟨rfl, rfl⟩, fun Γ a w Q hs hQ => ⟨wp_exit (hQ Γ a w (.refl Γ) (.refl Γ w) hs), fun b hb => by cases hb⟩⟩
    case seq x y =>
      simp only [goodC, Bool.and_eq_true] at hg
      split at h
      · rename_i s1 h1
        obtain ⟨⟨e1, e2⟩, k1⟩ := ih x st _ s1 h1 hg.1
        obtain ⟨⟨e3, e4⟩, k2⟩ := ih y s1 ex st' h (by rw [e1]; exact hg.2)
        refine ⟨⟨e3.trans e1, e4.trans e2⟩, fun Γ a w Q hs hQ => ⟨wp_seq ((k1 Γ a w _ hs fun Δ a' w' j1 j2 j3 => ?_).1), fun b hb => by cases hb⟩⟩
        exact (k2 Δ a' w' Q j3 fun Θ a2 w2 i1 i2 i3 => hQ Θ a2 w2 (j1.trans i1) (j2.trans i2) i3).1
      · rename_i hne
        obtain ⟨e, k1⟩ := ih x st ex st' h hg.1
        refine ⟨e, fun Γ a w Q hs hQ => ⟨wp_seq ((k1 Γ a w _ hs fun Δ a' w' j1 j2 j3 => ?_).1), fun b hb => by cases hb⟩⟩
        have := hQ Δ a' w' j1 j2 j3
        cases ex with
        | normal => exact absurd h (hne st')
        | exit id => exact this
        | ret => exact this
    case cond x t f =>
      simp only [goodC, Bool.and_eq_true] at hg
      split at h
      · rename_i b hb
        obtain ⟨e, k1⟩ := ih _ st ex st' h (by cases b with | true => exact hg.1 | false => exact hg.2)
        refine ⟨e, fun Γ a w Q hs hQ => ⟨?_, fun b hb => by cases hb⟩⟩
        have hv := hs.ev x
        rw [hb] at hv
        simp only [VR] at hv
        refine wp_cond hv ?_
        have := (k1 Γ a w Q hs hQ).1
        cases b <;> exact this
      · cases h
    case block id body =>
      simp only [goodC] at hg
      split at h
      · rename_i id' s1 h1
        simp only [Option.some.injEq, Prod.mk.injEq, nbeq, cond_eq_ite, decide_eq_true_eq] at h
        obtain ⟨rfl, rfl⟩ := h
        obtain ⟨e, k1⟩ := ih body st _ s1 h1 hg
        refine ⟨e, fun Γ a w Q hs hQ => ⟨wp_block ((k1 Γ a w _ hs fun Δ a' w' j1 j2 j3 => ?_).1), fun b hb => by cases hb⟩⟩
        have := hQ Δ a' w' j1 j2 j3
        simp only [Ex.toExit, Exit.inBlock]
        split
        · rename_i e'; simpa [e', Ex.toExit] using this
        · rename_i e'; simpa [e', Ex.toExit] using this
      · rename_i hne
        obtain ⟨e, k1⟩ := ih body st ex st' h hg
        refine ⟨e, fun Γ a w Q hs hQ => ⟨wp_block ((k1 Γ a w _ hs fun Δ a' w' j1 j2 j3 => ?_).1), fun b hb => by cases hb⟩⟩
        have := hQ Δ a' w' j1 j2 j3
        cases ex with
        | exit id => exact absurd h (hne id st')
        | normal => exact this
        | ret => exact this
    case loop body =>
      simp only [goodC] at hg
      split at h
      · rename_i s1 h1
        obtain ⟨⟨e1, e2⟩, k1⟩ := ih body st _ s1 h1 hg
        obtain ⟨⟨e3, e4⟩, k2⟩ := ih (.loop body) s1 ex st' h (by simp only [goodC]; rw [e1]; exact hg)
        refine ⟨⟨e3.trans e1, e4.trans e2⟩, fun Γ a w Q hs hQ => ?_⟩
        have hr : Code.rounds E.P body Q (n + 1) a w := by
          refine (k1 Γ a w _ hs fun Δ a' w' j1 j2 j3 => ?_).1
          exact (k2 Δ a' w' Q j3 fun Θ a2 w2 i1 i2 i3 => hQ Θ a2 w2 (j1.trans i1) (j2.trans i2) i3).2 body rfl
        exact ⟨wp_loop_rounds (n + 1) hr, fun b hb => by cases hb; exact hr⟩
      · rename_i hne
        obtain ⟨e, k1⟩ := ih body st ex st' h hg
        refine ⟨e, fun Γ a w Q hs hQ => ?_⟩
        have hr : Code.rounds E.P body Q (n + 1) a w := by
          refine (k1 Γ a w _ hs fun Δ a' w' j1 j2 j3 => ?_).1
          have := hQ Δ a' w' j1 j2 j3
          cases ex with
          | normal => exact absurd h (hne st')
          | exit id => exact this
          | ret => exact this
        exact ⟨wp_loop_rounds (n + 1) hr, fun b hb => by cases hb; exact hr⟩
    case region id ops draw =>
      cases draw with
      | false =>
        simp only [Option.map_eq_some_iff, Prod.mk.injEq] at h
        obtain ⟨s1, h1, rfl, rfl⟩ := h
        exact ⟨runSeq_fields h1, fun Γ a w Q hs hQ => ⟨wp_region_list (by have := runSeq_wp hE.ty hC ops.toList ops.toList st s1 Γ a w h1 hs hQ; simpa using this), fun b hb => by cases hb⟩⟩
      | true =>
        simp only at h
        split at h
        · rename_i plan hp
          simp only [Option.map_eq_some_iff, Prod.mk.injEq] at h
          obtain ⟨s1, h1, rfl, rfl⟩ := h
          simp only [goodC, hp] at hg
          exact ⟨runPlan_fields h1, fun Γ a w Q hs hQ => ⟨runPlan_wp hE.ty hC hE.mixed ops plan hg h1 hs hQ, fun b hb => by cases hb⟩⟩
        · cases h

/-- A call that the abstract machine carries out is carried out by the model, whatever the tape. -/
theorem call_sound (hE : EnvOk E Γ0) (n : Nat) : CallOk E Γ0 (call E n) := callF_ok hE (sound hE n)
end
end Go.V
