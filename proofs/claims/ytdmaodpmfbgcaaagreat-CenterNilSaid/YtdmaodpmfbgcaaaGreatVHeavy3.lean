/-
  All operations that write, but for calls.
-/
import Derived.Test.YtdmaodpmfbgcaaaGreatVHeavy2
namespace Go.V
section
variable {E : Env} {w : World} {Γ : Ctx} {m : Mem} {ρ : Operand → AVal} {σ : Operand → Value}

theorem heavy_append (hT : TysOk E) (hm : MemR Γ m w) (hρ : ∀ x, VR Γ (ρ x) (σ x)) {call : CallFn} (o : Oper) {args : Array Operand} {argTypes : Array TypeId} (ho : o.op = .call { callee := .builtin .append, args, argTypes })
    {v : AVal} {m' : Mem} (h : heavy E call m ρ o.op = some (v, m')) : Wrote E.P o σ Γ w v m' := by
  rw [ho] at h
  simp only [heavy] at h
  split at h
  · rename_i s x t ts ha ht
    have ha' : args = #[s, x] := Array.ext' ha
    subst ha'
    split at h
    · rename_i e _ _ _ _ hg
      obtain ⟨ti, d, z, ok⟩ := hT _ _ hg
      have hd := vdOf_slice ok.d.symm
      subst hd
      split at h
      · rename_i ve hve
        obtain ⟨ei, ed, ez, oke⟩ := hT _ _ hve
        simp only [nblt, nble, nbeq, cond_eq_ite, Bool.and_eq_true, decide_eq_true_eq] at h
        split at h
        · rename_i hc
          obtain ⟨⟨⟨c1, c2⟩, c3⟩, c4⟩ := hc
          cases hap : appended E m ve ts.head? (ρ x) with
          | none => simp [hap] at h
          | some r =>
            obtain ⟨k, cs⟩ := r
            simp only [hap, Option.bind_some] at h
            cases ts with
            | nil => simp [appended] at hap
            | cons t2 ts' =>
              simp only [List.head?_cons] at hap
              obtain ⟨news, n1, n2, n3, n4⟩ := appended_ok hT hm oke c4 hap (hρ x)
              have key : ∀ ty, ∃ Δ w' q, Γ.le Δ ∧ MemR Δ m' w' ∧ Step Γ w Δ w' ∧ (Builtin.append_ #[t, t2] ty #[σ s, σ x]).run E.P w = .ok q w' ∧ VR Δ v q := fun ty =>
                append_ok hm ok.und oke c1 c3 c4 n1 n2 n3 n4 (hρ s) h
              obtain ⟨Δ, w', q, k1, k2, k3, k4, k5⟩ := key o.type
              refine ⟨Δ, w', k1, k2, k3, .inr ⟨q, ?_, k5⟩⟩
              have e1 : (Builtin.append_ argTypes o.type #[σ s, σ x]).run E.P w = .ok q w' := by
                rw [← k4]
                have h0 : argTypes[0]? = some t := by rw [← Array.getElem?_toList, ht]; rfl
                have h1 : argTypes[1]? = some t2 := by rw [← Array.getElem?_toList, ht]; rfl
                simp only [Builtin.append_, h0, h1]
                rfl
              simp [execOp, ho, resolve, invoke, builtin, e1]
        · cases h
      · cases h
    · cases h
  · cases h

theorem heavy_copy (hT : TysOk E) (hm : MemR Γ m w) (hρ : ∀ x, VR Γ (ρ x) (σ x)) {call : CallFn} (o : Oper) {args : Array Operand} {argTypes : Array TypeId} (ho : o.op = .call { callee := .builtin .copy, args, argTypes })
    {v : AVal} {m' : Mem} (h : heavy E call m ρ o.op = some (v, m')) : Wrote E.P o σ Γ w v m' := by
  rw [ho] at h
  simp only [heavy] at h
  split at h
  · rename_i d s t ts ha ht
    have ha' : args = #[d, s] := Array.ext' ha
    subst ha'
    have h0 : argTypes[0]? = some t := by rw [← Array.getElem?_toList, ht]; rfl
    split at h
    · rename_i e _ _ _ _ hg
      obtain ⟨ti, dd, z, ok⟩ := hT _ _ hg
      have hd := vdOf_slice ok.d.symm
      subst hd
      split at h
      · rename_i ve hve
        obtain ⟨ei, ed, ez, oke⟩ := hT _ _ hve
        cases hdn : sliceLen (ρ d) with
        | none => simp [hdn] at h
        | some dn =>
          cases hsn : sliceLen (ρ s) with
          | none => simp [hdn, hsn] at h
          | some sn =>
            simp only [hdn, hsn, Option.bind_some] at h
            cases hcs : sliceCells m (ρ s) (Nat.min sn dn) ve.size with
            | none => simp [hcs] at h
            | some cs =>
              simp only [hcs, Option.bind_some] at h
              obtain ⟨us, u1, u2, u3, u4, _⟩ := sliceCells_ok (P := E.P) hm.view hcs (hρ s)
              obtain ⟨sa, sc, hσs, _⟩ := sliceLen_ok hsn (hρ s)
              have hv := hρ d
              split at h
              · rename_i b ext off k lo ex sz hd
                rw [hd] at hv hdn
                simp only [sliceLen, Option.some.injEq] at hdn
                subst hdn
                simp only [VR] at hv
                obtain ⟨a, c, hσd, _, _, _, _, hk⟩ := hv
                simp only [Option.map_eq_some_iff, Prod.mk.injEq] at h
                obtain ⟨m1, hw, rfl, rfl⟩ := h
                obtain ⟨cb, tot, Δ, w', e1, e2, e3, e4, e5⟩ := writeCells_ok hm hw u1 u3
                obtain ⟨hae, _⟩ := (hk _ e1).2 rfl
                subst hae
                refine ⟨Δ, w', e3, e4, e5, .inr ⟨.int .i64 (Nat.min sn k), ?_, by simp [VR]⟩⟩
                have u4' := u4 w rfl
                have e2' := e2 E.P
                rw [hσs] at u4'
                simp [execOp, ho, resolve, invoke, builtin, Builtin.copy_, h0, ok.run_und, hσd, hσs, Builtin.lenOf, oke.run_size, u4', e2', goInt]
              · rename_i su hd
                rw [hd] at hv hdn
                simp only [sliceLen, Option.some.injEq] at hdn
                subst hdn
                simp only [VR] at hv
                obtain ⟨a, hσd, _⟩ := hv
                simp only [nbeq, cond_eq_ite, decide_eq_true_eq] at h
                split at h
                · rename_i h00
                  simp only [Option.some.injEq, Prod.mk.injEq] at h
                  obtain ⟨rfl, rfl⟩ := h
                  rw [h00] at u2 u4
                  have hun : us = [] := List.eq_nil_of_length_eq_zero (by simpa using u2)
                  subst hun
                  refine ⟨Γ, w, .refl Γ, hm, .refl Γ w, .inr ⟨.int .i64 0, ?_, by simp [VR]⟩⟩
                  have u4' := u4 w rfl
                  rw [hσs] at u4'
                  have hmin : sn.min 0 = 0 := h00
                  cases a <;> simp [execOp, ho, resolve, invoke, builtin, Builtin.copy_, h0, ok.run_und, hσd, hσs, Builtin.lenOf, oke.run_size, u4', goInt, storeCells]
                · cases h
              · cases h
      · cases h
    · cases h
  · cases h

theorem heavy_clear (hT : TysOk E) (hm : MemR Γ m w) (hρ : ∀ x, VR Γ (ρ x) (σ x)) {call : CallFn} (o : Oper) {args : Array Operand} {argTypes : Array TypeId} (ho : o.op = .call { callee := .builtin .clear, args, argTypes })
    {v : AVal} {m' : Mem} (h : heavy E call m ρ o.op = some (v, m')) : Wrote E.P o σ Γ w v m' := by
  rw [ho] at h
  simp only [heavy] at h
  split at h
  · rename_i x t ts ha ht
    have ha' : args = #[x] := Array.ext' ha
    subst ha'
    have h0 : argTypes[0]? = some t := by rw [← Array.getElem?_toList, ht]; rfl
    split at h
    · rename_i e _ _ _ _ hg
      obtain ⟨ti, dd, z, ok⟩ := hT _ _ hg
      have hd := vdOf_slice ok.d.symm
      subst hd
      split at h
      · rename_i ve hve
        obtain ⟨ei, ed, ez, oke⟩ := hT _ _ hve
        have hv := hρ x
        split at h
        · rename_i b ext off n lo ex sz hx
          rw [hx] at hv
          simp only [VR] at hv
          obtain ⟨a, c, hσ, _, _, _, _, hk⟩ := hv
          simp only [nbeq, cond_eq_ite, decide_eq_true_eq] at h
          split at h
          · rename_i hn0
            subst hn0
            simp only [Option.some.injEq, Prod.mk.injEq] at h
            obtain ⟨rfl, rfl⟩ := h
            exact ⟨Γ, w, .refl Γ, hm, .refl Γ w, .inr ⟨.tuple #[], by simp [execOp, ho, resolve, invoke, builtin, Builtin.clear_, h0, ok.run_und, hσ], by simp only [VR]; exact ⟨_, rfl, by simp [VRs]⟩⟩⟩
          · rename_i hn0
            split at h
            · rename_i hz
              simp only [Option.map_eq_some_iff, Prod.mk.injEq] at h
              obtain ⟨m1, hw, rfl, rfl⟩ := h
              have hzl := (oke.zrel (Γ := Γ)).length
              simp only [Array.length_toList] at hzl
              have hzr : VRs Γ (zeros ve.zero n) (Builtin.zeroCells ez.cells n).toList := zeros_rel oke.zrel n _ rfl
              have hz1 : ∀ u ∈ (Builtin.zeroCells ez.cells n).toList, u.oneCell' = true := by
                rcases Nat.eq_zero_or_pos ez.cells.size with h0 | h0
                · intro q hq; simp [Builtin.zeroCells, h0] at hq
                · exact zeros_cell oke.cell _ (.inr h0)
              obtain ⟨cb, tot, Δ, w', e1, e2, e3, e4, e5⟩ := writeCells_ok hm hw hzr hz1
              obtain ⟨hae, _⟩ := (hk _ e1).2 rfl
              subst hae
              refine ⟨Δ, w', e3, e4, e5, .inr ⟨.tuple #[], ?_, by simp only [VR]; exact ⟨_, rfl, by simp [VRs]⟩⟩⟩
              have e2' := e2 E.P
              obtain ⟨n', rfl⟩ : ∃ n', n = n' + 1 := ⟨n - 1, by omega⟩
              simp [execOp, ho, resolve, invoke, builtin, Builtin.clear_, h0, ok.run_und, hσ, oke.run_zero, e2']
            · cases h
        · rename_i su hx
          rw [hx] at hv
          simp only [VR] at hv
          obtain ⟨a, hσ, _⟩ := hv
          simp only [Option.some.injEq, Prod.mk.injEq] at h
          obtain ⟨rfl, rfl⟩ := h
          refine ⟨Γ, w, .refl Γ, hm, .refl Γ w, .inr ⟨.tuple #[], ?_, by simp only [VR]; exact ⟨_, rfl, by simp [VRs]⟩⟩⟩
          cases a <;> simp [execOp, ho, resolve, invoke, builtin, Builtin.clear_, h0, ok.run_und, hσ]
        · rename_i cells hx
          rw [hx] at hv
          simp only [VR] at hv
          obtain ⟨a, c, hσ, _⟩ := hv
          simp only [Option.some.injEq, Prod.mk.injEq] at h
          obtain ⟨rfl, rfl⟩ := h
          refine ⟨Γ, w, .refl Γ, hm, .refl Γ w, .inr ⟨.tuple #[], ?_, by simp only [VR]; exact ⟨_, rfl, by simp [VRs]⟩⟩⟩
          cases a <;> simp [execOp, ho, resolve, invoke, builtin, Builtin.clear_, h0, ok.run_und, hσ]
        · cases h
      · cases h
    · cases h
  · cases h

def isCall : Op → Bool
  | .call { callee := .builtin _, .. } => false
  | .call _ => true
  | _ => false

theorem heavy_wrote (hT : TysOk E) (hm : MemR Γ m w) (hρ : ∀ x, VR Γ (ρ x) (σ x)) {call : CallFn} (o : Oper) (hc : isCall o.op = false) {v : AVal} {m' : Mem} (h : heavy E call m ρ o.op = some (v, m')) : Wrote E.P o σ Γ w v m' := by
  cases ho : o.op with
  | store t a x => exact heavy_store hT hm hρ o ho h
  | call c =>
    obtain ⟨callee, args, argTypes⟩ := c
    cases callee with
    | value f => rw [ho] at hc; simp [isCall] at hc
    | invoke r n => rw [ho] at hc; simp [isCall] at hc
    | builtin b =>
      cases b with
      | append => exact heavy_append hT hm hρ o ho h
      | copy => exact heavy_copy hT hm hρ o ho h
      | clear => exact heavy_clear hT hm hρ o ho h
      | _ => rw [ho] at h; simp [heavy] at h
  | _ => rw [ho] at h; simp [heavy] at h
end
end Go.V
