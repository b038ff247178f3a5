/-
  Operations that call nothing and write nothing.
-/
import Derived.Test.YtdmaodpmfbgcaaaGreatVBin
namespace Go.V
section
variable {E : Env} {w : World} {Γ : Ctx} {m : Mem} {ρ : Operand → AVal} {σ : Operand → Value}

theorem fieldOf_ok (hT : TysOk E) {s : TypeId} {f : Nat} {vt : VT} {off : Nat} (h : fieldOf E s f = some (vt, off)) :
    ∃ gs : Array Field, E.P.underlying s = some (.struct gs) ∧ ∃ g, gs[f]? = some g ∧ g.offset = off ∧ ∃ i d z, TyOk E.P g.type vt i d z := by
  unfold fieldOf at h
  split at h
  · rename_i fs _ _ _ _ hg
    obtain ⟨i, d, z, ok⟩ := hT _ _ hg
    obtain ⟨gs, rfl, hfs⟩ := vdOf_struct ok.d.symm
    split at h
    · rename_i ft o hf
      cases hv : E.ty.get ft with
      | none => simp [hv] at h
      | some v =>
        simp only [hv, Option.map_some, Option.some.injEq, Prod.mk.injEq] at h
        obtain ⟨rfl, rfl⟩ := h
        rw [hfs] at hf
        simp only [List.getElem?_map, Option.map_eq_some_iff, Prod.mk.injEq] at hf
        obtain ⟨g, hg', rfl, rfl⟩ := hf
        exact ⟨gs, ok.und, g, by simpa using hg', rfl, hT _ _ hv⟩
    · cases h
  · cases h

theorem shift_ptr_ok {x r : AVal} {n : Nat} {v : Value} (h : shift x n = some r) (hv : VR Γ x v) : ∃ a, v = .pointer (some a) ∧ VR Γ r (.pointer (some (a.add n))) := by
  unfold shift at h
  split at h
  · simp only [Option.some.injEq] at h
    subst h
    simp only [VR] at hv ⊢
    obtain ⟨a, rfl, hb, hk⟩ := hv
    refine ⟨a, rfl, _, rfl, hb, fun i hi => ?_⟩
    obtain ⟨h1, h2⟩ := hk i hi
    exact ⟨h1, fun he => by rw [h2 he, Addr_add]⟩
  · simp only [Option.some.injEq] at h
    subst h
    simp only [VR] at hv ⊢
    obtain ⟨a, rfl, hs, hr⟩ := hv
    obtain ⟨ab, ao, as⟩ := a
    simp only at hs
    subst hs
    exact ⟨_, rfl, _, rfl, by rw [Addr_add], by rw [Addr_add]; exact roRel_drop n hr⟩
  · cases h

theorem light_field (hT : TysOk E) {o : Oper} {t : TypeId} {x : Operand} {f : Nat} {v : AVal} (ho : o.op = .field t x f) (hρ : ∀ x, VR Γ (ρ x) (σ x)) (h : light E m ρ o.op = some (.val v)) :
    ∃ q, (execOp σ o).run E.P w = .ok (.value q) w ∧ VR Γ v q := by
  rw [ho] at h
  simp only [light] at h
  split at h
  · rename_i cs vt off hx hf
    obtain ⟨gs, hu, g, hg, rfl, i, d, z, ok⟩ := fieldOf_ok hT hf
    have hv := hρ x
    rw [hx] at hv
    simp only [VR] at hv
    obtain ⟨us, hus, h1, h2⟩ := hv
    simp only [nblt, cond_eq_ite, decide_eq_true_eq] at h
    split at h
    case isFalse => cases h
    rename_i hpos
    cases hl : lget cs g.offset vt.size with
    | none => simp [hl] at h
    | some r =>
      simp only [hl, Option.bind_some, Option.map_eq_some_iff, Light.val.injEq] at h
      obtain ⟨v', hm, rfl⟩ := h
      obtain ⟨rfl, hlen⟩ := lget_eq hl
      have hr := (h1.drop g.offset).take vt.size
      have hl2 := hr.length
      have hp := run_part (P := E.P) (w := w) ok.und ok.cellsOf (fun hb => by obtain ⟨c, hc⟩ := mkVal_len ok hm hb; rw [hc] at hlen; simpa using hlen.symm) us g.offset (by simp at hl2 hlen; have := h1.length; simp at this; omega)
      refine ⟨_, ?_, mkVal_ok ok hm hr (fun u hu => h2 u (List.mem_of_mem_drop (List.mem_of_mem_take hu)))⟩
      simp [execOp, ho, Instr.field, run_underlying hu, hg, hus, asAgg, hp]
  · cases h

theorem run_fieldPlace {P : Program} {a : Addr} {g : Field} {n : Nat} (hs : (sizeOf g.type).run P w = .ok n w) (hn : 0 < n) : (fieldPlace a g).run P w = .ok (a.add g.offset) w := by
  unfold fieldPlace
  simp [hs, Nat.ne_of_gt hn]

theorem light_fieldAddr (hT : TysOk E) {o : Oper} {t : TypeId} {x : Operand} {f : Nat} {v : AVal} (ho : o.op = .fieldAddr t x f) (hρ : ∀ x, VR Γ (ρ x) (σ x)) (h : light E m ρ o.op = some (.val v)) :
    ∃ q, (execOp σ o).run E.P w = .ok (.value q) w ∧ VR Γ v q := by
  rw [ho] at h
  simp only [light] at h
  split at h
  · rename_i vt off hf
    obtain ⟨gs, hu, g, hg, rfl, i, d, z, ok⟩ := fieldOf_ok hT hf
    simp only [nblt, cond_eq_ite, decide_eq_true_eq] at h
    split at h
    · rename_i hpos
      simp only [Option.map_eq_some_iff, Light.val.injEq] at h
      obtain ⟨r, hs, rfl⟩ := h
      obtain ⟨a, ha, hr⟩ := shift_ptr_ok hs (hρ x)
      refine ⟨_, ?_, hr⟩
      simp [execOp, ho, Instr.fieldAt, run_underlying hu, hg, ha, Instr.sureAddr, run_fieldPlace ok.run_size hpos]
    · cases h
  · cases h

theorem elemAddr_ok (hT : TysOk E) {t : TypeId} {x r : AVal} {i : Nat} {v q : Value} (h : elemAddr E t x i = some r) (hv : VR Γ x v) {k : IntKind} (hq : q = .int k i) :
    ∃ u, (Instr.indexAt t v q).run E.P w = .ok u w ∧ VR Γ r u := by
  subst hq
  have hi0 : (0 : Int) ≤ (i : Int) := Int.natCast_nonneg i
  unfold elemAddr at h
  split at h
  · rename_i e _ _ _ _ hg
    obtain ⟨ti, d, z, ok⟩ := hT _ _ hg
    have hd := vdOf_slice ok.d.symm
    subst hd
    split at h
    · rename_i ve hve
      obtain ⟨ei, ed, ez, oke⟩ := hT _ _ hve
      split at h
      · rename_i b ext off n lo ex sz
        simp only [nblt, cond_eq_ite, decide_eq_true_eq] at h
        split at h
        · rename_i hlt
          simp only [Option.some.injEq] at h
          subst h
          simp only [VR] at hv
          obtain ⟨a, c, rfl, _, _, _, hb, hk⟩ := hv
          refine ⟨_, by simp [Instr.indexAt, asIntOf, ok.run_und, hlt, oke.run_size] <;> rfl, ?_⟩
          simp only [VR]
          refine ⟨_, rfl, hb, fun j hj => ?_⟩
          obtain ⟨h1, h2⟩ := hk j hj
          exact ⟨h1, fun he => by rw [(h2 he).1, Addr_add]⟩
        · cases h
      · rename_i cells n
        simp only [nblt, nble, cond_eq_ite, Bool.and_eq_true, decide_eq_true_eq] at h
        split at h
        · rename_i hc
          obtain ⟨⟨hlt, hle⟩, hpos⟩ := hc
          simp only [Option.some.injEq] at h
          subst h
          simp only [VR] at hv
          obtain ⟨a, c, rfl, _, hne⟩ := hv
          have hne' : cells ≠ [] := by
            intro e0
            subst e0
            simp at hle
            have : 0 < (i + 1) * ve.size := Nat.mul_pos (by omega) hpos
            omega
          obtain ⟨ad, rfl, hs, hr⟩ := hne hne'
          refine ⟨_, by simp [Instr.indexAt, asIntOf, ok.run_und, hlt, oke.run_size] <;> rfl, ?_⟩
          obtain ⟨ab, ao, as⟩ := ad
          simp only at hs
          subst hs
          simp only [VR]
          exact ⟨_, rfl, by rw [Addr_add], by rw [Addr_add]; exact roRel_drop _ hr⟩
        · cases h
      · cases h
    · cases h
  · rename_i n e _ _ _ _ hg
    obtain ⟨ti, d, z, ok⟩ := hT _ _ hg
    have hd := vdOf_array ok.d.symm
    subst hd
    split at h
    · rename_i ve hve
      obtain ⟨ei, ed, ez, oke⟩ := hT _ _ hve
      simp only [nblt, cond_eq_ite, decide_eq_true_eq] at h
      split at h
      · rename_i hlt
        obtain ⟨a, rfl, hr⟩ := shift_ptr_ok h hv
        exact ⟨_, by simp [Instr.indexAt, asIntOf, ok.run_und, Instr.sureAddr, hlt, oke.run_size] <;> rfl, hr⟩
      · cases h
    · cases h
  · cases h

theorem elemAt_ok (hT : TysOk E) {t : TypeId} {x r : AVal} {i : Nat} {v q : Value} (h : elemAt E t x i = some r) (hv : VR Γ x v) {k : IntKind} (hq : q = .int k i) :
    ∃ u, (Instr.index t v q).run E.P w = .ok u w ∧ VR Γ r u := by
  subst hq
  have hi0 : (0 : Int) ≤ (i : Int) := Int.natCast_nonneg i
  unfold elemAt at h
  split at h
  · rename_i s
    split at h
    · rename_i _ _ _ _ hg
      obtain ⟨ti, d, z, ok⟩ := hT _ _ hg
      have hd := vdOf_str ok.d.symm
      subst hd
      split at h
      · rename_i b hb
        simp only [Option.some.injEq] at h
        subst h
        simp only [VR] at hv
        subst hv
        have hb' : s[i]? = some b := by
          have : s.data[i]? = some b := by simpa using hb
          have hlt : i < s.size := by
            have := (Array.getElem?_eq_some_iff.1 this).1
            exact this
          have h2 := (Array.getElem?_eq_some_iff.1 this).2
          rw [getElem?_pos s i hlt]
          exact congrArg some h2
        exact ⟨_, by simp [Instr.index, asIntOf, ok.run_und, hb'] <;> rfl, by simp [VR]⟩
      · cases h
    · cases h
  · rename_i cs
    split at h
    · rename_i n e _ _ _ _ hg
      obtain ⟨ti, d, z, ok⟩ := hT _ _ hg
      have hd := vdOf_array ok.d.symm
      subst hd
      split at h
      · rename_i ve hve
        obtain ⟨ei, ed, ez, oke⟩ := hT _ _ hve
        simp only [nblt, cond_eq_ite, Bool.and_eq_true, decide_eq_true_eq] at h
        split at h
        · rename_i hlt0
          obtain ⟨hlt, hpos⟩ := hlt0
          simp only [VR] at hv
          obtain ⟨us, rfl, h1, h2⟩ := hv
          cases hl : lget cs (i * ve.size) ve.size with
          | none => simp [hl] at h
          | some r' =>
            simp only [hl, Option.bind_some] at h
            obtain ⟨rfl, hlen⟩ := lget_eq hl
            have hr := (h1.drop (i * ve.size)).take ve.size
            have hl2 := hr.length
            have hp := run_part (P := E.P) (w := w) oke.und oke.cellsOf (fun hb => by obtain ⟨c, hc⟩ := mkVal_len oke h hb; rw [hc] at hlen; simpa using hlen.symm) us (i * ve.size)
              (by simp at hl2 hlen; have := h1.length; simp at this; omega)
            exact ⟨_, by simp [Instr.index, asIntOf, ok.run_und, hlt, oke.run_size, hp] <;> rfl, mkVal_ok oke h hr (fun u hu => h2 u (List.mem_of_mem_drop (List.mem_of_mem_take hu)))⟩
        · cases h
      · cases h
    · cases h
  · cases h
end
end Go.V
