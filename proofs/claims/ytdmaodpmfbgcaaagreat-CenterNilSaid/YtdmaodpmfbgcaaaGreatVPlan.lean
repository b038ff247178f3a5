/-
  A region that draws its order, run by a plan.
-/
import Derived.Test.YtdmaodpmfbgcaaaGreatVPlanSlot
namespace Go.V

/-- The operations whose writes are in: up to the last that writes or calls. -/
def LastH (ops : List Oper) (plan : List RStep) (T : Nat → Prop) (p : Nat) : Prop :=
  p = 0 ∨ ∃ k ok, ops[k]? = some ok ∧ isHeavy ok.op = true ∧ T k ∧ p = posOf plan k + 1

section
variable {E : Env} {Γ0 : Ctx} {call : CallFn} {ops : List Oper} {plan : List RStep} {S : Nat → St} {Γ : Ctx} {w : World} {T : Nat → Prop} {p i : Nat} {a : Act} {o : Oper}

open Classical in
/-- One operation that may run next. -/
theorem plan_op (hS : Trace E Γ0 call ops plan S) (hb : Γ0.le Γ) (h : MI ops plan S T p Γ w) (hs : SI ops plan S T Γ a) (hlast : LastH ops plan T p) (hcl : Closed ops T) (ho : ops[i]? = some o) (hi : ¬ T i) (hdeps : ∀ d ∈ deps o, T d)
    {K : Act → World → Prop} {Q : Exit → Act → World → Prop}
    (hK : ∀ p' Δ a' w', Γ.le Δ → Step Γ w Δ w' → MI ops plan S (fun k => k = i ∨ T k) p' Δ w' → SI ops plan S (fun k => k = i ∨ T k) Δ a' → LastH ops plan (fun k => k = i ∨ T k) p' → K a' w') :
    if Region.wanted o (yielded ops.toArray a.tmps) then o.wp E.P a w K Q else K (a.put o.dst undef) w := by
  have hcl' : Closed ops (fun k => k = i ∨ T k) := fun j oj hj hoj d hd => by
    rcases hj with rfl | hj
    · rw [ho] at hoj; cases hoj; exact .inr (hdeps d hd)
    · exact .inr (hcl j oj hj hoj d hd)
  have hPi := (hS.posLt ho).1
  have hrun := hS.stepAt ho
  have hsm := hS.small (p := posOf plan i) (by omega)
  have hguard : ∀ {b : Bool}, wanted ops (S (posOf plan i)) o = some b → Region.wanted o (yielded ops.toArray a.tmps) = b := fun hb =>
    wanted_slots ops o hb fun j want d hg hd => hs.read hS hcl hcl' ho hi (mem_reads_guard hg hd)
  have hanc : ∀ j, j ≠ i → isAnc (ancs ops) j i = true → T j := fun j hne hj => (isAnc_ok hcl' hj (.inl rfl)).resolve_left hne
  have hlast' : LastH ops plan (fun k => k = i ∨ T k) p := by
    rcases hlast with e | ⟨k, ok, k1, k2, k3, k4⟩
    · exact .inl e
    · exact .inr ⟨k, ok, k1, k2, .inr k3, k4⟩
  -- a heavy one waits for its place
  have hadv : isHeavy o.op = true → MI ops plan S T (posOf plan i) Γ w := fun hh => by
    have hge : p ≤ posOf plan i := by
      have := h.hv i o ho hh
      exact Decidable.byContradiction fun hc => hi (this.2 (by omega))
    refine h.adv hS hge (by omega) (fun j oj hoj h1 h2 => Bool.eq_false_iff.2 fun hj => ?_) (fun j B h1 hB => ?_)
    · have hne : j ≠ i := fun e => by subst e; omega
      have := hanc j hne ((pair_lt (hS.pair hoj ho).1 h2).1 hh (.inl hj))
      have := (h.hv j oj hoj hj).1 this
      omega
    · obtain ⟨oj, hoj, _, hnew, _⟩ := id hB
      have hne : j ≠ i := fun e => by subst e; omega
      exact hanc j hne ((pair_lt (hS.pair hoj ho).1 h1).1 hh (.inr hnew))
  have hlastH : isHeavy o.op = true → LastH ops plan (fun k => k = i ∨ T k) (posOf plan i + 1) := fun hh => .inr ⟨i, o, ho, hh, .inl rfl, rfl⟩
  -- one whose memory stays
  have hstill : isHeavy o.op = false → (S (posOf plan i + 1)).mem = (S (posOf plan i)).mem → MI ops plan S (fun k => k = i ∨ T k) p Γ w := fun hh hm =>
    h.more ho hh fun B hB => by have := hB.next; rw [hm] at this; omega
  have hrun0 := hrun
  unfold runOp at hrun
  split at hrun
  · cases hrun
  · rename_i hw
    rw [hguard hw]
    simp only [Bool.false_eq_true, if_false]
    have hmem := (St.put_fields hrun).2.2
    have hput : ∀ d, o.dst = some d → VR Γ ((S (posOf plan i + 1)).slot d) undef := fun d hd => by
      rw [St.put_slot hsm hrun d, if_pos hd]
      simp only [VR]; exact ⟨#[], rfl, by simp [VRs]⟩
    cases hh : isHeavy o.op with
    | false => exact hK p Γ _ w (.refl Γ) (.refl Γ w) (hstill hh hmem) (hs.put hS ho hi hput) hlast'
    | true =>
      obtain ⟨Γ', k1, k2, k3, k4⟩ := (hadv hh).heavy hS ho hh hi (Δ := Γ.below (S (posOf plan i)).mem.next) (w' := w) (.refl _) (.refl _ _) (by rw [hmem]; exact (hadv hh).core)
      exact hK _ Γ' _ w k1 k3 k4 ((hs.put hS ho hi hput).mono k1) (hlastH hh)
  · rename_i hw
    rw [hguard hw]
    simp only [if_true]
    generalize hρ : (fun x => if x ∈ o.op.operands.toList then (S (posOf plan i)).ev x else AVal.any) = ρ
    have hρe : ∀ x ∈ o.op.operands.toList, (S (posOf plan i)).ev x = ρ x := fun x hx => by rw [← hρ]; simp only [if_pos hx]
    have hρr : ∀ x, VR Γ (ρ x) (a.eval x) := fun x => by
      by_cases hx : x ∈ o.op.operands.toList
      · rw [← hρe x hx]; exact hs.ev hS hcl hcl' ho hi hx
      · rw [← hρ]; simp only [if_neg hx]; simp [VR]
    cases hh : isHeavy o.op with
    | true =>
      simp only [hh, cond_true] at hrun
      split at hrun
      · rename_i v m' hv
        rw [heavy_congr hρe] at hv
        have hmem : (S (posOf plan i + 1)).mem = m' := (St.put_fields hrun).2.2
        have hA := hadv hh
        obtain ⟨Γr, ar, wr, hr⟩ := hS.ref (p := posOf plan i) (by omega)
        have hρb : ∀ x, VR (Γ.below (S (posOf plan i)).mem.next) (ρ x) (a.eval x) := fun x => by
          refine VR.below (Δ := Γr) (fun b hb => (hr.mem.dom b).1 hb) (ρ x) _ (ar.eval x) (hρr x) ?_
          by_cases hx : x ∈ o.op.operands.toList
          · rw [← hρe x hx]; exact hr.ev x
          · rw [← hρ]; simp only [if_neg hx]; simp [VR]
        refine heavy_wp hS.hT hS.hC (Γ := Γ.below (S (posOf plan i)).mem.next) ⟨fun b hx => (hS.hC.dom b hx).elim, fun b _ hx _ => (hS.hC.dom b hx).elim, hb.ro, hb.inp⟩ hA.core hρb o hv (fun Δ q w' k1 k2 k3 k4 => ?_)
        obtain ⟨Γ', j1, j2, j3, j4⟩ := hA.heavy hS ho hh hi k1 k3 (by rw [hmem]; exact k4)
        refine hK _ Γ' _ w' j1 j3 j4 ((hs.mono j1).put hS ho hi fun d hd => ?_) (hlastH hh)
        rw [St.put_slot (st := { S (posOf plan i) with mem := m' }) hsm hrun d, if_pos hd]
        exact VR.mono j2 _ _ k2
      · cases hrun
    | false =>
      simp only [hh, cond_false] at hrun
      split at hrun
      · rename_i v hv
        have hmem := (St.put_fields hrun).2.2
        have hslot : ∀ d, o.dst = some d → (S (posOf plan i + 1)).slot d = v := fun d hd => by rw [St.put_slot hsm hrun d, if_pos hd]
        have fin : ∀ q, (execOp a.eval o).run E.P w = .ok (.value q) w → (∀ d, o.dst = some d → VR Γ ((S (posOf plan i + 1)).slot d) q) → o.wp E.P a w K Q := fun q hq hr => by
          unfold Oper.wp
          rw [hq, Oper.upon_value]
          exact hK p Γ _ w (.refl Γ) (.refl Γ w) (hstill hh hmem) (hs.put hS ho hi hr) hlast'
        cases hl : isLoad o.op with
        | false =>
          rw [light_congr hρe, light_still (m' := Mem.nil) hl] at hv
          obtain ⟨q, hq, hr⟩ := light_val hS.hT (m := Mem.nil) (Γ := Γ) (w := w) ⟨fun b B _ hB => by simp [Mem.get, Mem.nil, Hp.get_nil] at hB, fun b o v hv => h.core.ro b o v hv⟩ hρr o hv
          exact fin q hq fun d hd => by rw [hslot d hd]; exact hr
        | true =>
          by_cases hp : p ≤ posOf plan i
          · rw [light_congr hρe] at hv
            have hview := h.view hS hp (by omega) (fun j oj hoj hj hc => by
              have hne : j ≠ i := fun e => by subst e; omega
              have := hanc j hne ((pair_lt (hS.pair hoj ho).1 hc.2).2.1 hj hl)
              have := (h.hv j oj hoj hj).1 this
              omega)
            obtain ⟨q, hq, hr⟩ := light_val hS.hT hview hρr o hv
            exact fin q hq fun d hd => by rw [hslot d hd]; exact hr
          · rcases hlast with e | ⟨k, ok, k1, k2, k3, k4⟩
            · omega
            · have hne : posOf plan i ≠ posOf plan k := fun e => hi (hS.posInj ho k1 e ▸ k3)
              have hPk := (hS.posLt k1).1
              have hc : (chksOf (plan.drop (posOf plan k + 1))).contains i = true := by
                rcases (pair_lt (hS.pair ho k1).1 (by omega)).2.2 k2 hl with e | e
                · exact absurd (isAnc_ok hcl e k3) hi
                · exact e
              rw [← k4] at hc
              have hchk := hS.chk rfl hc
              have hkeep : ∀ d ∈ readsOf ops o, (S p).slot d = (S (posOf plan i)).slot d := fun d hd => hS.loadKeep ho hl (by omega) (by omega) hd
              have hw' : wanted ops (S p) o = some true := by rw [wanted_congr hkeep]; exact hw
              obtain ⟨d, hd, hv'⟩ := chk_says ho hchk hw'
              rw [hS.dstKeep ho (by omega) (by omega) hd] at hv'
              have hρp : ∀ x ∈ o.op.operands.toList, (S p).ev x = ρ x := fun x hx => by
                rw [← hρe x hx]
                cases x with
                | tmp t => exact hkeep t (mem_reads_op hx)
                | _ => rfl
              rw [light_congr hρp] at hv'
              obtain ⟨q, hq, hr⟩ := light_val hS.hT (h.view hS (Nat.le_refl p) (by omega) (fun j oj _ _ hc => by omega)) hρr o hv'
              exact fin q hq fun d' hd' => by rw [hd] at hd'; cases hd'; exact hr
      · rename_i blk mk hv
        simp only [cond_eq_ite, nblt, decide_eq_true_eq] at hrun
        split at hrun
        · rename_i hn
          have hmem : (S (posOf plan i + 1)).mem = _ := (St.put_fields hrun).2.2
          have hkind := light_new_kind hv
          have hB : Alloc ops plan S i blk := ⟨o, ho, hh, hkind, hn, hmem⟩
          have hp : p ≤ posOf plan i := Decidable.byContradiction fun hc => by
            rcases hlast with e | ⟨k, ok, k1, k2, k3, k4⟩
            · omega
            · have hne : posOf plan i ≠ posOf plan k := fun e => hi (hS.posInj ho k1 e ▸ k3)
              exact hi (isAnc_ok hcl ((pair_lt (hS.pair ho k1).1 (by omega)).1 k2 (.inr hkind)) k3)
          rw [light_congr hρe] at hv
          obtain ⟨q, cs, hq, _, h1, h2, h3⟩ := light_new (w := w) hS.hT hρr o hv
          obtain ⟨j1, j2, j3⟩ := h.new hS hi hB hp h1 h2
          unfold Oper.wp
          rw [hq, Oper.upon_value]
          refine hK p _ _ _ j1 j2 j3 ((hs.mono j1).put hS ho hi fun d hd => ?_) hlast'
          rw [St.put_slot (st := { S (posOf plan i) with mem := (S (posOf plan i)).mem.add blk }) hsm hrun d, if_pos hd]
          exact h3 _ _ (.inl rfl) (by simp [Ctx.set])
        · cases hrun
      · cases hrun

theorem plan_end (hS : Trace E Γ0 call ops plan S) (hb : Γ0.le Γ) (h : MI ops plan S T p Γ w) (hs : SI ops plan S T Γ a) (hlast : LastH ops plan T p) (hall : ∀ j, j < ops.length → T j) : StR Γ0 Γ (S plan.length) a w := by
  have hget : ∀ j o, ops[j]? = some o → T j := fun j o ho => hall j (List.getElem?_eq_some_iff.1 ho).1
  have hp : p ≤ plan.length := by
    rcases hlast with e | ⟨k, ok, k1, k2, k3, k4⟩
    · omega
    · have := (hS.posLt k1).1; omega
  have hA := h.adv hS hp (Nat.le_refl _) (fun j o ho h1 h2 => Bool.eq_false_iff.2 fun hj => by have := (h.hv j o ho hj).1 (hget j o ho); omega) (fun j B _ hB => by obtain ⟨o, ho, _⟩ := hB; exact hget j o ho)
  refine ⟨hA.core.to (fun b => ⟨fun hb => hb.1, fun hb => ⟨hb, ?_⟩⟩) (fun _ _ => rfl) rfl (fun _ _ => rfl), fun d v hv => ?_, by rw [hS.fields (Nat.le_refl _)]; exact hs.nt, hS.small (Nat.le_refl _), hs.defers, hb⟩
  · rcases hA.dom b hb with h1 | ⟨l, B, h1, h2, h3, h4⟩
    · exact h1
    · obtain ⟨o, ho, _⟩ := h3
      have := (hS.posLt ho).1; omega
  · have : (S plan.length).slot d = v := by simp [St.slot, hv]
    rw [← this]
    by_cases hw : ∃ (j : Nat) (oj : Oper), ops[j]? = some oj ∧ oj.dst = some d
    · obtain ⟨j, oj, hoj, hd⟩ := hw
      have := (hS.posLt hoj).1
      rw [hS.dstKeep hoj (by omega) (Nat.le_refl _) hd]
      exact hs.at_ j oj d (hget j oj hoj) hoj hd
    · rw [hS.slot (Nat.zero_le _) (Nat.le_refl _) (fun k ok hk hkd _ => hw ⟨k, ok, hk, hkd⟩)]
      exact hs.no d fun j oj _ hoj hd => hw ⟨j, oj, hoj, hd⟩

theorem ready_mem {ops : Array Oper} {listed : Array Bool} {i : Nat} (h : i ∈ Region.ready .any ops listed) : ∃ o, ops.toList[i]? = some o ∧ listed.getD i true = false ∧ ∀ d ∈ deps o, listed.getD d false = true := by
  simp only [Region.ready, List.mem_filter, List.mem_range, Bool.and_eq_true, Bool.not_eq_true'] at h
  obtain ⟨h1, h2, h3⟩ := h
  have ho : ops[i]? = some ops[i] := Array.getElem?_eq_getElem h1
  refine ⟨ops[i], by simp, h2, fun d hd => ?_⟩
  rw [ho] at h3
  simp only [Option.map_some, Option.getD_some, Array.all_eq_true_iff_forall_mem, Bool.or_eq_true, Bool.not_eq_true'] at h3
  simp only [deps, List.mem_map, List.mem_filter] at hd
  obtain ⟨e, ⟨he, hb⟩, rfl⟩ := hd
  rcases h3 e (by simpa using he) with h4 | h4
  · rw [hb] at h4; cases h4
  · exact h4

theorem ready_none {ops : Array Oper} {listed : Array Bool} (hS : Trace E Γ0 call ops.toList plan S) (hsz : listed.size = ops.size) (h : Region.ready .any ops listed = []) : ∀ n j, posOf plan j ≤ n → j < ops.size → listed.getD j false = true := by
  intro n
  induction n using Nat.strongRecOn with
  | ind n ih =>
    intro j hj hlt
    refine Decidable.byContradiction fun hc => ?_
    have ho : ops[j]? = some ops[j] := Array.getElem?_eq_getElem hlt
    have hol : ops.toList[j]? = some ops[j] := by simp
    have hm : j ∈ Region.ready .any ops listed := by
      simp only [Region.ready, List.mem_filter, List.mem_range, Bool.and_eq_true, Bool.not_eq_true']
      refine ⟨hlt, ?_, ?_⟩
      · have hlt' : j < listed.size := by omega
        have hf : listed[j] = false := by
          cases hb : listed[j] with
          | false => rfl
          | true => exact absurd (by simp [Array.getD_eq_getD_getElem?, hlt', hb]) hc
        simp [Array.getD_eq_getD_getElem?, hlt', hf]
      · rw [ho]
        simp only [Option.map_some, Option.getD_some, Array.all_eq_true_iff_forall_mem, Bool.or_eq_true, Bool.not_eq_true']
        intro e he
        cases hb : Region.binds .any e with
        | false => exact .inl rfl
        | true =>
          right
          have hd : e.on ∈ deps ops[j] := List.mem_map.2 ⟨e, List.mem_filter.2 ⟨by simpa using he, hb⟩, rfl⟩
          have hpos := (hS.posLt hol).2.2 _ hd
          refine ih (posOf plan e.on) (by omega) e.on (Nat.le_refl _) ?_
          have hrl := (hS.posLt hol).1
          have := (hS.runPos (p := posOf plan e.on) (j := e.on) ?_).1
          · simpa using this
          · unfold posOf at hpos hrl ⊢
            have hlt2 : plan.findIdx (RStep.isRun e.on) < plan.length := by omega
            rw [List.getElem?_eq_getElem hlt2]
            have hb' := List.findIdx_getElem (w := hlt2)
            cases hx : plan[plan.findIdx (RStep.isRun e.on)] with
            | run k => rw [hx] at hb'; simp only [RStep.isRun, nbeq, decide_eq_true_eq] at hb'; rw [hb']
            | chk k => rw [hx] at hb'; simp [RStep.isRun] at hb'
    rw [h] at hm
    cases hm

theorem plan_any {ops : Array Oper} (hS : Trace E Γ0 call ops.toList plan S) {Γs : Ctx} {w0 : World} (hbase : Γ0.le Γs) {Q : Exit → Act → World → Prop} (hQ : ∀ Δ a' w', Γs.le Δ → Step Γs w0 Δ w' → StR Γ0 Δ (S plan.length) a' w' → Q .normal a' w') :
    ∀ (fuel : Nat) (listed : Array Bool) (p : Nat) (Γ : Ctx) (a : Act) (w : World), listed.size = ops.size → listed.toList.count false ≤ fuel → Γs.le Γ → Step Γs w0 Γ w →
      MI ops.toList plan S (fun j => listed.getD j false = true) p Γ w → SI ops.toList plan S (fun j => listed.getD j false = true) Γ a → LastH ops.toList plan (fun j => listed.getD j false = true) p →
      Closed ops.toList (fun j => listed.getD j false = true) → wpAny E.P .any ops Q fuel listed a w := by
  have hend : ∀ (listed : Array Bool) (p : Nat) (Γ : Ctx) (a : Act) (w : World), listed.size = ops.size → Γs.le Γ → Step Γs w0 Γ w →
      MI ops.toList plan S (fun j => listed.getD j false = true) p Γ w → SI ops.toList plan S (fun j => listed.getD j false = true) Γ a → LastH ops.toList plan (fun j => listed.getD j false = true) p →
      Region.ready .any ops listed = [] → Q .normal a w := fun listed p Γ a w hsz hle hst hm hs hl hr =>
    hQ Γ a w hle hst (plan_end hS (hbase.trans hle) hm hs hl fun j hj => ready_none hS hsz hr _ j (Nat.le_refl _) (by simpa using hj))
  intro fuel
  induction fuel with
  | zero =>
    intro listed p Γ a w hsz hc hle hst hm hs hl hcl
    have hr : Region.ready .any ops listed = [] := by
      refine List.eq_nil_iff_forall_not_mem.2 fun i hi => ?_
      obtain ⟨o, ho, h1, _⟩ := ready_mem hi
      have hlt : i < listed.size := by have := (List.getElem?_eq_some_iff.1 ho).1; simp at this; omega
      have hb : listed[i] = false := by simpa [Array.getD_eq_getD_getElem?, hlt] using h1
      have : false ∈ listed.toList := by rw [← hb]; simp
      have := List.count_pos_iff.2 this
      omega
    exact ⟨hr, hend listed p Γ a w hsz hle hst hm hs hl hr⟩
  | succ fuel ih =>
    intro listed p Γ a w hsz hc hle hst hm hs hl hcl
    refine ⟨hend listed p Γ a w hsz hle hst hm hs hl, fun i hi => ?_⟩
    obtain ⟨o, ho, h1, h2⟩ := ready_mem hi
    have hlt : i < listed.size := by have := (List.getElem?_eq_some_iff.1 ho).1; simp at this; omega
    have hb : listed[i] = false := by simpa [Array.getD_eq_getD_getElem?, hlt] using h1
    have hTi : ¬ listed.getD i false = true := by simp [Array.getD_eq_getD_getElem?, hlt, hb]
    have hT' : (fun k => k = i ∨ listed.getD k false = true) = fun k => (listed.setIfInBounds i true).getD k false = true := by
      funext k
      by_cases e : k = i
      · subst e; simp [Array.getD_eq_getD_getElem?, hlt]
      · have : i ≠ k := fun x => e x.symm
        simp [Array.getD_eq_getD_getElem?, Array.getElem?_setIfInBounds_ne this, e]
    have hcl' : Closed ops.toList (fun k => (listed.setIfInBounds i true).getD k false = true) := by
      rw [← hT']
      intro j oj hj hoj d hd
      rcases hj with rfl | hj
      · rw [ho] at hoj; cases hoj; exact .inr (h2 d hd)
      · exact .inr (hcl j oj hj hoj d hd)
    have key := plan_op (K := wpAny E.P .any ops Q fuel (listed.setIfInBounds i true)) (Q := Q) hS (hbase.trans hle) hm hs hl hcl ho hTi h2 (fun p' Δ a' w' k1 k2 k3 k4 k5 => by
      rw [hT'] at k3 k4 k5
      refine ih _ p' Δ a' w' (by simpa using hsz) ?_ (hle.trans k1) (hst.trans k2) k3 k4 k5 hcl'
      have hcnt := List.count_set (l := listed.toList) (a := true) (b := false) (i := i) (by simpa using hlt)
      have e1 : listed.toList[i]'(by simpa using hlt) = false := by simpa using hb
      rw [e1] at hcnt
      have e2 : (if (false == false) = true then 1 else 0) = 1 := rfl
      have e3 : (if (true == false) = true then 1 else 0) = 0 := rfl
      rw [e2, e3] at hcnt
      have e4 : (listed.setIfInBounds i true).toList = listed.toList.set i true := Array.toList_setIfInBounds
      rw [e4, hcnt]
      omega)
    unfold wpOp
    have ho' : ops[i]? = some o := by simpa using ho
    rw [ho']
    simp only
    have e : ops.toList.toArray = ops := rfl
    rw [e] at key
    split at key
    · rename_i hw; rw [if_pos hw]; exact .inl key
    · rename_i hw; rw [if_neg hw]; exact key
end

section
variable {E : Env} {w : World} {Γ0 Γ : Ctx} {st st' : St} {a : Act} {call : CallFn}

theorem runPlan_wp (hT : TysOk E) (hC : CallOk E Γ0 call) (hmix : E.P.follows .mixedOrders = true) {id : Nat} (ops : Array Oper) (plan : List RStep) (hok : planOk ops.toList plan = true)
    (h : runPlan E call ops.toList plan st = some st') (hs : StR Γ0 Γ st a w) {Q : Exit → Act → World → Prop} (hQ : ∀ Δ a' w', Γ.le Δ → Step Γ w Δ w' → StR Γ0 Δ st' a' w' → Q .normal a' w') :
    (Code.region id ops true).wp E.P Q a w := by
  obtain ⟨S, h0, h1, h2⟩ := trace_exists h
  have hS : Trace E Γ0 call ops.toList plan S := ⟨hT, hC, hok, h2, Γ, a, w, h0 ▸ hs⟩
  have hsd : ∀ j, (Array.replicate ops.size false).getD j false = false := fun j => by
    by_cases e : j < ops.size <;> simp [Array.getD_eq_getD_getElem?, e]
  have hF : (fun j => (Array.replicate ops.size false).getD j false = true) = fun _ => False := by
    funext j; rw [hsd]; simp
  refine wp_region_any hmix (plan_any hS (Γs := Γ) (w0 := w) hs.base (fun Δ a' w' k1 k2 k3 => hQ Δ a' w' k1 k2 (h1 ▸ k3)) ops.size _ 0 Γ a _ (by simp) ?_ (.refl Γ) (.still rfl rfl rfl rfl) ?_ ?_ (.inl rfl) ?_)
  · refine Nat.le_trans List.count_le_length (by simp)
  · rw [hF]
    refine ⟨fun k o _ _ => by simp, ?_, fun l B hl => hl.elim, fun b hb => .inl ?_, fun b b' i i' hb hb' hi hi' he => ?_⟩
    · rw [h0]
      exact (hs.mem.still (w' := { w with drawn := w.drawn + 1 }) rfl).to (Δ := Γ.below st.mem.next) (fun b => ⟨fun hb => ⟨hb, (hs.mem.dom b).1 hb⟩, fun hb => hb.1⟩) (fun _ _ => rfl) rfl (fun _ _ => rfl)
    · rw [h0]; exact (hs.mem.dom b).1 hb
    · exact hs.mem.inj b b' i i' ((hs.mem.dom b).1 hb) ((hs.mem.dom b').1 hb') hi hi' he
  · rw [hF]
    exact ⟨fun j o d hj => hj.elim, fun d _ => by rw [h0]; exact hs.slot d, by rw [h0]; exact hs.nt, hs.defers⟩
  · rw [hF]
    exact fun j o hj => hj.elim
end
end Go.V
