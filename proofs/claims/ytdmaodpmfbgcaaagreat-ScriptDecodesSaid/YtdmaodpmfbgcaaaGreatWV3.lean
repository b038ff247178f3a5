import Derived.Test.YtdmaodpmfbgcaaaGreatWV2
import Derived.LoopN
import Derived.IntWalk
import Derived.Test.YtdmaodpmfbgcaaaGreatWV1
import Derived.KernelRfl

section
/-
  Memory while a plan's operations run in another order.
-/
namespace Go.V

/-- A block that is there ahead of its place in the plan. -/
def Early (Γ : Ctx) (B : Block) (id : Nat) (w : World) : Prop :=
  Γ.dom id ∧ ∃ (cb : Nat) (cs : Array Value), Γ.blk id = some ⟨B.cells.length, cb, cs.size⟩ ∧ w.heap[cb]? = some (.cells cs B.ty (0, 0)) ∧ CellsR (Γ.below (id + 1)) B.cells cs ∧ ∀ i, Γ.ro cb i = none

structure MI (ops : List Oper) (plan : List RStep) (S : Nat → St) (T : Nat → Prop) (p : Nat) (Γ : Ctx) (w : World) : Prop where
  hv : ∀ h o, ops[h]? = some o → isHeavy o.op = true → (T h ↔ posOf plan h < p)
  core : MemR (Γ.below (S p).mem.next) (S p).mem w
  early : ∀ l B, T l → p ≤ posOf plan l → Alloc ops plan S l B → Early Γ B (S (posOf plan l)).mem.next w
  dom : ∀ b, Γ.dom b → b < (S p).mem.next ∨ ∃ l B, T l ∧ p ≤ posOf plan l ∧ Alloc ops plan S l B ∧ b = (S (posOf plan l)).mem.next
  inj : ∀ b b' i i', Γ.dom b → Γ.dom b' → Γ.blk b = some i → Γ.blk b' = some i' → i.cb = i'.cb → b = b'

theorem Ctx.below_le (Γ : Ctx) {N M : Nat} (h : N ≤ M) : (Γ.below N).le (Γ.below M) :=
  ⟨fun _ hb => ⟨hb.1, Nat.lt_of_lt_of_le hb.2 h⟩, fun _ i _ hi => ⟨i, hi, .inl rfl⟩, fun _ _ _ hv => hv, rfl⟩

theorem Ctx.below_le_self (Γ : Ctx) (N : Nat) : (Γ.below N).le Γ :=
  ⟨fun _ hb => hb.1, fun _ i _ hi => ⟨i, hi, .inl rfl⟩, fun _ _ _ hv => hv, rfl⟩


section
variable {E : Env} {Γ0 : Ctx} {call : CallFn} {ops : List Oper} {plan : List RStep} {S : Nat → St} {Γ : Ctx} {w : World} {T : Nat → Prop} {p : Nat}
variable (hS : Trace E Γ0 call ops plan S)

theorem MI.domLt (h : MI ops plan S T p Γ w) {b : Nat} (hb : b < (S p).mem.next) : Γ.dom b := ((h.core.dom b).2 hb).1

theorem MI.early_size (h : MI ops plan S T p Γ w) {b : Nat} (hd : Γ.dom b) {i : BI} (hi : Γ.blk b = some i) : i.cb < w.heap.size := by
  rcases h.dom b hd with hlt | ⟨l, B, h1, h2, h3, rfl⟩
  · exact h.core.lt hlt hi
  · obtain ⟨_, cb, cs, e1, e2, _⟩ := h.early l B h1 h2 h3
    rw [hi] at e1
    cases e1
    exact (Array.getElem?_eq_some_iff.1 e2).1

include hS

theorem Trace.id_lt {l : Nat} {B : Block} (hl : Alloc ops plan S l B) {q : Nat} (hq : posOf plan l < q) (hq' : q ≤ plan.length) : (S (posOf plan l)).mem.next < (S q).mem.next := by
  have := hl.next
  have := hS.next (p := posOf plan l + 1) (q := q) (by omega) hq'
  omega

theorem Trace.id_inj {l l' : Nat} {B B' : Block} (hl : Alloc ops plan S l B) (hl' : Alloc ops plan S l' B') (h : (S (posOf plan l)).mem.next = (S (posOf plan l')).mem.next) : l = l' := by
  obtain ⟨o, ho, _⟩ := id hl
  obtain ⟨o', ho', _⟩ := id hl'
  have h1 := (hS.posLt ho).1
  have h2 := (hS.posLt ho').1
  rcases Nat.lt_trichotomy (posOf plan l) (posOf plan l') with hlt | he | hlt
  · have := hS.id_lt hl hlt (by omega); omega
  · exact hS.posInj ho ho' he
  · have := hS.id_lt hl' hlt (by omega); omega

/-- One step of the plan that writes and calls nothing, and whose operation has run if it makes a block. -/
theorem MI.adv1 (h : MI ops plan S T p Γ w) (hp : p < plan.length) (hn : ∀ j o, ops[j]? = some o → posOf plan j = p → isHeavy o.op = false) (ha : ∀ j B, posOf plan j = p → Alloc ops plan S j B → T j) :
    MI ops plan S T (p + 1) Γ w := by
  have hhv : ∀ k o, ops[k]? = some o → isHeavy o.op = true → (T k ↔ posOf plan k < p + 1) := fun k o ho hk => by
    have h1 := h.hv k o ho hk
    have h2 : posOf plan k ≠ p := fun e => by rw [hn k o ho e] at hk; cases hk
    rw [h1]; omega
  rcases hS.step hp hn with e | ⟨j, B, hj, hB⟩
  · refine ⟨hhv, by rw [e]; exact h.core, fun l B h1 h2 h3 => h.early l B h1 (by omega) h3, fun b hb => ?_, h.inj⟩
    rw [e]
    rcases h.dom b hb with h1 | ⟨l, B, h1, h2, h3, h4⟩
    · exact .inl h1
    · refine .inr ⟨l, B, h1, ?_, h3, h4⟩
      refine Decidable.byContradiction fun hc => ?_
      have := h3.next
      rw [show posOf plan l = p by omega] at this
      rw [e] at this
      omega
  · have hT := ha j B hj hB
    obtain ⟨hid, cb, cs, e1, e2, e3, e4⟩ := h.early j B hT (by omega) hB
    have hBn := hB.next
    obtain ⟨o, ho, _, _, hsm, hm⟩ := id hB
    rw [hj] at hid e1 e3 hsm hm hBn
    have hle := Γ.below_le (N := (S p).mem.next) (M := (S p).mem.next + 1) (by omega)
    refine ⟨hhv, ?_, fun l B h1 h2 h3 => h.early l B h1 (by omega) h3, fun b hb => ?_, h.inj⟩
    · rw [hm]
      show MemR (Γ.below ((S p).mem.next + 1)) _ w
      refine ⟨fun b => ?_, by show (S p).mem.next + 1 ≤ _; omega, fun b hg hgC hb => ?_, fun b cap q hb => ?_, fun b B' hb => ?_, fun b b' i i' hb hb' hi hi' he => ?_, fun b o v hv => h.core.ro b o v hv⟩
      · show Γ.dom b ∧ b < (S p).mem.next + 1 ↔ b < (S p).mem.next + 1
        refine ⟨fun hb => hb.2, fun hb => ⟨?_, hb⟩⟩
        by_cases hx : b < (S p).mem.next
        · exact h.domLt hx
        · rw [show b = (S p).mem.next by omega]; exact hid
      · rw [get_add _ _ hsm] at hg
        rw [getC_add _ _ hsm] at hgC
        have hb : b < (S p).mem.next + 1 := hb
        split at hg
        · cases hg
        · rename_i hne
          rw [if_neg hne] at hgC
          exact h.core.gone b hg hgC (by omega)
      · rw [getC_add _ _ hsm] at hb
        split at hb
        · cases hb
        · obtain ⟨h1, cb', buf, s, r, h2, h3, h4⟩ := h.core.chan b cap q hb
          exact ⟨by show b < (S p).mem.next + 1; omega, cb', buf, s, r, h2, h3, VRs.mono hle _ _ h4⟩
      · rw [get_add _ _ hsm] at hb
        split at hb
        · rename_i hbe
          subst hbe
          simp only [Option.some.injEq] at hb
          subst hb
          exact ⟨by show _ < (S p).mem.next + 1; omega, cb, cs, e1, e2, e3.1, e3.2, fun i _ => e4 i⟩
        · obtain ⟨h1, cb', cs', h2, h3, h4, h5, h6⟩ := h.core.blk b B' hb
          refine ⟨by show b < (S p).mem.next + 1; omega, cb', cs', h2, h3, h4, fun i a ha' => ?_, h6⟩
          obtain ⟨v, k1, k2, k3⟩ := h5 i a ha'
          exact ⟨v, k1, VR.mono hle a v k2, k3⟩
      · have hd : ∀ b, b < (S p).mem.next + 1 → Γ.dom b := fun b hx => by
          by_cases hx' : b < (S p).mem.next
          · exact h.domLt hx'
          · rw [show b = (S p).mem.next by omega]; exact hid
        exact h.inj b b' i i' (hd b hb) (hd b' hb') hi hi' he
    · rcases h.dom b hb with h1 | ⟨l, B', h1, h2, h3, h4⟩
      · left; omega
      · by_cases e : posOf plan l = p
        · left; rw [h4, e]; omega
        · exact .inr ⟨l, B', h1, by omega, h3, h4⟩

theorem MI.adv (h : MI ops plan S T p Γ w) {q : Nat} (hpq : p ≤ q) (hq : q ≤ plan.length) (hn : ∀ j o, ops[j]? = some o → p ≤ posOf plan j → posOf plan j < q → isHeavy o.op = false)
    (ha : ∀ j B, posOf plan j < q → Alloc ops plan S j B → T j) : MI ops plan S T q Γ w := by
  induction q with
  | zero => rwa [show p = 0 by omega] at h
  | succ q ih =>
    by_cases e : p = q + 1
    · rwa [← e]
    · exact (ih (by omega) (by omega) (fun j o ho h1 h2 => hn j o ho h1 (by omega)) (fun j B h1 h2 => ha j B (by omega) h2)).adv1 hS (by omega) (fun j o ho hj => hn j o ho (by omega) (by omega)) (fun j B hj hB => ha j B (by omega) hB)

omit hS in
/-- An operation that changes no memory has run. -/
theorem MI.more (h : MI ops plan S T p Γ w) {i : Nat} {o : Oper} (ho : ops[i]? = some o) (hh : isHeavy o.op = false) (hm : ∀ B, ¬ Alloc ops plan S i B) : MI ops plan S (fun k => k = i ∨ T k) p Γ w := by
  refine ⟨fun k ok hk hhk => ?_, h.core, fun l B hl h1 h2 => ?_, fun b hb => ?_, h.inj⟩
  · rw [← h.hv k ok hk hhk]
    refine ⟨fun hc => hc.resolve_left fun e => ?_, .inr⟩
    subst e
    rw [ho] at hk
    cases hk
    rw [hh] at hhk; cases hhk
  · rcases hl with rfl | hl
    · exact absurd h2 (hm B)
    · exact h.early l B hl h1 h2
  · rcases h.dom b hb with h1 | ⟨l, B, h1, h2, h3, h4⟩
    · exact .inl h1
    · exact .inr ⟨l, B, .inr h1, h2, h3, h4⟩

/-- What a load sees, where nothing was written since. -/
theorem MI.view (h : MI ops plan S T p Γ w) {q : Nat} (hpq : p ≤ q) (hq : q ≤ plan.length) (hn : ∀ j o, ops[j]? = some o → isHeavy o.op = true → ¬ (p ≤ posOf plan j ∧ posOf plan j < q)) : MemV Γ (S q).mem w := by
  obtain ⟨Γr, ar, wr, hr⟩ := hS.ref hq
  refine ⟨fun b B hb hg => ?_, fun b o v hv => h.core.ro b o v hv⟩
  have hbq := (hr.mem.blk b B hg).1
  rcases h.dom b hb with h1 | ⟨l, B', h1, h2, h3, h4⟩
  · rw [hS.keep hpq hq hn h1] at hg
    obtain ⟨_, cb, cs, k1, k2, k3, k4, _⟩ := h.core.blk b B hg
    exact ⟨cb, cs, k1, k2, k3, fun i a ha => by obtain ⟨v, j1, j2, j3⟩ := k4 i a ha; exact ⟨v, j1, VR.mono (Γ.below_le_self _) a v j2, j3⟩⟩
  · subst h4
    obtain ⟨_, cb, cs, k1, k2, k3, _⟩ := h.early l B' h1 h2 h3
    have hlq : posOf plan l < q := Decidable.byContradiction fun hc => by
      obtain ⟨o, ho, _⟩ := id h3
      have := hS.next (p := q) (q := posOf plan l) (by omega) (by have := (hS.posLt ho).1; omega)
      omega
    have hB : B = B' := by
      rw [hS.keep (p := posOf plan l + 1) (by omega) hq (fun j o ho hh hc => hn j o ho hh ⟨by omega, hc.2⟩) (by have := h3.next; omega)] at hg
      obtain ⟨o, ho, _, _, hsm, hm⟩ := id h3
      rw [hm, get_add _ _ hsm, if_pos rfl] at hg
      simpa using hg.symm
    subst hB
    exact ⟨cb, cs, k1, k2, k3.1, fun i a ha => by obtain ⟨v, j1, j2, j3⟩ := k3.2 i a ha; exact ⟨v, j1, VR.mono (Γ.below_le_self _) a v j2, j3⟩⟩
end
end Go.V
end

section
/-
  A block made, a write or a call made, while a plan's operations run in another order.
-/
namespace Go.V

section
variable {E : Env} {Γ0 : Ctx} {call : CallFn} {ops : List Oper} {plan : List RStep} {S : Nat → St} {Γ : Ctx} {w : World} {T : Nat → Prop} {p : Nat}
variable (hS : Trace E Γ0 call ops plan S)
include hS

theorem MI.fresh (h : MI ops plan S T p Γ w) {i : Nat} (hi : ¬ T i) {B : Block} (hB : Alloc ops plan S i B) (hp : p ≤ posOf plan i) : ¬ Γ.dom (S (posOf plan i)).mem.next := by
  obtain ⟨o, ho, _⟩ := id hB
  have hlt := (hS.posLt ho).1
  intro hd
  rcases h.dom _ hd with h1 | ⟨l, B', h1, h2, h3, h4⟩
  · have := hS.next hp (by omega); omega
  · exact hi (hS.id_inj hB h3 h4 ▸ h1)

theorem MI.new (h : MI ops plan S T p Γ w) {i : Nat} (hi : ¬ T i) {B : Block} (hB : Alloc ops plan S i B) (hp : p ≤ posOf plan i) {cs : Array Value} (hr : VRs Γ B.cells cs.toList) (h1 : ∀ u ∈ cs.toList, u.oneCell' = true) :
    Γ.le (Γ.set (S (posOf plan i)).mem.next ⟨B.cells.length, w.heap.size, cs.size⟩) ∧
    Step Γ w (Γ.set (S (posOf plan i)).mem.next ⟨B.cells.length, w.heap.size, cs.size⟩) (w.alloc (.cells cs B.ty)) ∧
    MI ops plan S (fun k => k = i ∨ T k) p (Γ.set (S (posOf plan i)).mem.next ⟨B.cells.length, w.heap.size, cs.size⟩) (w.alloc (.cells cs B.ty)) := by
  have hfr := h.fresh hS hi hB hp
  obtain ⟨o, ho, hhv, _, hsm, hm⟩ := id hB
  have hlt := (hS.posLt ho).1
  have hnext := hS.next hp (by omega)
  generalize hid : (S (posOf plan i)).mem.next = id at *
  have hne : ∀ b, Γ.dom b → b ≠ id := fun b hb e => hfr (e ▸ hb)
  have hblk : ∀ b, Γ.dom b → (Γ.set id ⟨B.cells.length, w.heap.size, cs.size⟩).blk b = Γ.blk b := fun b hb => by simp [Ctx.set, hne b hb]
  have hle : Γ.le (Γ.set id ⟨B.cells.length, w.heap.size, cs.size⟩) := ⟨fun b hb => .inr hb, fun b j hb hj => ⟨j, by rw [← hblk b hb]; exact hj, .inl rfl⟩, fun _ _ _ hv => hv, rfl⟩
  have hleN : ∀ N, (Γ.below N).le ((Γ.set id ⟨B.cells.length, w.heap.size, cs.size⟩).below N) := fun N => ⟨fun b hb => ⟨.inr hb.1, hb.2⟩, fun b j hb hj => ⟨j, by have := hblk b hb.1; exact this ▸ hj, .inl rfl⟩, fun _ _ _ hv => hv, rfl⟩
  have hold : ∀ k, k < w.heap.size → (w.alloc (.cells cs B.ty)).heap[k]? = w.heap[k]? := fun k hk => Go.RowKit.Below.heap_alloc w _ k hk
  refine ⟨hle, ⟨hle, rfl, rfl, rfl, by simp, fun k hk _ => hold k hk, fun b j hb hj hlt => ?_, fun _ _ _ h => .inl h⟩, ⟨fun k ok hk hhk => ?_, ?_, fun l B' hl h2 h3 => ?_, fun b hb => ?_, fun b b' j j' hb hb' hj hj' he => ?_⟩⟩
  · rcases hb with rfl | hb
    · simp only [Ctx.set, if_true, Option.some.injEq] at hj
      subst hj
      simp at hlt
    · exact ⟨b, j, hb, by rw [← hblk b hb]; exact hj, rfl⟩
  · rw [← h.hv k ok hk hhk]
    refine ⟨fun hc => hc.resolve_left fun e => ?_, .inr⟩
    subst e
    rw [ho] at hk
    cases hk
    rw [hhv] at hhk; cases hhk
  · refine h.core.to (fun b => ⟨fun hb => ⟨.inr hb.1, hb.2⟩, fun hb => ?_⟩) (fun b hb => hblk b hb.1) rfl hold
    have hbl : b < (S p).mem.next := hb.2
    exact ⟨h.domLt hbl, hbl⟩
  · rcases hl with rfl | hl
    · rw [hid]
      refine ⟨.inl rfl, w.heap.size, cs, ?_⟩
      have hBB : B' = B := by
        obtain ⟨_, _, _, _, _, hm'⟩ := h3
        rw [hm'] at hm
        have e1 := congrArg (fun m => Mem.get m id) hm
        rw [get_add _ _ (by omega), get_add _ _ (by omega), if_pos hid.symm, if_pos hid.symm] at e1
        simpa using e1
      subst hBB
      refine ⟨by simp [Ctx.set], heap_alloc_new w _, ?_, fun k => ?_⟩
      · obtain ⟨Γr, ar, wr, href⟩ := hS.ref (p := posOf plan l + 1) (by omega)
        obtain ⟨_, cb, cs', _, _, _, e5, _⟩ := href.mem.blk id B' (by rw [hm, get_add _ _ (by omega), if_pos hid.symm])
        have hdl : ∀ b, Γr.dom b → b < id + 1 := fun b hb => by have := (href.mem.dom b).1 hb; have := hB.next; omega
        refine ⟨by have := hr.length; simp at this; omega, fun k a ha => ?_⟩
        obtain ⟨v, hv, hvr⟩ := hr.get ha
        obtain ⟨u, _, hur, _⟩ := e5 k a ha
        refine ⟨v, by simpa using hv, ?_, h1 v (List.mem_of_getElem? hv)⟩
        exact VR.mono (hleN _) a v (VR.below hdl a v u hvr hur)
      · cases hv : Γ.ro w.heap.size k with
        | none => exact hv
        | some v => have := h.core.ro_lt hv; omega
    · obtain ⟨hd, cb, cs', e1, e2, e3, e4⟩ := h.early l B' hl h2 h3
      exact ⟨.inr hd, cb, cs', by rw [hblk _ hd]; exact e1, by rw [hold cb (Array.getElem?_eq_some_iff.1 e2).1]; exact e2, e3.mono (hleN _), e4⟩
  · rcases hb with rfl | hb
    · exact .inr ⟨i, B, .inl rfl, hp, hB, hid.symm⟩
    · rcases h.dom b hb with h1 | ⟨l, B', h1, h2, h3, h4⟩
      · exact .inl h1
      · exact .inr ⟨l, B', .inr h1, h2, h3, h4⟩
  · rcases hb with rfl | hb <;> rcases hb' with rfl | hb'
    · rfl
    · rw [hblk b' hb'] at hj'
      simp only [Ctx.set, if_true, Option.some.injEq] at hj
      subst hj
      have := h.early_size hb' hj'
      simp at he; omega
    · rw [hblk b hb] at hj
      simp only [Ctx.set, if_true, Option.some.injEq] at hj'
      subst hj'
      have := h.early_size hb hj
      simp at he; omega
    · rw [hblk b hb] at hj
      rw [hblk b' hb'] at hj'
      exact h.inj b b' j j' hb hb' hj hj' he

theorem MI.heavy {i : Nat} (h : MI ops plan S T (posOf plan i) Γ w) {o : Oper} (ho : ops[i]? = some o) (hh : isHeavy o.op = true) (hi : ¬ T i) {Δ : Ctx} {w' : World}
    (hle : (Γ.below (S (posOf plan i)).mem.next).le Δ) (hst : Step (Γ.below (S (posOf plan i)).mem.next) w Δ w') (hm : MemR Δ (S (posOf plan i + 1)).mem w') :
    ∃ Γ', Γ.le Γ' ∧ Δ.le Γ' ∧ Step Γ w Γ' w' ∧ MI ops plan S (fun k => k = i ∨ T k) (posOf plan i + 1) Γ' w' := by
  have hlt := (hS.posLt ho).1
  generalize hN : (S (posOf plan i)).mem.next = N at *
  generalize hM : (S (posOf plan i + 1)).mem.next = M at *
  have hNM : N ≤ M := by have := hS.next1 hlt; omega
  have hearly : ∀ l B, T l → posOf plan i ≤ posOf plan l → Alloc ops plan S l B → posOf plan i + 1 ≤ posOf plan l ∧ M ≤ (S (posOf plan l)).mem.next := fun l B h1 h2 h3 => by
    obtain ⟨ol, hol, _⟩ := id h3
    have hne : posOf plan i ≠ posOf plan l := fun e => hi (hS.posInj ho hol e ▸ h1)
    have := hS.next (p := posOf plan i + 1) (q := posOf plan l) (by omega) (by have := (hS.posLt hol).1; omega)
    exact ⟨by omega, by omega⟩
  have hΔ : ∀ b, Δ.dom b ↔ b < M := fun b => by rw [← hM]; exact hm.dom b
  have hΓN : ∀ b, b < N → Γ.dom b := fun b hb => h.domLt (by omega)
  have hcase : ∀ b, Γ.dom b → b < N ∨ M ≤ b := fun b hb => by
    rcases h.dom b hb with h1 | ⟨l, B, h1, h2, h3, h4⟩
    · left; omega
    · right; rw [h4]; exact (hearly l B h1 h2 h3).2
  let Γ' : Ctx := { blk := fun b => if b < M then Δ.blk b else Γ.blk b, dom := fun b => b < M ∨ Γ.dom b, ro := Δ.ro, inp := Δ.inp }
  have b1 : ∀ b, b < M → Γ'.blk b = Δ.blk b := fun b hb => by simp [Γ', hb]
  have b2 : ∀ b, ¬ b < M → Γ'.blk b = Γ.blk b := fun b hb => by simp [Γ', hb]
  have hle1 : Δ.le Γ' := ⟨fun b hb => .inl ((hΔ b).1 hb), fun b j hb hj => ⟨j, by rw [← b1 b ((hΔ b).1 hb)]; exact hj, .inl rfl⟩, fun _ _ _ hv => hv, rfl⟩
  have hle0 : Γ.le Γ' := by
    refine ⟨fun b hb => .inr hb, fun b j hb hj => ?_, fun c o v hv => hle.ro c o v hv, hle.inp⟩
    rcases hcase b hb with h1 | h1
    · rw [b1 b (by omega)] at hj
      exact hle.blk b j ⟨hb, h1⟩ hj
    · rw [b2 b (by omega)] at hj
      exact ⟨j, hj, .inl rfl⟩
  have hleK : ∀ K, (Γ.below K).le (Γ'.below K) := fun K => ⟨fun b hb => ⟨.inr hb.1, hb.2⟩, fun b j hb hj => hle0.blk b j hb.1 hj, hle0.ro, hle0.inp⟩
  -- a block of the later memory and one that is ahead of its place never share a cell
  have hdis : ∀ b j b' j', b < M → Δ.blk b = some j → ¬ b' < M → Γ.dom b' → Γ.blk b' = some j' → j.cb ≠ j'.cb := fun b j b' j' hb hj hb' hd' hj' e => by
    have hsz := h.early_size hd' hj'
    obtain ⟨c, k, hc, hk, hce⟩ := hst.own b j ((hΔ b).2 hb) hj (by omega)
    have hcN : c < N := hc.2
    have := h.inj c b' k j' hc.1 hd' hk hj' (hce.trans e)
    omega
  refine ⟨Γ', hle0, hle1, ⟨hle0, hst.os, hst.tape, hst.output, hst.size, fun k hk hn => hst.frame k hk fun b j hb hj => hn b j hb.1 hj, fun b j hb hj hsz => ?_, fun c o v hv => ?_⟩, ⟨fun k ok hk hhk => ?_, ?_, fun l B hl h2 h3 => ?_, fun b hb => ?_, fun b b' j j' hb hb' hj hj' he => ?_⟩⟩
  · by_cases hbM : b < M
    · rw [b1 b hbM] at hj
      obtain ⟨c, k, hc, hk, hce⟩ := hst.own b j ((hΔ b).2 hbM) hj hsz
      exact ⟨c, k, hc.1, hk, hce⟩
    · rw [b2 b hbM] at hj
      exact ⟨b, j, hb.resolve_left hbM, hj, rfl⟩
  · rcases hst.roNew c o v hv with h1 | h1 | ⟨b, j, h1, h2, h3⟩
    · exact .inl h1
    · exact .inr (.inl h1)
    · exact .inr (.inr ⟨b, j, h1.1, h2, h3⟩)
  · have h1 := h.hv k ok hk hhk
    constructor
    · rintro (rfl | hc)
      · omega
      · have := h1.1 hc; omega
    · intro hc
      by_cases e : posOf plan k = posOf plan i
      · exact .inl (hS.posInj hk ho e)
      · exact .inr (h1.2 (by omega))
  · rw [hM]
    refine hm.to (fun b => ?_) (fun b hb => b1 b ((hΔ b).1 hb)) rfl (fun _ _ => rfl)
    rw [hΔ b]
    exact ⟨fun hb => ⟨.inl hb, hb⟩, fun hb => hb.2⟩
  · have hl : T l := hl.resolve_left fun e => by
      subst e
      obtain ⟨ol, hol, hol2, _⟩ := h3
      rw [ho] at hol; cases hol
      rw [hh] at hol2; cases hol2
    have hge := (hearly l B hl (by omega) h3).2
    obtain ⟨hd, cb, cs', e1, e2, e3, e4⟩ := h.early l B hl (by omega) h3
    have hsz := h.early_size hd e1
    refine ⟨.inr hd, cb, cs', by rw [b2 _ (by omega)]; exact e1, ?_, e3.mono (hleK _), fun k => ?_⟩
    · rw [hst.frame cb hsz (fun b j hb hj e => ?_)]
      · exact e2
      · have hbN : b < N := hb.2
        have := h.inj b _ j _ hb.1 hd hj e1 e
        omega
    · refine Option.eq_none_iff_forall_not_mem.2 fun v hv => ?_
      · have hv : Δ.ro cb k = some v := hv
        rcases hst.roNew cb k v hv with h1 | h1 | ⟨b, j, h1, h2, h3⟩
        · have : Γ.ro cb k = some v := h1
          rw [e4 k] at this; cases this
        · simp at hsz; omega
        · have hbN : b < N := h1.2
          have := h.inj b _ j _ h1.1 hd h2 e1 h3
          omega
  · by_cases hbM : b < M
    · left; omega
    · rcases h.dom b (hb.resolve_left hbM) with h1 | ⟨l, B, h1, h2, h3, h4⟩
      · omega
      · exact .inr ⟨l, B, .inr h1, (hearly l B h1 h2 h3).1, h3, h4⟩
  · by_cases hbM : b < M <;> by_cases hbM' : b' < M
    · rw [b1 b hbM] at hj
      rw [b1 b' hbM'] at hj'
      exact hm.inj b b' j j' (by omega) (by omega) hj hj' he
    · rw [b1 b hbM] at hj
      rw [b2 b' hbM'] at hj'
      exact absurd he (hdis b j b' j' hbM hj hbM' (hb'.resolve_left hbM') hj')
    · rw [b2 b hbM] at hj
      rw [b1 b' hbM'] at hj'
      exact absurd he.symm (hdis b' j' b j hbM' hj' hbM (hb.resolve_left hbM) hj)
    · rw [b2 b hbM] at hj
      rw [b2 b' hbM'] at hj'
      exact h.inj b b' j j' (hb.resolve_left hbM) (hb'.resolve_left hbM') hj hj' he
end
end Go.V
end

section
/-
  Slots while a plan's operations run in another order; and what a plan's checks say.
-/
namespace Go.V

mutual
theorem AVal.same_ok : ∀ (a b : AVal), AVal.same a b = true → a = b
  | .any, b, h => by cases b <;> simp [AVal.same] at h
  | .opq _, b, h => by cases b <;> simp [AVal.same] at h
  | .one, b, h => by cases b <;> simp [AVal.same] at h
  | .chan _, b, h => by cases b <;> simp [AVal.same] at h
  | .bool x, b, h => by cases b <;> simp [AVal.same] at h; rw [h]
  | .int k x, b, h => by cases b <;> simp [AVal.same] at h; rw [h.1, h.2]
  | .str x, b, h => by
    cases b <;> simp [AVal.same] at h
    rename_i y
    rw [show x = y from ByteArray.ext (Array.toList_inj.1 (by simpa using h))]
  | .nilp, b, h => by cases b <;> simp [AVal.same] at h; rfl
  | .ptr x y z, b, h => by cases b <;> simp [AVal.same, nbeq] at h; simp [h]
  | .iptr xs, b, h => by
    cases b <;> simp [AVal.same] at h
    rw [AVal.sames_ok _ _ h]
  | .nil s, b, h => by cases b <;> simp [AVal.same] at h; rw [h]
  | .ref .., b, h => by cases b <;> simp [AVal.same, nbeq] at h; simp [h]
  | .imm xs n, b, h => by
    cases b <;> simp [AVal.same, nbeq] at h
    rw [AVal.sames_ok _ _ h.2, h.1]
  | .nilf, b, h => by cases b <;> simp [AVal.same] at h; rfl
  | .fn f xs ys, b, h => by
    cases b <;> simp [AVal.same, nbeq] at h
    rw [AVal.sames_ok _ _ h.1.2, AVal.sames_ok _ _ h.2, h.1.1]
  | .agg xs, b, h => by
    cases b <;> simp [AVal.same] at h
    rw [AVal.sames_ok _ _ h]
  | .tup xs, b, h => by
    cases b <;> simp [AVal.same] at h
    rw [AVal.sames_ok _ _ h]
theorem AVal.sames_ok : ∀ (a b : List AVal), AVal.sames a b = true → a = b
  | [], b, h => by cases b <;> simp [AVal.sames] at h; rfl
  | x :: xs, b, h => by
    cases b <;> simp [AVal.sames] at h
    rw [AVal.same_ok _ _ h.1, AVal.sames_ok _ _ h.2]
end

structure SI (ops : List Oper) (plan : List RStep) (S : Nat → St) (T : Nat → Prop) (Γ : Ctx) (a : Act) : Prop where
  at_ : ∀ j o d, T j → ops[j]? = some o → o.dst = some d → VR Γ ((S (posOf plan j + 1)).slot d) (a.tmps.getD d undef)
  no : ∀ d, (∀ j o, T j → ops[j]? = some o → o.dst ≠ some d) → VR Γ ((S 0).slot d) (a.tmps.getD d undef)
  nt : a.tmps.size = (S 0).nt
  defers : a.defers = []

section
variable {E : Env} {Γ0 : Ctx} {call : CallFn} {ops : List Oper} {plan : List RStep} {S : Nat → St} {Γ Δ : Ctx} {w : World} {T : Nat → Prop} {p i : Nat} {a : Act} {o : Oper}

theorem SI.mono (h : SI ops plan S T Γ a) (hl : Γ.le Δ) : SI ops plan S T Δ a :=
  ⟨fun j o d h1 h2 h3 => VR.mono hl _ _ (h.at_ j o d h1 h2 h3), fun d hd => VR.mono hl _ _ (h.no d hd), h.nt, h.defers⟩

theorem getD_put (a : Act) (dst : Option Nat) (q : Value) (d : Nat) (hlt : ∀ d, dst = some d → d < a.tmps.size) : (a.put dst q).tmps.getD d undef = if dst = some d then q else a.tmps.getD d undef := by
  cases dst with
  | none => simp [Act.put]
  | some d' =>
    have h1 := hlt d' rfl
    by_cases e : d' = d
    · subst e; simp [Act.put, h1]
    · rw [if_neg (by simpa using e)]
      simp [Act.put, Array.getElem?_setIfInBounds_ne e]

variable (hS : Trace E Γ0 call ops plan S)
include hS

theorem Trace.dst_lt (ho : ops[i]? = some o) {d : Nat} (hd : o.dst = some d) : d < (S 0).nt := by
  obtain ⟨s, v, h1, h2, h3⟩ := runOp_put (hS.stepAt ho)
  rw [hd] at h3
  have := St.put_lt h3
  rw [h2, hS.fields (by have := (hS.posLt ho).1; omega)] at this
  exact this

theorem Trace.dst_ne {x y : Nat} {ox oy : Oper} (hx : ops[x]? = some ox) (hy : ops[y]? = some oy) {d : Nat} (hd : ox.dst = some d) (hd' : oy.dst = some d) : x = y := by
  refine Decidable.byContradiction fun hne => ?_
  have := (hS.pair hx hy).2
  simp only [slotOk, hd, nbeq, hne, decide_false, cond_false, Bool.and_eq_true] at this
  rw [hd'] at this
  simp at this

theorem SI.put (h : SI ops plan S T Γ a) (ho : ops[i]? = some o) (hi : ¬ T i) {q : Value} (hq : ∀ d, o.dst = some d → VR Γ ((S (posOf plan i + 1)).slot d) q) : SI ops plan S (fun k => k = i ∨ T k) Γ (a.put o.dst q) := by
  have hlt : ∀ d, o.dst = some d → d < a.tmps.size := fun d hd => by rw [h.nt]; exact hS.dst_lt ho hd
  refine ⟨fun j oj d hj hoj hd => ?_, fun d hd => ?_, by rw [← h.nt]; cases o.dst <;> simp [Act.put], by rw [← h.defers]; cases o.dst <;> rfl⟩
  · rw [getD_put a o.dst q d hlt]
    by_cases e : o.dst = some d
    · rw [if_pos e]
      have := hS.dst_ne hoj ho hd e
      subst this
      exact hq d e
    · rw [if_neg e]
      rcases hj with rfl | hj
      · rw [ho] at hoj; cases hoj; exact absurd hd e
      · exact h.at_ j oj d hj hoj hd
  · rw [getD_put a o.dst q d hlt, if_neg (hd i o (.inl rfl) ho)]
    exact h.no d fun j oj hj => hd j oj (.inr hj)

/-- What an operation that may run next reads. -/
theorem SI.read (h : SI ops plan S T Γ a) (hcl : Closed ops T) (hcl' : Closed ops (fun k => k = i ∨ T k)) (ho : ops[i]? = some o) (hi : ¬ T i) {d : Nat} (hd : d ∈ readsOf ops o) : VR Γ ((S (posOf plan i)).slot d) (a.tmps.getD d undef) := by
  have hlt := (hS.posLt ho).1
  have hc : (readsOf ops o).contains d = true := by simpa using hd
  by_cases hw : ∃ j oj, T j ∧ ops[j]? = some oj ∧ oj.dst = some d
  · obtain ⟨j, oj, hj, hoj, hdj⟩ := hw
    have hne : j ≠ i := fun e => hi (e ▸ hj)
    have hs := (hS.pair hoj ho).2
    simp only [slotOk, hdj, nbeq, hne, decide_false, cond_false, hc, Bool.and_eq_true, Bool.or_eq_true, Bool.not_true, Bool.false_eq_true, false_or] at hs
    have hanc : isAnc (ancs ops) j i = true := by
      rcases hs.2 with h1 | h1
      · exact h1
      · exact absurd (isAnc_ok hcl h1.2 hj) hi
    have hpos := hS.ancPos hanc hne
    rw [hS.slot (p := posOf plan j + 1) (q := posOf plan i) (by omega) (by omega) (fun k ok hk hkd hc => by have := hS.dst_ne hoj hk hdj hkd; subst this; omega)]
    exact h.at_ j oj d hj hoj hdj
  · rw [hS.slot (p := 0) (q := posOf plan i) (by omega) (by omega) (fun k ok hk hkd hc' => ?_)]
    · exact h.no d fun j oj hj hoj hdj => hw ⟨j, oj, hj, hoj, hdj⟩
    · by_cases e : k = i
      · subst e; omega
      · have hs := (hS.pair hk ho).2
        simp only [slotOk, hkd, nbeq, e, decide_false, cond_false, hc, Bool.and_eq_true, Bool.or_eq_true, Bool.not_true, Bool.false_eq_true, false_or] at hs
        rcases hs.2 with h1 | h1
        · rcases isAnc_ok hcl' h1 (.inl rfl) with h2 | h2
          · exact e h2
          · exact hw ⟨k, ok, h2, hk, hkd⟩
        · have := hS.ancPos h1.2 (fun x => e x.symm); omega

omit hS in
theorem mem_reads_op {t : Nat} (h : Operand.tmp t ∈ o.op.operands.toList) : t ∈ readsOf ops o := by
  unfold readsOf Oper.looksAt
  exact List.mem_append_left _ (List.mem_filterMap.2 ⟨_, h, rfl⟩)

omit hS in
theorem mem_reads_guard {j d : Nat} {want : Bool} (h : o.guard = some (j, want)) (hd : (ops.toArray[j]?).bind (·.dst) = some d) : d ∈ readsOf ops o := by
  unfold readsOf Oper.looksAt
  refine List.mem_append_right _ ?_
  simp only [h, hd]
  simp

theorem SI.ev (h : SI ops plan S T Γ a) (hcl : Closed ops T) (hcl' : Closed ops (fun k => k = i ∨ T k)) (ho : ops[i]? = some o) (hi : ¬ T i) {x : Operand} (hx : x ∈ o.op.operands.toList) : VR Γ ((S (posOf plan i)).ev x) (a.eval x) := by
  cases x with
  | tmp t => exact h.read hS hcl hcl' ho hi (mem_reads_op hx)
  | const v => exact VR_ofConst Γ v
  | global g => simp [St.ev, VR]
  | func f => simp only [St.ev, Act.eval, VR]; exact ⟨_, _, rfl, by simp [VRs], by simp [VRs]⟩

/-- Behind a load nothing writes what it reads, nor its own slot. -/
theorem Trace.loadKeep (ho : ops[i]? = some o) (hl : isLoad o.op = true) {q d : Nat} (hq : posOf plan i ≤ q) (hq' : q ≤ plan.length) (hd : d ∈ readsOf ops o) : (S q).slot d = (S (posOf plan i)).slot d := by
  have hc : (readsOf ops o).contains d = true := by simpa using hd
  refine hS.slot hq hq' fun k ok hk hkd hc' => ?_
  by_cases e : k = i
  · subst e
    rw [ho] at hk; cases hk
    have hs := (hS.pair ho ho).2
    simp only [slotOk, hkd, nbeq, decide_true, cond_true, hl, hc] at hs
    simp at hs
  · have hs := (hS.pair hk ho).2
    simp only [slotOk, hkd, nbeq, e, decide_false, cond_false, hc, hl, Bool.and_eq_true, Bool.or_eq_true, Bool.not_true, Bool.false_eq_true, false_or, false_and, or_false] at hs
    have := hS.ancPos hs.2 e
    omega

theorem Trace.dstKeep (ho : ops[i]? = some o) {q d : Nat} (hq : posOf plan i + 1 ≤ q) (hq' : q ≤ plan.length) (hd : o.dst = some d) : (S q).slot d = (S (posOf plan i + 1)).slot d :=
  hS.slot hq hq' fun k ok hk hkd hc' => by have := hS.dst_ne ho hk hd hkd; subst this; omega

theorem Trace.chk {l : List RStep} : ∀ {q : Nat}, plan.drop q = l → (chksOf l).contains i = true → stepP E call ops (.chk i) (S q) = some (S q) := by
  induction l with
  | nil => intro q _ h; simp [chksOf] at h
  | cons x l ih =>
    intro q hq h
    have hx : plan[q]? = some x := by
      have := congrArg (fun l => l[0]?) hq
      simpa using this
    have ht := hS.tr q x hx
    cases x with
    | run j => simp [chksOf] at h
    | chk j =>
      have e := stepP_chk ht
      simp only [chksOf, List.contains_cons, Bool.or_eq_true, beq_iff_eq] at h
      rcases h with rfl | h
      · rw [e] at ht; exact ht
      · have := ih (q := q + 1) (by rw [← List.drop_drop, hq]; rfl) h
        rwa [e] at this

omit hS in
theorem chk_says {st : St} (ho : ops[i]? = some o) (h : stepP E call ops (.chk i) st = some st) (hw : wanted ops st o = some true) : ∃ d, o.dst = some d ∧ light E st.mem st.ev o.op = some (.val (st.slot d)) := by
  simp only [stepP, runPlan, ho, hw] at h
  split at h
  · rename_i v d hv hd
    simp only [cond_eq_ite] at h
    split at h
    · rename_i hs
      exact ⟨d, hd, by rw [hv, AVal.same_ok _ _ hs]⟩
    · cases h
  · cases h

omit hS in
theorem wanted_congr {st st' : St} (h : ∀ d ∈ readsOf ops o, st.slot d = st'.slot d) : wanted ops st o = wanted ops st' o := by
  unfold wanted
  cases hg : o.guard with
  | none => rfl
  | some g =>
    obtain ⟨j, want⟩ := g
    simp only
    cases hj : ops[j]? with
    | none => rfl
    | some oj =>
      cases hd : oj.dst with
      | none => cases oj; simp at hd; subst hd; rfl
      | some d =>
        have := h d (mem_reads_guard hg (by simp [hj, hd]))
        cases oj; simp at hd; subst hd
        simp only [this]

omit hS in
theorem pair_lt {x y : Nat} {ox oy : Oper} {A : List (List Nat)} (h : pairOk ops plan A x y ox oy = true) (hlt : posOf plan x < posOf plan y) :
    (isHeavy oy.op = true → isHeavy ox.op = true ∨ isNew ox.op = true → isAnc A x y = true) ∧ (isHeavy ox.op = true → isLoad oy.op = true → isAnc A x y = true) ∧
    (isHeavy oy.op = true → isLoad ox.op = true → isAnc A x y = true ∨ (chksOf (plan.drop (posOf plan y + 1))).contains x = true) := by
  simp only [pairOk, nblt, hlt, decide_true, Bool.not_true, Bool.false_or, Bool.and_eq_true] at h
  obtain ⟨⟨h1, h2⟩, h3⟩ := h
  refine ⟨fun e1 e2 => ?_, fun e1 e2 => ?_, fun e1 e2 => ?_⟩
  · simp only [e1] at h1
    rcases e2 with e2 | e2 <;> simp [e2] at h1 <;> exact h1
  · simpa [e1, e2] using h2
  · simp only [e1, e2, Bool.and_self, Bool.not_true, Bool.false_or, Bool.or_eq_true] at h3
    exact h3
end
end Go.V
end

section
/-
  A region that draws its order, run by a plan.
-/
namespace Go.V

/-- The operations whose writes are in: up to the last that writes or calls. -/
def LastH (ops : List Oper) (plan : List RStep) (T : Nat → Prop) (p : Nat) : Prop :=
  p = 0 ∨ ∃ k ok, ops[k]? = some ok ∧ isHeavy ok.op = true ∧ T k ∧ p = posOf plan k + 1

section
variable {E : Env} {Γ0 : Ctx} {call : CallFn} {ops : List Oper} {plan : List RStep} {S : Nat → St} {Γ : Ctx} {w : World} {T : Nat → Prop} {p i : Nat} {a : Act} {o : Oper}

open Classical in
/-- One operation that may run next. -/
theorem plan_op (hS : Trace E Γ0 call ops plan S) (hb : Γ0.le Γ) (h : MI ops plan S T p Γ w) (hs : SI ops plan S T Γ a) (hlast : LastH ops plan T p) (hcl : Closed ops T) (ho : ops[i]? = some o) (hi : ¬ T i) (hdeps : ∀ d ∈ deps o, T d)
    {K : Act → World → Prop} {Q : Exit → Act → World → Prop}
    (hK : ∀ p' Δ a' w', Γ.le Δ → Step Γ w Δ w' → MI ops plan S (fun k => k = i ∨ T k) p' Δ w' → SI ops plan S (fun k => k = i ∨ T k) Δ a' → LastH ops plan (fun k => k = i ∨ T k) p' → K a' w') :
    if Region.wanted o (yielded ops.toArray a.tmps) then o.wp E.P a w K Q else K (a.put o.dst undef) w := by
  have hcl' : Closed ops (fun k => k = i ∨ T k) := fun j oj hj hoj d hd => by
    rcases hj with rfl | hj
    · rw [ho] at hoj; cases hoj; exact .inr (hdeps d hd)
    · exact .inr (hcl j oj hj hoj d hd)
  have hPi := (hS.posLt ho).1
  have hrun := hS.stepAt ho
  have hsm := hS.small (p := posOf plan i) (by omega)
  have hguard : ∀ {b : Bool}, wanted ops (S (posOf plan i)) o = some b → Region.wanted o (yielded ops.toArray a.tmps) = b := fun hb =>
    wanted_slots ops o hb fun j want d hg hd => hs.read hS hcl hcl' ho hi (mem_reads_guard hg hd)
  have hanc : ∀ j, j ≠ i → isAnc (ancs ops) j i = true → T j := fun j hne hj => (isAnc_ok hcl' hj (.inl rfl)).resolve_left hne
  have hlast' : LastH ops plan (fun k => k = i ∨ T k) p := by
    rcases hlast with e | ⟨k, ok, k1, k2, k3, k4⟩
    · exact .inl e
    · exact .inr ⟨k, ok, k1, k2, .inr k3, k4⟩
  -- a heavy one waits for its place
  have hadv : isHeavy o.op = true → MI ops plan S T (posOf plan i) Γ w := fun hh => by
    have hge : p ≤ posOf plan i := by
      have := h.hv i o ho hh
      exact Decidable.byContradiction fun hc => hi (this.2 (by omega))
    refine h.adv hS hge (by omega) (fun j oj hoj h1 h2 => Bool.eq_false_iff.2 fun hj => ?_) (fun j B h1 hB => ?_)
    · have hne : j ≠ i := fun e => by subst e; omega
      have := hanc j hne ((pair_lt (hS.pair hoj ho).1 h2).1 hh (.inl hj))
      have := (h.hv j oj hoj hj).1 this
      omega
    · obtain ⟨oj, hoj, _, hnew, _⟩ := id hB
      have hne : j ≠ i := fun e => by subst e; omega
      exact hanc j hne ((pair_lt (hS.pair hoj ho).1 h1).1 hh (.inr hnew))
  have hlastH : isHeavy o.op = true → LastH ops plan (fun k => k = i ∨ T k) (posOf plan i + 1) := fun hh => .inr ⟨i, o, ho, hh, .inl rfl, rfl⟩
  -- one whose memory stays
  have hstill : isHeavy o.op = false → (S (posOf plan i + 1)).mem = (S (posOf plan i)).mem → MI ops plan S (fun k => k = i ∨ T k) p Γ w := fun hh hm =>
    h.more ho hh fun B hB => by have := hB.next; rw [hm] at this; omega
  have hrun0 := hrun
  unfold runOp at hrun
  split at hrun
  · cases hrun
  · rename_i hw
    rw [hguard hw]
    simp only [Bool.false_eq_true, if_false]
    have hmem := (St.put_fields hrun).2.2
    have hput : ∀ d, o.dst = some d → VR Γ ((S (posOf plan i + 1)).slot d) undef := fun d hd => by
      rw [St.put_slot hsm hrun d, if_pos hd]
      simp only [VR]; exact ⟨#[], rfl, by simp [VRs]⟩
    cases hh : isHeavy o.op with
    | false => exact hK p Γ _ w (.refl Γ) (.refl Γ w) (hstill hh hmem) (hs.put hS ho hi hput) hlast'
    | true =>
      obtain ⟨Γ', k1, k2, k3, k4⟩ := (hadv hh).heavy hS ho hh hi (Δ := Γ.below (S (posOf plan i)).mem.next) (w' := w) (.refl _) (.refl _ _) (by rw [hmem]; exact (hadv hh).core)
      exact hK _ Γ' _ w k1 k3 k4 ((hs.put hS ho hi hput).mono k1) (hlastH hh)
  · rename_i hw
    rw [hguard hw]
    simp only [if_true]
    generalize hρ : (fun x => if x ∈ o.op.operands.toList then (S (posOf plan i)).ev x else AVal.any) = ρ
    have hρe : ∀ x ∈ o.op.operands.toList, (S (posOf plan i)).ev x = ρ x := fun x hx => by rw [← hρ]; simp only [if_pos hx]
    have hρr : ∀ x, VR Γ (ρ x) (a.eval x) := fun x => by
      by_cases hx : x ∈ o.op.operands.toList
      · rw [← hρe x hx]; exact hs.ev hS hcl hcl' ho hi hx
      · rw [← hρ]; simp only [if_neg hx]; simp [VR]
    cases hh : isHeavy o.op with
    | true =>
      simp only [hh, cond_true] at hrun
      split at hrun
      · rename_i v m' hv
        rw [heavy_congr hρe] at hv
        have hmem : (S (posOf plan i + 1)).mem = m' := (St.put_fields hrun).2.2
        have hA := hadv hh
        obtain ⟨Γr, ar, wr, hr⟩ := hS.ref (p := posOf plan i) (by omega)
        have hρb : ∀ x, VR (Γ.below (S (posOf plan i)).mem.next) (ρ x) (a.eval x) := fun x => by
          refine VR.below (Δ := Γr) (fun b hb => (hr.mem.dom b).1 hb) (ρ x) _ (ar.eval x) (hρr x) ?_
          by_cases hx : x ∈ o.op.operands.toList
          · rw [← hρe x hx]; exact hr.ev x
          · rw [← hρ]; simp only [if_neg hx]; simp [VR]
        refine heavy_wp hS.hT hS.hC (Γ := Γ.below (S (posOf plan i)).mem.next) ⟨fun b hx => (hS.hC.dom b hx).elim, fun b _ hx _ => (hS.hC.dom b hx).elim, hb.ro, hb.inp⟩ hA.core hρb o hv (fun Δ q w' k1 k2 k3 k4 => ?_)
        obtain ⟨Γ', j1, j2, j3, j4⟩ := hA.heavy hS ho hh hi k1 k3 (by rw [hmem]; exact k4)
        refine hK _ Γ' _ w' j1 j3 j4 ((hs.mono j1).put hS ho hi fun d hd => ?_) (hlastH hh)
        rw [St.put_slot (st := { S (posOf plan i) with mem := m' }) hsm hrun d, if_pos hd]
        exact VR.mono j2 _ _ k2
      · cases hrun
    | false =>
      simp only [hh, cond_false] at hrun
      split at hrun
      · rename_i v hv
        have hmem := (St.put_fields hrun).2.2
        have hslot : ∀ d, o.dst = some d → (S (posOf plan i + 1)).slot d = v := fun d hd => by rw [St.put_slot hsm hrun d, if_pos hd]
        have fin : ∀ q, (execOp a.eval o).run E.P w = .ok (.value q) w → (∀ d, o.dst = some d → VR Γ ((S (posOf plan i + 1)).slot d) q) → o.wp E.P a w K Q := fun q hq hr => by
          unfold Oper.wp
          rw [hq, Oper.upon_value]
          exact hK p Γ _ w (.refl Γ) (.refl Γ w) (hstill hh hmem) (hs.put hS ho hi hr) hlast'
        cases hl : isLoad o.op with
        | false =>
          rw [light_congr hρe, light_still (m' := Mem.nil) hl] at hv
          obtain ⟨q, hq, hr⟩ := light_val hS.hT (m := Mem.nil) (Γ := Γ) (w := w) ⟨fun b B _ hB => by (rw [Mem.get_nil] at hB; cases hB), fun b o v hv => h.core.ro b o v hv⟩ hρr o hv
          exact fin q hq fun d hd => by rw [hslot d hd]; exact hr
        | true =>
          by_cases hp : p ≤ posOf plan i
          · rw [light_congr hρe] at hv
            have hview := h.view hS hp (by omega) (fun j oj hoj hj hc => by
              have hne : j ≠ i := fun e => by subst e; omega
              have := hanc j hne ((pair_lt (hS.pair hoj ho).1 hc.2).2.1 hj hl)
              have := (h.hv j oj hoj hj).1 this
              omega)
            obtain ⟨q, hq, hr⟩ := light_val hS.hT hview hρr o hv
            exact fin q hq fun d hd => by rw [hslot d hd]; exact hr
          · rcases hlast with e | ⟨k, ok, k1, k2, k3, k4⟩
            · omega
            · have hne : posOf plan i ≠ posOf plan k := fun e => hi (hS.posInj ho k1 e ▸ k3)
              have hPk := (hS.posLt k1).1
              have hc : (chksOf (plan.drop (posOf plan k + 1))).contains i = true := by
                rcases (pair_lt (hS.pair ho k1).1 (by omega)).2.2 k2 hl with e | e
                · exact absurd (isAnc_ok hcl e k3) hi
                · exact e
              rw [← k4] at hc
              have hchk := hS.chk rfl hc
              have hkeep : ∀ d ∈ readsOf ops o, (S p).slot d = (S (posOf plan i)).slot d := fun d hd => hS.loadKeep ho hl (by omega) (by omega) hd
              have hw' : wanted ops (S p) o = some true := by rw [wanted_congr hkeep]; exact hw
              obtain ⟨d, hd, hv'⟩ := chk_says ho hchk hw'
              rw [hS.dstKeep ho (by omega) (by omega) hd] at hv'
              have hρp : ∀ x ∈ o.op.operands.toList, (S p).ev x = ρ x := fun x hx => by
                rw [← hρe x hx]
                cases x with
                | tmp t => exact hkeep t (mem_reads_op hx)
                | _ => rfl
              rw [light_congr hρp] at hv'
              obtain ⟨q, hq, hr⟩ := light_val hS.hT (h.view hS (Nat.le_refl p) (by omega) (fun j oj _ _ hc => by omega)) hρr o hv'
              exact fin q hq fun d' hd' => by rw [hd] at hd'; cases hd'; exact hr
      · rename_i blk mk hv
        simp only [cond_eq_ite, nblt, decide_eq_true_eq] at hrun
        split at hrun
        · rename_i hn
          have hmem : (S (posOf plan i + 1)).mem = _ := (St.put_fields hrun).2.2
          have hkind := light_new_kind hv
          have hB : Alloc ops plan S i blk := ⟨o, ho, hh, hkind, hn, hmem⟩
          have hp : p ≤ posOf plan i := Decidable.byContradiction fun hc => by
            rcases hlast with e | ⟨k, ok, k1, k2, k3, k4⟩
            · omega
            · have hne : posOf plan i ≠ posOf plan k := fun e => hi (hS.posInj ho k1 e ▸ k3)
              exact hi (isAnc_ok hcl ((pair_lt (hS.pair ho k1).1 (by omega)).1 k2 (.inr hkind)) k3)
          rw [light_congr hρe] at hv
          obtain ⟨q, cs, hq, _, h1, h2, h3⟩ := light_new (w := w) hS.hT hρr o hv
          obtain ⟨j1, j2, j3⟩ := h.new hS hi hB hp h1 h2
          unfold Oper.wp
          rw [hq, Oper.upon_value]
          refine hK p _ _ _ j1 j2 j3 ((hs.mono j1).put hS ho hi fun d hd => ?_) hlast'
          rw [St.put_slot (st := { S (posOf plan i) with mem := (S (posOf plan i)).mem.add blk }) hsm hrun d, if_pos hd]
          exact h3 _ _ (.inl rfl) (by simp [Ctx.set])
        · cases hrun
      · cases hrun

theorem plan_end (hS : Trace E Γ0 call ops plan S) (hb : Γ0.le Γ) (h : MI ops plan S T p Γ w) (hs : SI ops plan S T Γ a) (hlast : LastH ops plan T p) (hall : ∀ j, j < ops.length → T j) : StR Γ0 Γ (S plan.length) a w := by
  have hget : ∀ j o, ops[j]? = some o → T j := fun j o ho => hall j (List.getElem?_eq_some_iff.1 ho).1
  have hp : p ≤ plan.length := by
    rcases hlast with e | ⟨k, ok, k1, k2, k3, k4⟩
    · omega
    · have := (hS.posLt k1).1; omega
  have hA := h.adv hS hp (Nat.le_refl _) (fun j o ho h1 h2 => Bool.eq_false_iff.2 fun hj => by have := (h.hv j o ho hj).1 (hget j o ho); omega) (fun j B _ hB => by obtain ⟨o, ho, _⟩ := hB; exact hget j o ho)
  refine ⟨hA.core.to (fun b => ⟨fun hb => hb.1, fun hb => ⟨hb, ?_⟩⟩) (fun _ _ => rfl) rfl (fun _ _ => rfl), fun d v hv => ?_, by rw [hS.fields (Nat.le_refl _)]; exact hs.nt, hS.small (Nat.le_refl _), hs.defers, hb⟩
  · rcases hA.dom b hb with h1 | ⟨l, B, h1, h2, h3, h4⟩
    · exact h1
    · obtain ⟨o, ho, _⟩ := h3
      have := (hS.posLt ho).1; omega
  · have : (S plan.length).slot d = v := by simp [St.slot, hv]
    rw [← this]
    by_cases hw : ∃ (j : Nat) (oj : Oper), ops[j]? = some oj ∧ oj.dst = some d
    · obtain ⟨j, oj, hoj, hd⟩ := hw
      have := (hS.posLt hoj).1
      rw [hS.dstKeep hoj (by omega) (Nat.le_refl _) hd]
      exact hs.at_ j oj d (hget j oj hoj) hoj hd
    · rw [hS.slot (Nat.zero_le _) (Nat.le_refl _) (fun k ok hk hkd _ => hw ⟨k, ok, hk, hkd⟩)]
      exact hs.no d fun j oj _ hoj hd => hw ⟨j, oj, hoj, hd⟩

theorem ready_mem {ops : Array Oper} {listed : Array Bool} {i : Nat} (h : i ∈ Region.ready .any ops listed) : ∃ o, ops.toList[i]? = some o ∧ listed.getD i true = false ∧ ∀ d ∈ deps o, listed.getD d false = true := by
  simp only [Region.ready, List.mem_filter, List.mem_range, Bool.and_eq_true, Bool.not_eq_true'] at h
  obtain ⟨h1, h2, h3⟩ := h
  have ho : ops[i]? = some ops[i] := Array.getElem?_eq_getElem h1
  refine ⟨ops[i], by simp, h2, fun d hd => ?_⟩
  rw [ho] at h3
  simp only [Option.map_some, Option.getD_some, Array.all_eq_true_iff_forall_mem, Bool.or_eq_true, Bool.not_eq_true'] at h3
  simp only [deps, List.mem_map, List.mem_filter] at hd
  obtain ⟨e, ⟨he, hb⟩, rfl⟩ := hd
  rcases h3 e (by simpa using he) with h4 | h4
  · rw [hb] at h4; cases h4
  · exact h4

theorem ready_none {ops : Array Oper} {listed : Array Bool} (hS : Trace E Γ0 call ops.toList plan S) (hsz : listed.size = ops.size) (h : Region.ready .any ops listed = []) : ∀ n j, posOf plan j ≤ n → j < ops.size → listed.getD j false = true := by
  intro n
  induction n using Nat.strongRecOn with
  | ind n ih =>
    intro j hj hlt
    refine Decidable.byContradiction fun hc => ?_
    have ho : ops[j]? = some ops[j] := Array.getElem?_eq_getElem hlt
    have hol : ops.toList[j]? = some ops[j] := by simp
    have hm : j ∈ Region.ready .any ops listed := by
      simp only [Region.ready, List.mem_filter, List.mem_range, Bool.and_eq_true, Bool.not_eq_true']
      refine ⟨hlt, ?_, ?_⟩
      · have hlt' : j < listed.size := by omega
        have hf : listed[j] = false := by
          cases hb : listed[j] with
          | false => rfl
          | true => exact absurd (by simp [Array.getD_eq_getD_getElem?, hlt', hb]) hc
        simp [Array.getD_eq_getD_getElem?, hlt', hf]
      · rw [ho]
        simp only [Option.map_some, Option.getD_some, Array.all_eq_true_iff_forall_mem, Bool.or_eq_true, Bool.not_eq_true']
        intro e he
        cases hb : Region.binds .any e with
        | false => exact .inl rfl
        | true =>
          right
          have hd : e.on ∈ deps ops[j] := List.mem_map.2 ⟨e, List.mem_filter.2 ⟨by simpa using he, hb⟩, rfl⟩
          have hpos := (hS.posLt hol).2.2 _ hd
          refine ih (posOf plan e.on) (by omega) e.on (Nat.le_refl _) ?_
          have hrl := (hS.posLt hol).1
          have := (hS.runPos (p := posOf plan e.on) (j := e.on) ?_).1
          · simpa using this
          · unfold posOf at hpos hrl ⊢
            have hlt2 : plan.findIdx (RStep.isRun e.on) < plan.length := by omega
            rw [List.getElem?_eq_getElem hlt2]
            have hb' := List.findIdx_getElem (w := hlt2)
            cases hx : plan[plan.findIdx (RStep.isRun e.on)] with
            | run k => rw [hx] at hb'; simp only [RStep.isRun, nbeq, decide_eq_true_eq] at hb'; rw [hb']
            | chk k => rw [hx] at hb'; simp [RStep.isRun] at hb'
    rw [h] at hm
    cases hm

theorem plan_any {ops : Array Oper} (hS : Trace E Γ0 call ops.toList plan S) {Γs : Ctx} {w0 : World} (hbase : Γ0.le Γs) {Q : Exit → Act → World → Prop} (hQ : ∀ Δ a' w', Γs.le Δ → Step Γs w0 Δ w' → StR Γ0 Δ (S plan.length) a' w' → Q .normal a' w') :
    ∀ (fuel : Nat) (listed : Array Bool) (p : Nat) (Γ : Ctx) (a : Act) (w : World), listed.size = ops.size → listed.toList.count false ≤ fuel → Γs.le Γ → Step Γs w0 Γ w →
      MI ops.toList plan S (fun j => listed.getD j false = true) p Γ w → SI ops.toList plan S (fun j => listed.getD j false = true) Γ a → LastH ops.toList plan (fun j => listed.getD j false = true) p →
      Closed ops.toList (fun j => listed.getD j false = true) → wpAny E.P .any ops Q fuel listed a w := by
  have hend : ∀ (listed : Array Bool) (p : Nat) (Γ : Ctx) (a : Act) (w : World), listed.size = ops.size → Γs.le Γ → Step Γs w0 Γ w →
      MI ops.toList plan S (fun j => listed.getD j false = true) p Γ w → SI ops.toList plan S (fun j => listed.getD j false = true) Γ a → LastH ops.toList plan (fun j => listed.getD j false = true) p →
      Region.ready .any ops listed = [] → Q .normal a w := fun listed p Γ a w hsz hle hst hm hs hl hr =>
    hQ Γ a w hle hst (plan_end hS (hbase.trans hle) hm hs hl fun j hj => ready_none hS hsz hr _ j (Nat.le_refl _) (by simpa using hj))
  intro fuel
  induction fuel with
  | zero =>
    intro listed p Γ a w hsz hc hle hst hm hs hl hcl
    have hr : Region.ready .any ops listed = [] := by
      refine List.eq_nil_iff_forall_not_mem.2 fun i hi => ?_
      obtain ⟨o, ho, h1, _⟩ := ready_mem hi
      have hlt : i < listed.size := by have := (List.getElem?_eq_some_iff.1 ho).1; simp at this; omega
      have hb : listed[i] = false := by simpa [Array.getD_eq_getD_getElem?, hlt] using h1
      have : false ∈ listed.toList := by rw [← hb]; simp
      have := List.count_pos_iff.2 this
      omega
    exact ⟨hr, hend listed p Γ a w hsz hle hst hm hs hl hr⟩
  | succ fuel ih =>
    intro listed p Γ a w hsz hc hle hst hm hs hl hcl
    refine ⟨hend listed p Γ a w hsz hle hst hm hs hl, fun i hi => ?_⟩
    obtain ⟨o, ho, h1, h2⟩ := ready_mem hi
    have hlt : i < listed.size := by have := (List.getElem?_eq_some_iff.1 ho).1; simp at this; omega
    have hb : listed[i] = false := by simpa [Array.getD_eq_getD_getElem?, hlt] using h1
    have hTi : ¬ listed.getD i false = true := by simp [Array.getD_eq_getD_getElem?, hlt, hb]
    have hT' : (fun k => k = i ∨ listed.getD k false = true) = fun k => (listed.setIfInBounds i true).getD k false = true := by
      funext k
      by_cases e : k = i
      · subst e; simp [Array.getD_eq_getD_getElem?, hlt]
      · have : i ≠ k := fun x => e x.symm
        simp [Array.getD_eq_getD_getElem?, Array.getElem?_setIfInBounds_ne this, e]
    have hcl' : Closed ops.toList (fun k => (listed.setIfInBounds i true).getD k false = true) := by
      rw [← hT']
      intro j oj hj hoj d hd
      rcases hj with rfl | hj
      · rw [ho] at hoj; cases hoj; exact .inr (h2 d hd)
      · exact .inr (hcl j oj hj hoj d hd)
    have key := plan_op (K := wpAny E.P .any ops Q fuel (listed.setIfInBounds i true)) (Q := Q) hS (hbase.trans hle) hm hs hl hcl ho hTi h2 (fun p' Δ a' w' k1 k2 k3 k4 k5 => by
      rw [hT'] at k3 k4 k5
      refine ih _ p' Δ a' w' (by simpa using hsz) ?_ (hle.trans k1) (hst.trans k2) k3 k4 k5 hcl'
      have hcnt := List.count_set (l := listed.toList) (a := true) (b := false) (i := i) (by simpa using hlt)
      have e1 : listed.toList[i]'(by simpa using hlt) = false := by simpa using hb
      rw [e1] at hcnt
      have e2 : (if (false == false) = true then 1 else 0) = 1 := rfl
      have e3 : (if (true == false) = true then 1 else 0) = 0 := rfl
      rw [e2, e3] at hcnt
      have e4 : (listed.setIfInBounds i true).toList = listed.toList.set i true := Array.toList_setIfInBounds
      rw [e4, hcnt]
      omega)
    unfold wpOp
    have ho' : ops[i]? = some o := by simpa using ho
    rw [ho']
    simp only
    have e : ops.toList.toArray = ops := rfl
    rw [e] at key
    split at key
    · rename_i hw; rw [if_pos hw]; exact .inl key
    · rename_i hw; rw [if_neg hw]; exact key
end

section
variable {E : Env} {w : World} {Γ0 Γ : Ctx} {st st' : St} {a : Act} {call : CallFn}

theorem runPlan_any (hT : TysOk E) (hC : CallOk E Γ0 call) (ops : Array Oper) (plan : List RStep) (hok : planOk ops.toList plan = true)
    (h : runPlan E call ops.toList plan st = some st') (hs : StR Γ0 Γ st a w) {Q : Exit → Act → World → Prop} (hQ : ∀ Δ a' w', Γ.le Δ → Step Γ w Δ w' → StR Γ0 Δ st' a' w' → Q .normal a' w') :
    wpAny E.P .any ops Q ops.size (Array.replicate ops.size false) a { w with drawn := w.drawn + 1 } ∧
    ∀ listed : Array Bool, listed.size = ops.size → Region.ready .any ops listed = [] → ∀ j, j < ops.size → listed.getD j false = true := by
  obtain ⟨S, h0, h1, h2⟩ := trace_exists h
  have hS : Trace E Γ0 call ops.toList plan S := ⟨hT, hC, hok, h2, Γ, a, w, h0 ▸ hs⟩
  have hsd : ∀ j, (Array.replicate ops.size false).getD j false = false := fun j => by
    by_cases e : j < ops.size <;> simp [Array.getD_eq_getD_getElem?, e]
  have hF : (fun j => (Array.replicate ops.size false).getD j false = true) = fun _ => False := by
    funext j; rw [hsd]; simp
  refine ⟨plan_any hS (Γs := Γ) (w0 := w) hs.base (fun Δ a' w' k1 k2 k3 => hQ Δ a' w' k1 k2 (h1 ▸ k3)) ops.size _ 0 Γ a _ (by simp) ?_ (.refl Γ) (.still rfl rfl rfl rfl) ?_ ?_ (.inl rfl) ?_, fun listed hsz hr j hj => ready_none hS hsz hr _ j (Nat.le_refl _) hj⟩
  · refine Nat.le_trans List.count_le_length (by simp)
  · rw [hF]
    refine ⟨fun k o _ _ => by simp, ?_, fun l B hl => hl.elim, fun b hb => .inl ?_, fun b b' i i' hb hb' hi hi' he => ?_⟩
    · rw [h0]
      exact (hs.mem.still (w' := { w with drawn := w.drawn + 1 }) rfl).to (Δ := Γ.below st.mem.next) (fun b => ⟨fun hb => ⟨hb, (hs.mem.dom b).1 hb⟩, fun hb => hb.1⟩) (fun _ _ => rfl) rfl (fun _ _ => rfl)
    · rw [h0]; exact (hs.mem.dom b).1 hb
    · exact hs.mem.inj b b' i i' ((hs.mem.dom b).1 hb) ((hs.mem.dom b').1 hb') hi hi' he
  · rw [hF]
    exact ⟨fun j o d hj => hj.elim, fun d _ => by rw [h0]; exact hs.slot d, by rw [h0]; exact hs.nt, hs.defers⟩
  · rw [hF]
    exact fun j o hj => hj.elim

theorem runPlan_wp (hT : TysOk E) (hC : CallOk E Γ0 call) (hmix : E.P.follows .mixedOrders = true) {id : Nat} (ops : Array Oper) (plan : List RStep) (hok : planOk ops.toList plan = true)
    (h : runPlan E call ops.toList plan st = some st') (hs : StR Γ0 Γ st a w) {Q : Exit → Act → World → Prop} (hQ : ∀ Δ a' w', Γ.le Δ → Step Γ w Δ w' → StR Γ0 Δ st' a' w' → Q .normal a' w') :
    (Code.region id ops true).wp E.P Q a w := wp_region_any hmix (runPlan_any hT hC ops plan hok h hs hQ).1
end
end Go.V
end

section
/-
  A region that draws its order and ends with an operation on a channel.
-/
namespace Go.V

theorem Oper.wp_mono_q {P : Program} {o : Oper} {a : Act} {w : World} {K K' : Act → World → Prop} {Q Q' : Exit → Act → World → Prop} (h : ∀ a w, K a w → K' a w) (hp : ∀ c a w, Q (.panic c) a w → Q' (.panic c) a w) (ho : LetsOut Q → LetsOut Q')
    (hh : o.wp P a w K Q) : o.wp P a w K' Q' := by
  unfold Oper.wp at *
  generalize (execOp a.eval o).run P w = r at *
  cases r with
  | ok n w' =>
    cases n <;> simp only [Oper.upon] at hh ⊢ <;>
      first
        | exact h _ _ hh
        | exact Calls.mono hh (fun e w'' he => by cases e <;> first | exact h _ _ he | exact hp _ _ _ he | exact ho he)
        | exact Rows.mono hh (fun _ _ he => h _ _ he)
  | halt x w' => cases x <;> simp only [Oper.upon] at hh ⊢ <;> exact hp _ _ _ hh

section
variable {P : Program} {init : List Oper} {o : Oper} {Q Q1 : Exit → Act → World → Prop}

theorem getD_push (l : Array Bool) (j : Nat) : (l.push false).getD j false = l.getD j false := by
  simp only [Array.getD_eq_getD_getElem?, Array.getElem?_push]
  split
  · rename_i e; subst e; simp
  · rfl

theorem ready_push {listed : Array Bool} (hsz : listed.size = init.length) :
    Region.ready .any (init ++ [o]).toArray (listed.push false) = Region.ready .any init.toArray listed ++ if (deps o).all (fun d => listed.getD d false) then [init.length] else [] := by
  have hall : ∀ x : Oper, (x.after.all fun e => !Region.binds .any e || (listed.push false).getD e.on false) = (x.after.all fun e => !Region.binds .any e || listed.getD e.on false) := fun x => by simp only [getD_push]
  simp only [Region.ready, List.size_toArray, List.length_append, List.length_singleton, List.range_succ, List.filter_append, hall]
  congr 1
  · refine List.filter_congr fun i hi => ?_
    have hi' : i < init.length := by simpa using hi
    have h1 : (listed.push false).getD i true = listed.getD i true := by
      simp only [Array.getD_eq_getD_getElem?, Array.getElem?_push]
      rw [if_neg (by omega)]
    have h2 : (init ++ [o]).toArray[i]? = init.toArray[i]? := by simp [List.getElem?_append_left hi']
    rw [h1, h2]
  · have h1 : (listed.push false).getD init.length true = false := by
      simp [Array.getD_eq_getD_getElem?, Array.getElem?_push, ← hsz]
    have h2 : (init ++ [o]).toArray[init.length]? = some o := by simp
    have h3 : (o.after.all fun e => !Region.binds .any e || listed.getD e.on false) = (deps o).all (fun d => listed.getD d false) := by
      rw [Bool.eq_iff_iff]
      simp only [deps, Array.all_eq_true_iff_forall_mem, Bool.or_eq_true, Bool.not_eq_true', List.all_eq_true, List.mem_map, List.mem_filter]
      constructor
      · rintro h d ⟨e, ⟨he, hb⟩, rfl⟩
        rcases h e (by simpa using he) with h4 | h4
        · rw [hb] at h4; cases h4
        · exact h4
      · intro h e he
        cases hb : Region.binds .any e with
        | false => exact .inl rfl
        | true => exact .inr (h e.on ⟨e, ⟨by simpa using he, hb⟩, rfl⟩)
    simp only [List.filter_cons, List.filter_nil, h1, h2, Option.map_some, Option.getD_some, h3, Bool.not_false, Bool.true_and]

theorem ready_full {ops : Array Oper} {listed : Array Bool} (h : ∀ i, i < ops.size → listed.getD i true = true) : Region.ready .any ops listed = [] := by
  refine List.eq_nil_iff_forall_not_mem.2 fun i hi => ?_
  simp only [Region.ready, List.mem_filter, List.mem_range, Bool.and_eq_true, Bool.not_eq_true'] at hi
  rw [h i hi.1] at hi
  exact absurd hi.2.1 (by simp)

theorem go_succ {ops : Array Oper} {listed : Array Bool} (f t : Nat) : Region.linearise.go .any ops (f + 1) t listed [] =
    match (Region.ready .any ops listed)[t % (Region.ready .any ops listed).length]? with
      | some i => Region.linearise.go .any ops f (t / (Region.ready .any ops listed).length) (listed.setIfInBounds i true) [i]
      | none => [].reverse := by
  simp only [Region.linearise.go]; rfl

theorem go_full {ops : Array Oper} {listed : Array Bool} (h : Region.ready .any ops listed = []) (f t : Nat) : Region.linearise.go .any ops f t listed [] = [] := by
  cases f with
  | zero => simp [Region.linearise.go]
  | succ f => rw [go_succ, h]; rfl

theorem go_some {ops : Array Oper} {listed : Array Bool} {t i f : Nat} (h : (Region.ready .any ops listed)[t % (Region.ready .any ops listed).length]? = some i) :
    Region.linearise.go .any ops (f + 1) t listed [] = i :: Region.linearise.go .any ops f (t / (Region.ready .any ops listed).length) (listed.setIfInBounds i true) [] := by
  rw [go_succ, h]
  simp only
  rw [linearise_go_acc]
  rfl

theorem go_last {listed : Array Bool} (hsz : listed.size = init.length) (hd : ∀ d ∈ deps o, d < init.length) (hall : ∀ j, j < init.length → listed.getD j false = true) (f t : Nat) :
    Region.linearise.go .any (init ++ [o]).toArray (f + 1) t (listed.push false) [] = [init.length] := by
  have h1 : Region.ready .any init.toArray listed = [] := ready_full fun i hi => by
    have hi' : i < init.length := by simpa using hi
    have := hall i hi'
    simpa [Array.getD_eq_getD_getElem?, hsz, hi'] using this
  have h2 : Region.ready .any (init ++ [o]).toArray (listed.push false) = [init.length] := by
    rw [ready_push hsz, h1, if_pos (List.all_eq_true.2 fun d hd' => hall d (hd d hd'))]; rfl
  rw [go_some (i := init.length) (by rw [h2]; simp [Nat.mod_one])]
  rw [go_full]
  refine ready_full fun i hi => ?_
  have hi' : i < init.length + 1 := by simpa using hi
  by_cases e : i = init.length
  · subst e
    simp [Array.getD_eq_getD_getElem?, ← hsz]
  · have hlt : i < listed.size := by omega
    have := hall i (by omega)
    simp only [Array.getD_eq_getD_getElem?, Array.getElem?_setIfInBounds_ne (show init.length ≠ i by omega), Array.getElem?_push, if_neg (show ¬ i = listed.size by omega)]
    simpa [Array.getD_eq_getD_getElem?, hlt] using this

/-- All orders of the others, and the last. -/
theorem inReg_any (hg : ∀ (i : Nat) x, init[i]? = some x → x.guard = none) (hanc : ∀ i, i < init.length → isAnc (ancs (init ++ [o])) i init.length = true) (hd : ∀ d ∈ deps o, d < init.length)
    (hnone : ∀ listed : Array Bool, listed.size = init.length → Region.ready .any init.toArray listed = [] → ∀ j, j < init.length → listed.getD j false = true)
    (hQ : ∀ e a w, Q1 e a w → e = .normal ∧ InReg P (init ++ [o]).toArray Q [init.length] a w) : ∀ (fuel t : Nat) (listed : Array Bool) (a : Act) (w : World), listed.size = init.length → Closed init (fun j => listed.getD j false = true) → wpAny P .any init.toArray Q1 fuel listed a w →
    InReg P (init ++ [o]).toArray Q (Region.linearise.go .any (init ++ [o]).toArray (fuel + 1) t (listed.push false) []) a w := by
  intro fuel
  induction fuel with
  | zero =>
    intro t listed a w hsz hcl h
    rw [go_last hsz hd (hnone listed hsz h.1)]
    exact (hQ _ _ _ h.2).2
  | succ fuel ih =>
    intro t listed a w hsz hcl h
    by_cases hr : Region.ready .any init.toArray listed = []
    · rw [go_last hsz hd (hnone listed hsz hr)]
      exact (hQ _ _ _ (h.1 hr)).2
    · have hnot : (deps o).all (fun d => listed.getD d false) = false := Bool.eq_false_iff.2 fun hall => by
        obtain ⟨i, hi⟩ := List.exists_mem_of_ne_nil _ hr
        obtain ⟨x, hx, h1, _⟩ := ready_mem hi
        have hlt : i < init.length := (List.getElem?_eq_some_iff.1 hx).1
        have hcl2 : Closed (init ++ [o]) (fun j => j = init.length ∨ listed.getD j false = true) := fun j x hj hx d hd' => by
          right
          by_cases e : j < init.length
          · rw [List.getElem?_append_left e] at hx
            exact hcl j x (hj.resolve_left (by omega)) hx d hd'
          · have hj' : j = init.length := by have := (List.getElem?_eq_some_iff.1 hx).1; simp at this; omega
            subst hj'
            have : x = o := by simpa using hx.symm
            subst this
            exact List.all_eq_true.1 hall d hd'
        have := (isAnc_ok hcl2 (hanc i hlt) (.inl rfl)).resolve_left (by omega)
        have hb : listed[i]'(by omega) = false := by simpa [Array.getD_eq_getD_getElem?, hsz, hlt] using h1
        simp [Array.getD_eq_getD_getElem?, hsz, hlt, hb] at this
      have he : Region.ready .any (init ++ [o]).toArray (listed.push false) = Region.ready .any init.toArray listed := by
        rw [ready_push hsz, hnot]; simp
      have hpos : 0 < (Region.ready .any init.toArray listed).length := List.length_pos_iff.2 hr
      have hm := Nat.mod_lt t hpos
      obtain ⟨i, hi⟩ : ∃ i, (Region.ready .any init.toArray listed)[t % (Region.ready .any init.toArray listed).length]? = some i := ⟨_, List.getElem?_eq_getElem hm⟩
      have hmem := List.mem_of_getElem? hi
      obtain ⟨x, hx, h1, h2⟩ := ready_mem hmem
      have hx : init[i]? = some x := by simpa using hx
      have hlt : i < init.length := (List.getElem?_eq_some_iff.1 hx).1
      rw [go_some (i := i) (by rw [he]; exact hi), he]
      have hset : (listed.push false).setIfInBounds i true = (listed.setIfInBounds i true).push false := by
        refine Array.ext_getElem? fun k => ?_
        by_cases e1 : i = k
        · subst e1
          rw [Array.getElem?_push, if_neg (by simp; omega), Array.getElem?_setIfInBounds, Array.getElem?_setIfInBounds, if_pos rfl, if_pos rfl, if_pos (by simp; omega), if_pos (by omega)]
        · simp [Array.getElem?_push, Array.getElem?_setIfInBounds_ne e1]
      rw [hset]
      have hop := h.2 i hmem
      unfold wpOp at hop
      have hxa : init.toArray[i]? = some x := by simpa using hx
      rw [hxa] at hop
      simp only at hop
      have hwn : ∀ y, Region.wanted x y = true := fun y => by simp [Region.wanted, hg i x hx]
      rw [if_pos (hwn _)] at hop
      have hop := hop.resolve_right fun hc => by obtain ⟨_, a', w', h'⟩ := hc; exact absurd (hQ _ _ _ h').1 (by simp)
      refine inReg_op (o := x) (by simp [List.getElem?_append_left hlt, hx]) (hwn _) ?_
      refine Oper.wp_mono_q (fun a w h' => ih _ _ a w (by simpa using hsz) ?_ h') (fun c a w h' => absurd (hQ _ _ _ h').1 (by simp)) (fun hc => by obtain ⟨a', w', h'⟩ := hc; exact absurd (hQ _ _ _ h').1 (by simp)) hop
      intro j oj hj hoj d hd'
      have key : ∀ k, (listed.setIfInBounds i true).getD k false = true ↔ (k = i ∨ listed.getD k false = true) := fun k => by
        by_cases e : k = i
        · subst e; simp [Array.getD_eq_getD_getElem?, hsz, hlt]
        · simp [Array.getD_eq_getD_getElem?, Array.getElem?_setIfInBounds_ne (show i ≠ k from fun x => e x.symm), e]
      rw [key] at hj ⊢
      rcases hj with rfl | hj
      · rw [hx] at hoj; cases hoj; exact .inr (h2 d hd')
      · exact .inr (hcl j oj hj hoj d hd')
end

section
variable {E : Env} {w : World} {Γ0 Γ : Ctx} {st st' : St} {a : Act} {call : CallFn}

theorem runDrawn_fields {ops : List Oper} {plan : List RStep} (h : runDrawn E call ops plan st = some st') : st'.fn = st.fn ∧ st'.nt = st.nt := by
  unfold runDrawn at h
  cases hl : lastComm ops with
  | false => rw [hl, cond_false] at h; exact runPlan_fields h
  | true =>
    rw [hl, cond_true] at h
    split at h
    · rename_i o ho
      split at h
      · rename_i s1 h1
        obtain ⟨e1, e2⟩ := runPlan_fields h1
        have := runSeq_fields (E := E) (call := call) (ops := ops) (l := [o]) (st := s1) (st' := st') (by simp only [runSeq, h])
        exact ⟨this.1.trans e1, this.2.trans e2⟩
      · cases h
    · cases h

theorem runDrawn_wp (hT : TysOk E) (hC : CallOk E Γ0 call) (hmix : E.P.follows .mixedOrders = true) {id : Nat} (ops : Array Oper) (plan : List RStep) (hok : drawnOk ops.toList plan = true)
    (h : runDrawn E call ops.toList plan st = some st') (hs : StR Γ0 Γ st a w) {Q : Exit → Act → World → Prop} (hQ : ∀ Δ a' w', Γ.le Δ → Step Γ w Δ w' → StR Γ0 Δ st' a' w' → Q .normal a' w') :
    (Code.region id ops true).wp E.P Q a w := by
  unfold runDrawn at h
  unfold drawnOk at hok
  cases hl : lastComm ops.toList with
  | false =>
    rw [hl, cond_false] at h hok
    exact runPlan_wp hT hC hmix ops plan hok h hs hQ
  | true =>
    rw [hl, cond_true] at h hok
    split at h
    · rename_i o ho
      rw [ho] at hok
      simp only [Bool.and_eq_true, List.all_eq_true, List.mem_range, nblt, decide_eq_true_eq, Option.isNone_iff_eq_none] at hok
      obtain ⟨⟨⟨h1, h2⟩, h3⟩, h4⟩ := hok
      have hc : isComm o.op = true := by unfold lastComm at hl; rw [ho] at hl; exact hl
      obtain ⟨l0, hl0⟩ := List.getLast?_eq_some_iff.1 ho
      generalize hI : ops.toList.dropLast = init at *
      have hinit : ops.toList = init ++ [o] := by rw [← hI, hl0]; simp
      have hops : ops = (init ++ [o]).toArray := by rw [← hinit]
      subst hops
      have hge : ∀ x ∈ init ++ [o], x.guard = none := fun x hx => h2 x (by simpa using hx)
      split at h
      · rename_i s1 hs1
        have hoj : (init ++ [o]).toArray[init.length]? = some o := by simp
        have hgo : o.guard = none := hge o (by simp)
        have hany := runPlan_any hT hC init.toArray plan h1 hs1 hs (Q := fun e a' w' => e = .normal ∧ InReg E.P (init ++ [o]).toArray Q [init.length] a' w') (fun Δ a' w' k1 k2 k3 => ⟨rfl, by
          unfold runOne at h
          rw [hc, cond_true, hgo] at h
          simp only at h
          split at h
          · rename_i v m' hv
            have hw : Region.wanted o (yielded (init ++ [o]).toArray a'.tmps) = true := by simp [Region.wanted, hgo]
            obtain ⟨q, w2, j1, j2, j3, j4⟩ := comm_step hT k3.mem k3.ev hv (rest := []) hoj hw
            exact inReg_step hoj j4 (inReg_nil (hQ Δ _ w2 k1 (k2.trans j3) ((k3.step (.refl Δ) j2).put h j1)))
          · cases h⟩)
        have hlin := fun t => inReg_any (P := E.P) (o := o) (init := init) (Q := Q) (fun i x hx => hge x (List.mem_append_left _ (List.mem_of_getElem? hx))) (fun i hi => h3 i hi) (fun d hd => by have := h4 d hd; simpa using this) (fun listed hsz hr j hj => hany.2 listed (by simpa using hsz) hr j (by simpa using hj)) (fun e a w h => h)
          init.length t (Array.replicate init.length false) a { w with drawn := w.drawn + 1 } (by simp) (fun j oj hj => by
            by_cases e : j < init.length <;> simp [Array.getD_eq_getD_getElem?, e] at hj) (by simpa using hany.1)
        intro b k cs
        obtain ⟨e, a', w', q, r⟩ := hlin (w.tape w.drawn (.order b.fn id)) b k cs
        refine ⟨e, a', w', q, .of_steps (.one ?_) r⟩
        rw [step_region_draw]
        simp only [Region.schedule, hmix, Bool.true_or, if_true, Region.linearise]
        rw [show (Array.replicate init.length false).push false = Array.replicate (init ++ [o]).toArray.size false by simp [Array.replicate_succ], show init.length + 1 = (init ++ [o]).toArray.size by simp]
      · cases h
    · cases h
end
end Go.V
end

section
/-
  What the abstract machine says is what the model does.
-/
namespace Go.V

def goodC (pl : T (List RStep)) (f : FuncId) : Code → Bool
  | .region id ops true => match pl.get (planKey f id) with
    | some p => drawnOk ops.toList p
    | none => true
  | .seq a b => goodC pl f a && goodC pl f b
  | .cond _ a b => goodC pl f a && goodC pl f b
  | .block _ b => goodC pl f b
  | .loop b => goodC pl f b
  | _ => true

/-- From one world to one that has all that was there, and perhaps more. -/
structure Grown (w w' : World) : Prop where
  os : w'.os = w.os
  tape : w'.tape = w.tape
  output : w'.output = w.output
  size : w.heap.size ≤ w'.heap.size
  keep : ∀ k, k < w.heap.size → w'.heap[k]? = w.heap[k]?

/-- What is told of calls that are not carried out: they answer so, and leave all as it was. -/
def OrcOk (E : Env) (Γ0 : Ctx) : Prop :=
  ∀ f args v, E.orc f args = some v → (∃ fn, E.P.funcs[f]? = some fn ∧ fn.name ≠ "runtime.NumGoroutine" ∧ fn.body.isSome = true) ∧
    ∀ (Γ : Ctx) (vs : Array Value) (w : World), Γ0.le Γ → VRs Γ args vs.toList → (∀ b o u, Γ.ro b o = some u → w.cell? ⟨b, o, none⟩ = some u) →
      Calls E.P f vs w fun e w' => ∃ u, e = .returned u ∧ VR Γ v u ∧ Grown w w'

structure EnvOk (E : Env) (Γ0 : Ctx) : Prop where
  dom : ∀ b, ¬ Γ0.dom b
  orc : OrcOk E Γ0
  ty : TysOk E
  fns : ∀ f fn, E.fns.get f = some fn → E.P.funcs[f]? = some fn ∧ fn.name ≠ "runtime.NumGoroutine" ∧ ∀ c, fn.body = some c → goodC E.plans f c = true
  mixed : E.P.follows .mixedOrders = true

def Ex.toExit : Ex → Exit
  | .normal => .normal
  | .exit id => .exit id
  | .ret => .ret

theorem exec_zero (E : Env) (c : Code) (st : St) : exec E 0 c st = none := rfl
theorem exec_succ (E : Env) (n : Nat) (c : Code) (st : St) : exec E (n + 1) c st = execF E (callF E (exec E n)) (exec E n) c st := rfl

def Sound (E : Env) (Γ0 : Ctx) (n : Nat) : Prop :=
  ∀ (c : Code) (st : St) (ex : Ex) (st' : St), exec E n c st = some (ex, st') → goodC E.plans st.fn c = true → (st'.fn = st.fn ∧ st'.nt = st.nt) ∧
    ∀ (Γ : Ctx) (a : Act) (w : World) (Q : Exit → Act → World → Prop), StR Γ0 Γ st a w → (∀ Δ a' w', Γ.le Δ → Step Γ w Δ w' → StR Γ0 Δ st' a' w' → Q ex.toExit a' w') →
      c.wp E.P Q a w ∧ ∀ b, c = .loop b → Code.rounds E.P b Q n a w

section
variable {E : Env} {w : World} {Γ0 Γ : Ctx} {st : St} {a : Act}

theorem argSlots_get : ∀ (args : List AVal) (i : Nat) (t : Slots) (d : Nat), i + args.length ≤ 256 → Slots.get (argSlots i args t) d = if i ≤ d ∧ d < i + args.length then args[d - i]? else Slots.get t d
  | [], i, t, d, _ => by
    have : ¬ (i ≤ d ∧ d < i + ([] : List AVal).length) := by simp
    rw [if_neg this]; rfl
  | v :: vs, i, t, d, h => by
    simp only [List.length_cons] at h
    simp only [argSlots]
    rw [argSlots_get vs (i + 1) _ d (by omega), Slots.get_put _ _ _ _ (by omega)]
    simp only [List.length_cons]
    by_cases h1 : i + 1 ≤ d ∧ d < i + 1 + vs.length
    · rw [if_pos h1, if_pos (by omega), show d - i = (d - (i + 1)) + 1 by omega, List.getElem?_cons_succ]
    · rw [if_neg h1]
      by_cases h2 : d = i
      · subst h2; rw [if_pos rfl, if_pos (by omega)]; simp
      · rw [if_neg h2, if_neg (by omega)]

def resOne (tmps : Array Value) : ResultVar → Sem Value
  | .tmp t => pure (tmps.getD t undef)
  | .cell x t => do loadVar t (← asAddr (tmps.getD x undef))

theorem resultVals_ok (hT : TysOk E) (hs : StR Γ0 Γ st a w) : ∀ (rs : List ResultVar) (vs : List AVal), resultVals E st rs = some vs →
    ∃ us, (rs.mapM (resOne a.tmps)).run E.P w = .ok us w ∧ VRs Γ vs us
  | [], vs, h => by
    simp only [resultVals, Option.some.injEq] at h
    subst h
    exact ⟨[], by simp, by simp [VRs]⟩
  | .tmp t :: rs, vs, h => by
    simp only [resultVals, Option.map_eq_some_iff] at h
    obtain ⟨vs', h1, rfl⟩ := h
    obtain ⟨us, k1, k2⟩ := resultVals_ok hT hs rs vs' h1
    refine ⟨a.tmps.getD t undef :: us, ?_, by simp only [VRs]; exact ⟨_, _, rfl, hs.slot t, k2⟩⟩
    rw [List.mapM_cons]
    simp only [resOne, Sem.run_bind, Sem.run_pure, Result.andThen_ok, k1]
  | .cell x t :: rs, vs, h => by
    simp only [resultVals] at h
    split at h
    · rename_i vt hg
      obtain ⟨i, d, z, ok⟩ := hT _ _ hg
      cases hr : readCells st.mem (st.slot x) vt.size with
      | none => simp [hr] at h
      | some cs =>
        cases hk : mkVal vt cs with
        | none => simp [hr, hk] at h
        | some v =>
          simp only [hr, hk, Option.bind_some, Option.map_eq_some_iff] at h
          obtain ⟨vs', h1, rfl⟩ := h
          obtain ⟨us, k1, k2⟩ := resultVals_ok hT hs rs vs' h1
          obtain ⟨ad, ls, e1, _, e2, e3, e4, e5⟩ := readCells_ok hs.mem.view hr (hs.slot x)
          have hl := run_loadVar_cells (w := w) ok ad ls e3 (fun hb => by obtain ⟨c, hc⟩ := mkVal_len ok hk hb; have := e2.length; simp [hc] at this; exact this.symm) e5
          refine ⟨asVal E.P t ls :: us, ?_, by simp only [VRs]; exact ⟨_, _, rfl, mkVal_ok ok hk e2 e4, k2⟩⟩
          rw [List.mapM_cons]
          simp only [resOne, e1, asAddr, Sem.run_bind, Sem.run_pure, Result.andThen_ok, hl, k1]
    · cases h

theorem results_ok (hT : TysOk E) (hs : StR Γ0 Γ st a w) {fn : Func} {vs : List AVal} (h : resultVals E st fn.results.toList = some vs) : ∃ u, (results fn a.tmps).run E.P w = .ok u w ∧ VR Γ (oneOr vs) u := by
  obtain ⟨us, k1, k2⟩ := resultVals_ok hT hs _ _ h
  have e0 : results fn a.tmps = (fn.results.mapM (resOne a.tmps) >>= fun vs => pure (if h : vs.size = 1 then vs[0] else .tuple vs)) := by
    rfl
  rw [e0, Array.mapM_eq_mapM_toList]
  simp only [Sem.run_bind, Sem.run_map, k1, Result.andThen_ok]
  cases vs with
  | nil =>
    simp only [VRs] at k2
    subst k2
    exact ⟨.tuple #[], by simp, by simp only [oneOr, VR]; exact ⟨_, rfl, by simp [VRs]⟩⟩
  | cons v vs =>
    simp only [VRs] at k2
    obtain ⟨u, us', rfl, h1, h2⟩ := k2
    cases vs with
    | nil =>
      simp only [VRs] at h2
      subst h2
      exact ⟨u, by simp, by simpa [oneOr] using h1⟩
    | cons v2 vs2 =>
      have h2' := h2
      simp only [VRs] at h2
      obtain ⟨u2, us2, rfl, _, _⟩ := h2
      refine ⟨.tuple (u :: u2 :: us2).toArray, by simp, ?_⟩
      simp only [oneOr, VR]
      exact ⟨_, rfl, by simp only [VRs]; exact ⟨u, _, rfl, h1, by simpa [VRs] using h2'⟩⟩

theorem callF_ok (hE : EnvOk E Γ0) {n : Nat} (hS : Sound E Γ0 n) : CallOk E Γ0 (callF E (exec E n)) := by
  have split_ : ∀ f args m r, callF E (exec E n) f args m = some r → (∃ v, E.orc f args = some v ∧ r = (v, m)) ∨ ∃ fn c ex st' vs, E.fns.get f = some fn ∧ fn.body = some c ∧ args.length ≤ fn.ntmps ∧ fn.ntmps ≤ 256 ∧
      exec E n c ⟨f, fn.ntmps, argSlots 0 args Slots.nil, m⟩ = some (ex, st') ∧ (ex = .normal ∨ ex = .ret) ∧ resultVals E st' fn.results.toList = some vs ∧ r = (oneOr vs, st'.mem) := by
    intro f args m r h
    unfold callF at h
    split at h
    · rename_i v hv
      simp only [Option.some.injEq] at h
      exact .inl ⟨v, hv, h.symm⟩
    right
    split at h
    · cases h
    · rename_i fn hf
      split at h
      · cases h
      · rename_i c hb
        simp only [nble, cond_eq_ite, Bool.and_eq_true, decide_eq_true_eq] at h
        split at h
        · rename_i hc
          split at h
          · rename_i st' he
            simp only [Option.map_eq_some_iff] at h
            obtain ⟨vs, hv, rfl⟩ := h
            exact ⟨fn, c, _, st', vs, hf, hb, hc.1, hc.2, he, .inl rfl, hv, rfl⟩
          · rename_i st' he
            simp only [Option.map_eq_some_iff] at h
            obtain ⟨vs, hv, rfl⟩ := h
            exact ⟨fn, c, _, st', vs, hf, hb, hc.1, hc.2, he, .inr rfl, hv, rfl⟩
          · cases h
        · cases h
  refine ⟨hE.dom, fun f args m r h => ?_, fun f args m v m' h Γ vs w hbase hr hm => ?_⟩
  · rcases split_ f args m r h with ⟨v, hv, _⟩ | ⟨fn, c, _, _, _, hf, hb, _⟩
    · exact (hE.orc f args v hv).1
    obtain ⟨h1, h2, _⟩ := hE.fns f fn hf
    exact ⟨fn, h1, h2, by simp [hb]⟩
  · rcases split_ f args m _ h with ⟨v0, hv, hr'⟩ | ⟨fn, c, ex, st', rv, hf, hb, hl, hn, he, hex, hv, hr'⟩
    · cases hr'
      refine ((hE.orc f args v hv).2 Γ vs w hbase hr hm.ro).mono fun e w' he => ?_
      obtain ⟨u, rfl, h1, h2⟩ := he
      exact ⟨Γ, u, rfl, .refl Γ, h1, ⟨.refl Γ, h2.os, h2.tape, h2.output, h2.size, fun k hk _ => h2.keep k hk, fun b i hb hi _ => ⟨b, i, hb, hi, rfl⟩, fun _ _ _ h => .inl h⟩, hm.to (fun _ => Iff.rfl) (fun _ _ => rfl) rfl h2.keep⟩
    cases hr'
    obtain ⟨h1, h2, h3⟩ := hE.fns f fn hf
    refine calls_of_wp h1 hb ?_
    have hlen := hr.length
    simp only [Array.length_toList] at hlen
    have hst : StR Γ0 Γ ⟨f, fn.ntmps, argSlots 0 args Slots.nil, m⟩ { tmps := vs ++ Array.replicate (fn.ntmps - vs.size) undef, defers := [] } w := by
      refine ⟨hm, fun d u hd => ?_, by simp; omega, hn, rfl, hbase⟩
      rw [argSlots_get args 0 .nil d (by omega)] at hd
      split at hd
      · rename_i hc
        obtain ⟨q, hq, hqr⟩ := hr.get hd
        simp only [Nat.sub_zero] at hq
        have hlt : d < vs.size := by omega
        have hq' : vs[d]? = some q := by simpa using hq
        have : (vs ++ Array.replicate (fn.ntmps - vs.size) undef).getD d undef = q := by
          rw [Array.getD_eq_getD_getElem?, Array.getElem?_append_left hlt, hq']; rfl
        rw [this]
        exact hqr
      · rw [Slots.get_nil hd]; simp [VR]
    refine ((hS c _ ex st' he (h3 c hb)).2 Γ _ w _ hst (fun Δ a' w' k1 k2 k3 => ?_)).1
    obtain ⟨u, hu, hur⟩ := results_ok hE.ty k3 hv
    rcases hex with rfl | rfl
    · exact ⟨k3.defers, u, hu, Δ, u, rfl, k1, hur, k2, k3.mem⟩
    · exact ⟨k3.defers, u, hu, Δ, u, rfl, k1, hur, k2, k3.mem⟩

theorem sound (hE : EnvOk E Γ0) : ∀ n, Sound E Γ0 n := by
  intro n
  induction n with
  | zero => intro c st ex st' h; rw [exec_zero] at h; cases h
  | succ n ih =>
    have hC := callF_ok hE ih
    intro c st ex st' h hg
    rw [exec_succ] at h
    cases c <;> simp only [execF, reduceCtorEq] at h
    case skip =>
      simp only [Option.some.injEq, Prod.mk.injEq] at h
      obtain ⟨rfl, rfl⟩ := h
      exact ⟨⟨rfl, rfl⟩, fun Γ a w Q hs hQ => ⟨wp_skip (hQ Γ a w (.refl Γ) (.refl Γ w) hs), fun b hb => by cases hb⟩⟩
    case ret =>
      simp only [Option.some.injEq, Prod.mk.injEq] at h
      obtain ⟨rfl, rfl⟩ := h
      exact ⟨⟨rfl, rfl⟩, fun Γ a w Q hs hQ => ⟨wp_ret (hQ Γ a w (.refl Γ) (.refl Γ w) hs), fun b hb => by cases hb⟩⟩
    case exit id =>
      simp only [Option.some.injEq, Prod.mk.injEq] at h
      obtain ⟨rfl, rfl⟩ := h
      exact ⟨⟨rfl, rfl⟩, fun Γ a w Q hs hQ => ⟨wp_exit (hQ Γ a w (.refl Γ) (.refl Γ w) hs), fun b hb => by cases hb⟩⟩
    case seq x y =>
      simp only [goodC, Bool.and_eq_true] at hg
      split at h
      · rename_i s1 h1
        obtain ⟨⟨e1, e2⟩, k1⟩ := ih x st _ s1 h1 hg.1
        obtain ⟨⟨e3, e4⟩, k2⟩ := ih y s1 ex st' h (by rw [e1]; exact hg.2)
        refine ⟨⟨e3.trans e1, e4.trans e2⟩, fun Γ a w Q hs hQ => ⟨wp_seq ((k1 Γ a w _ hs fun Δ a' w' j1 j2 j3 => ?_).1), fun b hb => by cases hb⟩⟩
        exact (k2 Δ a' w' Q j3 fun Θ a2 w2 i1 i2 i3 => hQ Θ a2 w2 (j1.trans i1) (j2.trans i2) i3).1
      · rename_i hne
        obtain ⟨e, k1⟩ := ih x st ex st' h hg.1
        refine ⟨e, fun Γ a w Q hs hQ => ⟨wp_seq ((k1 Γ a w _ hs fun Δ a' w' j1 j2 j3 => ?_).1), fun b hb => by cases hb⟩⟩
        have := hQ Δ a' w' j1 j2 j3
        cases ex with
        | normal => exact absurd h (hne st')
        | exit id => exact this
        | ret => exact this
    case cond x t f =>
      simp only [goodC, Bool.and_eq_true] at hg
      split at h
      · rename_i b hb
        obtain ⟨e, k1⟩ := ih _ st ex st' h (by cases b with | true => exact hg.1 | false => exact hg.2)
        refine ⟨e, fun Γ a w Q hs hQ => ⟨?_, fun b hb => by cases hb⟩⟩
        have hv := hs.ev x
        rw [hb] at hv
        simp only [VR] at hv
        refine wp_cond hv ?_
        have := (k1 Γ a w Q hs hQ).1
        cases b <;> exact this
      · cases h
    case block id body =>
      simp only [goodC] at hg
      split at h
      · rename_i id' s1 h1
        simp only [Option.some.injEq, Prod.mk.injEq, nbeq, cond_eq_ite, decide_eq_true_eq] at h
        obtain ⟨rfl, rfl⟩ := h
        obtain ⟨e, k1⟩ := ih body st _ s1 h1 hg
        refine ⟨e, fun Γ a w Q hs hQ => ⟨wp_block ((k1 Γ a w _ hs fun Δ a' w' j1 j2 j3 => ?_).1), fun b hb => by cases hb⟩⟩
        have := hQ Δ a' w' j1 j2 j3
        simp only [Ex.toExit, Exit.inBlock]
        split
        · rename_i e'; simpa [e', Ex.toExit] using this
        · rename_i e'; simpa [e', Ex.toExit] using this
      · rename_i hne
        obtain ⟨e, k1⟩ := ih body st ex st' h hg
        refine ⟨e, fun Γ a w Q hs hQ => ⟨wp_block ((k1 Γ a w _ hs fun Δ a' w' j1 j2 j3 => ?_).1), fun b hb => by cases hb⟩⟩
        have := hQ Δ a' w' j1 j2 j3
        cases ex with
        | exit id => exact absurd h (hne id st')
        | normal => exact this
        | ret => exact this
    case loop body =>
      simp only [goodC] at hg
      split at h
      · rename_i s1 h1
        obtain ⟨⟨e1, e2⟩, k1⟩ := ih body st _ s1 h1 hg
        obtain ⟨⟨e3, e4⟩, k2⟩ := ih (.loop body) s1 ex st' h (by simp only [goodC]; rw [e1]; exact hg)
        refine ⟨⟨e3.trans e1, e4.trans e2⟩, fun Γ a w Q hs hQ => ?_⟩
        have hr : Code.rounds E.P body Q (n + 1) a w := by
          refine (k1 Γ a w _ hs fun Δ a' w' j1 j2 j3 => ?_).1
          exact (k2 Δ a' w' Q j3 fun Θ a2 w2 i1 i2 i3 => hQ Θ a2 w2 (j1.trans i1) (j2.trans i2) i3).2 body rfl
        exact ⟨wp_loop_rounds (n + 1) hr, fun b hb => by cases hb; exact hr⟩
      · rename_i hne
        obtain ⟨e, k1⟩ := ih body st ex st' h hg
        refine ⟨e, fun Γ a w Q hs hQ => ?_⟩
        have hr : Code.rounds E.P body Q (n + 1) a w := by
          refine (k1 Γ a w _ hs fun Δ a' w' j1 j2 j3 => ?_).1
          have := hQ Δ a' w' j1 j2 j3
          cases ex with
          | normal => exact absurd h (hne st')
          | exit id => exact this
          | ret => exact this
        exact ⟨wp_loop_rounds (n + 1) hr, fun b hb => by cases hb; exact hr⟩
    case region id ops draw =>
      cases draw with
      | false =>
        simp only [Option.map_eq_some_iff, Prod.mk.injEq] at h
        obtain ⟨s1, h1, rfl, rfl⟩ := h
        exact ⟨runSeq_fields h1, fun Γ a w Q hs hQ => ⟨wp_region_inReg (by have := runSeq_wp hE.ty hC ops.toList ops.toList 0 st s1 Γ a w (fun i o ho => by rw [Nat.zero_add]; exact ho) h1 hs hQ; simpa [List.range_eq_range'] using this), fun b hb => by cases hb⟩⟩
      | true =>
        simp only at h
        split at h
        · rename_i plan hp
          simp only [Option.map_eq_some_iff, Prod.mk.injEq] at h
          obtain ⟨s1, h1, rfl, rfl⟩ := h
          simp only [goodC, hp] at hg
          exact ⟨runDrawn_fields h1, fun Γ a w Q hs hQ => ⟨runDrawn_wp hE.ty hC hE.mixed ops plan hg h1 hs hQ, fun b hb => by cases hb⟩⟩
        · cases h

/-- A call that the abstract machine carries out is carried out by the model, whatever the tape. -/
theorem call_sound (hE : EnvOk E Γ0) (n : Nat) : CallOk E Γ0 (call E n) := callF_ok hE (sound hE n)
end
end Go.V
end

section
/-
  What is asked of a table of types and of functions, as Bools.
-/
namespace Go.V

def vdSame : VD → VD → Bool
  | .bool, .bool => true
  | .int k, .int l => decide (k = l)
  | .str, .str => true
  | .pointer a, .pointer b => Nat.beq a b
  | .slice a, .slice b => Nat.beq a b
  | .array n a, .array m b => Nat.beq n m && Nat.beq a b
  | .struct l, .struct k => go l k
  | .func, .func => true
  | .other, .other => true
  | _, _ => false
where
  go : List (TypeId × Nat) → List (TypeId × Nat) → Bool
    | [], [] => true
    | (a, b) :: l, (c, d) :: k => Nat.beq a c && Nat.beq b d && go l k
    | _, _ => false

theorem vdSame.go_ok : ∀ {l k : List (TypeId × Nat)}, vdSame.go l k = true → l = k
  | [], [], _ => rfl
  | [], _ :: _, h => by simp [vdSame.go] at h
  | _ :: _, [], h => by simp [vdSame.go] at h
  | (a, b) :: l, (c, d) :: k, h => by
    simp only [vdSame.go, Bool.and_eq_true, nbeq, decide_eq_true_eq] at h
    rw [h.1.1, h.1.2, vdSame.go_ok h.2]

theorem vdSame_ok {a b : VD} (h : vdSame a b = true) : a = b := by
  cases a <;> cases b <;> simp [vdSame, nbeq] at h <;> first | rfl | (simp [h]; done) | (rw [vdSame.go_ok h])

def cellSame (a b : AVal) : Bool :=
  match a, b with
  | .any, .any => true
  | a, b => AVal.same a b

theorem cellSame_ok {a b : AVal} (h : cellSame a b = true) : a = b := by
  unfold cellSame at h
  split at h
  · rfl
  · exact AVal.same_ok _ _ h

def cellsSame : List AVal → List Value → Bool
  | [], [] => true
  | a :: as, v :: vs => cellSame a (ofConst1 v) && cellsSame as vs
  | _, _ => false

theorem cellsSame_ok : ∀ {as : List AVal} {vs : List Value}, cellsSame as vs = true → as = vs.map ofConst1
  | [], [], _ => rfl
  | [], _ :: _, h => by simp [cellsSame] at h
  | _ :: _, [], h => by simp [cellsSame] at h
  | a :: as, v :: vs, h => by
    simp only [cellsSame, Bool.and_eq_true] at h
    rw [List.map_cons, ← cellSame_ok h.1, ← cellsSame_ok h.2]

def fkSame : FK → FK → Bool
  | .b, .b | .i, .i | .s, .s => true
  | _, _ => false

def fksSame : Option (List FK) → Option (List FK) → Bool
  | none, none => true
  | some l, some k => go l k
  | _, _ => false
where
  go : List FK → List FK → Bool
    | [], [] => true
    | x :: l, y :: k => fkSame x y && go l k
    | _, _ => false

theorem fksSame.go_ok : ∀ {l k : List FK}, fksSame.go l k = true → l = k
  | [], [], _ => rfl
  | [], _ :: _, h => by simp [fksSame.go] at h
  | _ :: _, [], h => by simp [fksSame.go] at h
  | x :: l, y :: k, h => by
    simp only [fksSame.go, Bool.and_eq_true] at h
    rw [fksSame.go_ok h.2]
    have h1 := h.1
    cases x <;> cases y <;> simp [fkSame] at h1 <;> rfl

theorem fksSame_ok {a b : Option (List FK)} (h : fksSame a b = true) : a = b := by
  cases a <;> cases b <;> simp [fksSame] at h <;> first | rfl | rw [fksSame.go_ok h]

def tyOkB (P : Program) (t : TypeId) (vt : VT) : Bool :=
  match P.info? t, P.underlying t with
  | some i, some d => match i.zero with
    | some z => vdSame vt.d (vdOf d) && Nat.beq vt.size i.size && Nat.beq vt.bytes i.bytes && cellsSame vt.zero z.cells.toList && fksSame vt.eq (eqOf P t) && z.cells.toList.all (·.oneCell') &&
      (match d with
       | .struct gs => gs.toList.all fun g => (P.info? g.type).isSome
       | _ => true)
    | none => false
  | _, _ => false

theorem tyOkB_ok {P : Program} {t : TypeId} {vt : VT} (h : tyOkB P t vt = true) : ∃ i d z, TyOk P t vt i d z := by
  unfold tyOkB at h
  split at h
  · rename_i i d hi hd
    split at h
    · rename_i z hz
      simp only [Bool.and_eq_true, nbeq, decide_eq_true_eq, List.all_eq_true] at h
      obtain ⟨⟨⟨⟨⟨⟨h1, h2⟩, h3⟩, h4⟩, h5⟩, h6⟩, h7⟩ := h
      refine ⟨i, d, z, fun gs hgs g hg => ?_, hi, hd, hz, vdSame_ok h1, h2, h3, cellsSame_ok h4, fksSame_ok h5, h6⟩
      subst hgs
      simp only [List.all_eq_true] at h7
      exact Option.isSome_iff_exists.1 (h7 g hg)
    · cases h
  · cases h

def fnOkB (pl : T (List RStep)) (fns : T Func) (i : Nat) : Bool :=
  match fns.get i with
  | some fn => (fn.name != "runtime.NumGoroutine") && (match fn.body with
    | some c => goodC pl i c
    | none => true)
  | none => true

theorem EnvOk.of_checks {E : Env} {Γ0 : Ctx} (hd : ∀ b, ¬ Γ0.dom b) (ho : OrcOk E Γ0) (hm : E.P.follows .mixedOrders = true) (ht : T.allp (tyOkB E.P) 1 0 E.ty = true)
    (hf : ∀ f fn, E.fns.get f = some fn → E.P.funcs[f]? = some fn ∧ fnOkB E.plans E.fns f = true) : EnvOk E Γ0 := by
  refine ⟨hd, ho, fun t vt h => ?_, fun f fn h => ?_, hm⟩
  · have := T.allp_get _ _ _ _ _ _ ht h
    simp only [Nat.one_mul, Nat.add_zero] at this
    exact tyOkB_ok this
  · obtain ⟨h1, h2⟩ := hf f fn h
    simp only [fnOkB, h, Bool.and_eq_true, bne_iff_ne] at h2
    refine ⟨h1, h2.1, fun c hc => ?_⟩
    have := h2.2
    rw [hc] at this
    exact this

theorem same_at {fns : T Func} {fs : Array Func} {l : List Nat} (h : l.map (fun i => fns.get i) = l.map (fun i => fs[i]?)) {i : Nat} (hi : i ∈ l) : fns.get i = fs[i]? := by
  have := List.map_inj_left.1 h
  exact this i hi

theorem fnOkB_at {pl : T (List RStep)} {fns : T Func} {a n i : Nat} (h : (List.range' a n).all (fnOkB pl fns) = true) (h1 : a ≤ i) (h2 : i < a + n) : fnOkB pl fns i = true :=
  List.all_eq_true.1 h i (List.mem_range'_1.2 ⟨h1, h2⟩)
end Go.V
end

section
/-
  More fuel changes no answer of the abstract machine.
-/
namespace Go.V

def Leq (c c' : CallFn) : Prop := ∀ f args m r, c f args m = some r → c' f args m = some r

section
variable {E : Env} {call call' : CallFn} {ih ih' : Code → St → Option (Ex × St)}

theorem heavy_mono (h : Leq call call') {m : Mem} {ρ : Operand → AVal} {op : Op} {r : AVal × Mem} (hr : heavy E call m ρ op = some r) : heavy E call' m ρ op = some r := by
  cases op <;> try exact hr
  case call c =>
    obtain ⟨callee, args, argTypes⟩ := c
    cases callee with
    | invoke r n => exact hr
    | builtin b => cases b <;> exact hr
    | value f =>
      simp only [heavy] at hr ⊢
      split at hr
      · exact h _ _ _ _ hr
      · cases hr

theorem runOp_mono (h : Leq call call') {ops : List Oper} {st st' : St} {o : Oper} (hr : runOp E call ops st o = some st') : runOp E call' ops st o = some st' := by
  unfold runOp at hr ⊢
  split at hr
  · cases hr
  · exact hr
  · simp only [cond_eq_ite] at hr ⊢
    split at hr
    · rename_i hh
      rw [if_pos hh]
      split at hr
      · rename_i v m hv
        rw [heavy_mono h hv]
        exact hr
      · cases hr
    · rename_i hh
      rw [if_neg hh]
      exact hr

theorem lenChan_light {ops : List Oper} {st st' : St} {o : Oper} (h : lenChan E st o = some st') : runOp E call ops st o = runOp E call' ops st o := by
  have hh : isHeavy o.op = false := by
    unfold lenChan at h
    split at h
    · cases h
    · split at h
      · rename_i hop; rw [hop]; rfl
      · cases h
  unfold runOp
  simp only [hh, cond_false]

theorem runOne_mono (h : Leq call call') {ops : List Oper} {st st' : St} {o : Oper} (hr : runOne E call ops st o = some st') : runOne E call' ops st o = some st' := by
  unfold runOne at hr ⊢
  cases hc : isComm o.op with
  | true => rw [hc, cond_true] at hr; rw [cond_true]; exact hr
  | false =>
    rw [hc, cond_false] at hr
    rw [cond_false]
    split at hr
    · rename_i s hs
      rw [runOp_mono h hs]
      exact hr
    · rename_i hs
      rw [← lenChan_light (call := call) hr, hs]
      exact hr

theorem runSeq_mono (h : Leq call call') {ops : List Oper} : ∀ {l : List Oper} {st st' : St}, runSeq E call ops l st = some st' → runSeq E call' ops l st = some st'
  | [], _, _, hr => hr
  | o :: l, st, st', hr => by
    simp only [runSeq] at hr ⊢
    split at hr
    · rename_i s hs
      rw [runOne_mono h hs]
      exact runSeq_mono h hr
    · cases hr

theorem runPlan_mono (h : Leq call call') {ops : List Oper} : ∀ {l : List RStep} {st st' : St}, runPlan E call ops l st = some st' → runPlan E call' ops l st = some st'
  | [], _, _, hr => hr
  | .run j :: l, st, st', hr => by
    simp only [runPlan] at hr ⊢
    split at hr
    · split at hr
      · rename_i s hs
        rw [runOp_mono h hs]
        exact runPlan_mono h hr
      · cases hr
    · cases hr
  | .chk j :: l, st, st', hr => by
    simp only [runPlan] at hr ⊢
    split at hr
    · split at hr
      · split at hr
        · simp only [cond_eq_ite] at hr ⊢
          split at hr
          · rename_i hc
            rw [if_pos hc]
            exact runPlan_mono h hr
          · cases hr
        · cases hr
      · exact runPlan_mono h hr
      · cases hr
    · cases hr

theorem runDrawn_mono (h : Leq call call') {ops : List Oper} {plan : List RStep} {st st' : St} (hr : runDrawn E call ops plan st = some st') : runDrawn E call' ops plan st = some st' := by
  unfold runDrawn at hr ⊢
  cases hl : lastComm ops with
  | false => rw [hl, cond_false] at hr; rw [cond_false]; exact runPlan_mono h hr
  | true =>
    rw [hl, cond_true] at hr
    rw [cond_true]
    split at hr
    · rename_i o ho
      try rw [ho]
      try simp only
      split at hr
      · rename_i s hs
        simp only [runPlan_mono h hs]
        exact runOne_mono h hr
      · cases hr
    · cases hr

theorem execF_mono (h : Leq call call') (hi : ∀ c st r, ih c st = some r → ih' c st = some r) {c : Code} {st : St} {r : Ex × St} (hr : execF E call ih c st = some r) : execF E call' ih' c st = some r := by
  cases c <;> simp only [execF] at hr ⊢ <;> try exact hr
  case seq a b =>
    split at hr
    · rename_i s hs
      rw [hi _ _ _ hs]
      exact hi _ _ _ hr
    · rename_i hne
      rw [hi _ _ _ hr]
      obtain ⟨ex, s⟩ := r
      cases ex with
      | normal => exact absurd hr (hne s)
      | _ => rfl
  case cond x a b =>
    split at hr
    · exact hi _ _ _ hr
    · cases hr
  case block id b =>
    split at hr
    · rename_i i s hs
      rw [hi _ _ _ hs]
      exact hr
    · rename_i hne
      rw [hi _ _ _ hr]
      obtain ⟨ex, s⟩ := r
      cases ex with
      | exit i => exact absurd hr (hne i s)
      | _ => rfl
  case loop b =>
    split at hr
    · rename_i s hs
      rw [hi _ _ _ hs]
      exact hi _ _ _ hr
    · rename_i hne
      rw [hi _ _ _ hr]
      obtain ⟨ex, s⟩ := r
      cases ex with
      | normal => exact absurd hr (hne s)
      | _ => rfl
  case region id ops draw =>
    cases draw with
    | false =>
      simp only [Option.map_eq_some_iff] at hr ⊢
      obtain ⟨s, hs, rfl⟩ := hr
      exact ⟨s, runSeq_mono h hs, rfl⟩
    | true =>
      simp only at hr ⊢
      split at hr
      · simp only [Option.map_eq_some_iff] at hr ⊢
        obtain ⟨s, hs, rfl⟩ := hr
        exact ⟨s, runDrawn_mono h hs, rfl⟩
      · cases hr

theorem callF_mono (hi : ∀ c st r, ih c st = some r → ih' c st = some r) : Leq (callF E ih) (callF E ih') := by
  intro f args m r hr
  unfold callF at hr ⊢
  split at hr
  · exact hr
  · split at hr
    · cases hr
    · split at hr
      · cases hr
      · simp only [cond_eq_ite] at hr ⊢
        split at hr
        · rename_i hc
          rw [if_pos hc]
          split at hr
          · rename_i s hs; rw [hi _ _ _ hs]; exact hr
          · rename_i s hs; rw [hi _ _ _ hs]; exact hr
          · cases hr
        · cases hr

theorem exec_mono1 : ∀ (n : Nat) (c : Code) (st : St) (r : Ex × St), exec E n c st = some r → exec E (n + 1) c st = some r
  | 0, c, st, r, h => by rw [exec_zero] at h; cases h
  | n + 1, c, st, r, h => by
    rw [exec_succ] at h ⊢
    exact execF_mono (callF_mono (exec_mono1 n)) (exec_mono1 n) h

theorem exec_mono {n k : Nat} (h : n ≤ k) {c : Code} {st : St} {r : Ex × St} (hr : exec E n c st = some r) : exec E k c st = some r := by
  induction k with
  | zero => rwa [show n = 0 by omega] at hr
  | succ k ih =>
    by_cases e : n = k + 1
    · rwa [e] at hr
    · exact exec_mono1 k c st r (ih (by omega))

theorem call_mono {n k : Nat} (h : n ≤ k) : Leq (V.call E n) (V.call E k) := callF_mono fun _ _ _ hr => exec_mono h hr
end

/-! ### What the abstract machine brings about, whatever the fuel -/
def vwp (E : Env) (c : Code) (Q : Ex → St → Prop) (st : St) : Prop := ∃ n ex st', exec E n c st = some (ex, st') ∧ Q ex st'
def vcall (E : Env) (f : FuncId) (args : List AVal) (m : Mem) (Q : AVal → Mem → Prop) : Prop := ∃ n v m', call E n f args m = some (v, m') ∧ Q v m'
def vops (E : Env) (ops : List Oper) (l : List Oper) (Q : St → Prop) (st : St) : Prop := ∃ n st', runSeq E (call E n) ops l st = some st' ∧ Q st'

section
variable {E : Env} {st : St} {Q : Ex → St → Prop} {R : St → Prop}

theorem vwp.mono {c : Code} {Q' : Ex → St → Prop} (h : vwp E c Q st) (hQ : ∀ ex s, Q ex s → Q' ex s) : vwp E c Q' st := by
  obtain ⟨n, ex, s, h1, h2⟩ := h; exact ⟨n, ex, s, h1, hQ _ _ h2⟩

theorem vwp_skip (h : Q .normal st) : vwp E .skip Q st := ⟨1, _, _, rfl, h⟩
theorem vwp_ret (h : Q .ret st) : vwp E .ret Q st := ⟨1, _, _, rfl, h⟩
theorem vwp_exit {id : Nat} (h : Q (.exit id) st) : vwp E (.exit id) Q st := ⟨1, _, _, rfl, h⟩

def Ex.thenV (Q : Ex → St → Prop) (K : St → Prop) : Ex → St → Prop
  | .normal, s => K s
  | ex, s => Q ex s

theorem vwp_seq {a b : Code} (h : vwp E a (Ex.thenV Q (vwp E b Q)) st) : vwp E (.seq a b) Q st := by
  obtain ⟨n, ex, s, h1, h2⟩ := h
  cases ex with
  | normal =>
    obtain ⟨k, ex', s', h3, h4⟩ := h2
    refine ⟨max n k + 1, ex', s', ?_, h4⟩
    rw [exec_succ]
    simp only [execF, exec_mono (Nat.le_max_left n k) h1]
    exact exec_mono (Nat.le_max_right n k) h3
  | exit id => exact ⟨n + 1, _, s, by rw [exec_succ]; simp only [execF, h1], h2⟩
  | ret => exact ⟨n + 1, _, s, by rw [exec_succ]; simp only [execF, h1], h2⟩

theorem vwp_cond {x : Operand} {a b : Code} {t : Bool} (hx : st.ev x = .bool t) (h : vwp E (if t then a else b) Q st) : vwp E (.cond x a b) Q st := by
  obtain ⟨n, ex, s, h1, h2⟩ := h
  refine ⟨n + 1, ex, s, ?_, h2⟩
  rw [exec_succ]
  simp only [execF, hx]
  cases t <;> exact h1

def Ex.blockV (id : Nat) (Q : Ex → St → Prop) : Ex → St → Prop
  | .exit i, s => Q (if i = id then .normal else .exit i) s
  | ex, s => Q ex s

theorem vwp_block {id : Nat} {b : Code} (h : vwp E b (Ex.blockV id Q) st) : vwp E (.block id b) Q st := by
  obtain ⟨n, ex, s, h1, h2⟩ := h
  cases ex with
  | exit i =>
    exact ⟨n + 1, if i = id then .normal else .exit i, s, by rw [exec_succ]; simp only [execF, h1, nbeq, cond_eq_ite, decide_eq_true_eq], h2⟩
  | normal => exact ⟨n + 1, _, s, by rw [exec_succ]; simp only [execF, h1], h2⟩
  | ret => exact ⟨n + 1, _, s, by rw [exec_succ]; simp only [execF, h1], h2⟩

theorem vwp_loop {b : Code} (h : vwp E b (Ex.thenV Q (vwp E (.loop b) Q)) st) : vwp E (.loop b) Q st := by
  obtain ⟨n, ex, s, h1, h2⟩ := h
  cases ex with
  | normal =>
    obtain ⟨k, ex', s', h3, h4⟩ := h2
    refine ⟨max n k + 1, ex', s', ?_, h4⟩
    rw [exec_succ]
    simp only [execF, exec_mono (Nat.le_max_left n k) h1]
    exact exec_mono (Nat.le_max_right n k) h3
  | exit id => exact ⟨n + 1, _, s, by rw [exec_succ]; simp only [execF, h1], h2⟩
  | ret => exact ⟨n + 1, _, s, by rw [exec_succ]; simp only [execF, h1], h2⟩

theorem vwp_region {id : Nat} {ops : Array Oper} (h : vops E ops.toList ops.toList (Q .normal) st) : vwp E (.region id ops false) Q st := by
  obtain ⟨n, s, h1, h2⟩ := h
  exact ⟨n + 1, .normal, s, by rw [exec_succ]; simp only [execF]; rw [show callF E (exec E n) = call E n from rfl, h1]; rfl, h2⟩

theorem vops_nil {ops : List Oper} (h : R st) : vops E ops [] R st := ⟨0, st, rfl, h⟩

theorem vops_one {ops : List Oper} {o : Oper} {l : List Oper} {n : Nat} {s : St} (ho : runOne E (call E n) ops st o = some s) (h : vops E ops l R s) : vops E ops (o :: l) R st := by
  obtain ⟨k, s', h1, h2⟩ := h
  refine ⟨max n k, s', ?_, h2⟩
  simp only [runSeq, runOne_mono (call_mono (Nat.le_max_left n k)) ho]
  exact runSeq_mono (call_mono (Nat.le_max_right n k)) h1

theorem vops_cons {ops : List Oper} {o : Oper} {l : List Oper} {n : Nat} {s : St} (ho : runOp E (call E n) ops st o = some s) (h : vops E ops l R s) (hc : isComm o.op = false := by rfl) : vops E ops (o :: l) R st :=
  vops_one (n := n) (by unfold runOne; rw [hc, cond_false, ho]) h
end
end Go.V
end

section
/-
  Walking code on the abstract machine with symbols in its slots: what 'simp' needs.
-/
namespace Go.V
def sget (s : Slots) (d : Nat) : AVal := (Slots.get s d).getD .any
theorem sget_put (s : Slots) (d x : Nat) (v : AVal) (h : d < 256) : sget (Slots.put s d v) x = if x = d then v else sget s x := by
  unfold sget; rw [Slots.get_put _ _ _ _ h]; split <;> rfl
theorem St.slot_mk (f nt : Nat) (s : Slots) (m : Mem) (d : Nat) : St.slot ⟨f, nt, s, m⟩ d = sget s d := rfl
theorem St.put_mk (f nt : Nat) (s : Slots) (m : Mem) (d : Nat) (v : AVal) (h : d < nt) : St.put ⟨f, nt, s, m⟩ (some d) v = some ⟨f, nt, Slots.put s d v, m⟩ := by
  simp [St.put, nblt, h]
theorem natOf_cast (k : IntKind) (n : Nat) : natOf (.int k (n : Int)) = some n := rfl
theorem wrap_succ {n : Nat} (h : n < 1000000000) : IntKind.i64.wrap ((n : Int) + 1) = ((n + 1 : Nat) : Int) := by
  rw [IntWalk.i64_in _ (by omega)]; omega
theorem get_add0 (B : Block) : (Mem.add Mem.nil B).get 0 = some B := by rw [get_add _ _ (by decide)]; rfl
end Go.V
end

section
/-
  Calls, walked on the abstract machine.
-/
namespace Go.V
section
variable {E : Env}

theorem vcall.mono {f : FuncId} {args : List AVal} {m : Mem} {Q Q' : AVal → Mem → Prop} (h : vcall E f args m Q) (hQ : ∀ v m', Q v m' → Q' v m') : vcall E f args m Q' := by
  obtain ⟨n, v, m', h1, h2⟩ := h; exact ⟨n, v, m', h1, hQ _ _ h2⟩

theorem vops_call {st : St} {ops : List Oper} {o : Oper} {l : List Oper} {R : St → Prop} {g : FuncId} {args : Array Operand} {tys : Array TypeId} (hw : wanted ops st o = some true) (hop : o.op = .call ⟨.value (.func g), args, tys⟩)
    {avs : List AVal} (ha : args.toList.map st.ev = avs) (h : vcall E g avs st.mem fun v m' => ∃ s', St.put { st with mem := m' } o.dst v = some s' ∧ vops E ops l R s') : vops E ops (o :: l) R st := by
  obtain ⟨n, v, m', h1, s', h2, h3⟩ := h
  refine vops_cons (n := n) (s := s') ?_ h3 (by rw [hop]; rfl)
  unfold runOp
  rw [hw, hop]
  have e1 : isHeavy (.call ⟨.value (.func g), args, tys⟩) = true := rfl
  have e2 : heavy E (call E n) st.mem st.ev (.call ⟨.value (.func g), args, tys⟩) = some (v, m') := by
    have : st.ev (.func g) = .fn g [] [] := rfl
    simp only [heavy, this, List.nil_append, List.append_nil, ha, h1]
  simp only [e1, cond_true, e2, h2]

theorem vcall_body {f : FuncId} {fn : Func} {c : Code} {args : List AVal} {m : Mem} {Q : AVal → Mem → Prop} (ho : E.orc f args = none) (hf : E.fns.get f = some fn) (hb : fn.body = some c) (hl : args.length ≤ fn.ntmps) (hn : fn.ntmps ≤ 256)
    (h : vwp E c (fun ex st => (ex = .normal ∨ ex = .ret) ∧ ∃ vs, resultVals E st fn.results.toList = some vs ∧ Q (oneOr vs) st.mem) ⟨f, fn.ntmps, argSlots 0 args Slots.nil, m⟩) : vcall E f args m Q := by
  obtain ⟨n, ex, st, h1, h2, vs, h3, h4⟩ := h
  refine ⟨n, oneOr vs, st.mem, ?_, h4⟩
  show callF E (exec E n) f args m = _
  unfold callF
  simp only [ho, hf, hb, nble, hl, hn, decide_true, Bool.and_self, cond_true, h1]
  rcases h2 with rfl | rfl <;> simp only [h3, Option.map_some]

/-- Memory has grown by so many blocks at most; what was there is as it was. -/
structure Grew (m m' : Mem) (k : Nat) : Prop where
  up : m.next ≤ m'.next
  most : m'.next ≤ m.next + k
  keep : ∀ b, b < m.next → m'.get b = m.get b

theorem Grew.refl (m : Mem) : Grew m m 0 := ⟨Nat.le_refl _, Nat.le_refl _, fun _ _ => rfl⟩
theorem Grew.trans {a b c : Mem} {j k l : Nat} (h : Grew a b j) (h' : Grew b c k) (hl : j + k ≤ l) : Grew a c l :=
  ⟨Nat.le_trans h.up h'.up, by have := h.most; have := h'.most; omega, fun x hx => (h'.keep x (by have := h.up; omega)).trans (h.keep x hx)⟩
theorem Grew.mono {a b : Mem} {j k : Nat} (h : Grew a b j) (hk : j ≤ k) : Grew a b k := ⟨h.up, by have := h.most; omega, h.keep⟩
theorem Grew.add (m : Mem) (blk : Block) (h : m.next < 1048576) : Grew m (m.add blk) 1 :=
  ⟨Nat.le_succ _, Nat.le_refl _, fun b hb => by rw [get_add m blk h, if_neg (by omega)]⟩
theorem get_add_self (m : Mem) (blk : Block) (h : m.next < 1048576) : (m.add blk).get m.next = some blk := by rw [get_add m blk h, if_pos rfl]
theorem next_add (m : Mem) (blk : Block) : (m.add blk).next = m.next + 1 := rfl
end
end Go.V
end

section
/-
  How a slot is read and written: a closure for each slot. Printed by a program.
-/
namespace Go.V
structure GC where
  g : Slots → AVal
structure SC where
  p : Slots → AVal → Slots
noncomputable def u1a (s : (Q4 AVal)) (v : AVal) : (Q4 AVal) := @Q4.rec AVal (fun _ => AVal → (Q4 AVal)) (fun _ b c d v => ⟨v, b, c, d⟩) s v
noncomputable def u1b (s : (Q4 AVal)) (v : AVal) : (Q4 AVal) := @Q4.rec AVal (fun _ => AVal → (Q4 AVal)) (fun a _ c d v => ⟨a, v, c, d⟩) s v
noncomputable def u1c (s : (Q4 AVal)) (v : AVal) : (Q4 AVal) := @Q4.rec AVal (fun _ => AVal → (Q4 AVal)) (fun a b _ d v => ⟨a, b, v, d⟩) s v
noncomputable def u1d (s : (Q4 AVal)) (v : AVal) : (Q4 AVal) := @Q4.rec AVal (fun _ => AVal → (Q4 AVal)) (fun a b c _ v => ⟨a, b, c, v⟩) s v
noncomputable def u2a (f : ((Q4 AVal) → AVal → (Q4 AVal))) (s : (Q4 (Q4 AVal))) (v : AVal) : (Q4 (Q4 AVal)) := @Q4.rec (Q4 AVal) (fun _ => ((Q4 AVal) → AVal → (Q4 AVal)) → AVal → (Q4 (Q4 AVal))) (fun a b c d f v => ⟨f a v, b, c, d⟩) s f v
noncomputable def u2b (f : ((Q4 AVal) → AVal → (Q4 AVal))) (s : (Q4 (Q4 AVal))) (v : AVal) : (Q4 (Q4 AVal)) := @Q4.rec (Q4 AVal) (fun _ => ((Q4 AVal) → AVal → (Q4 AVal)) → AVal → (Q4 (Q4 AVal))) (fun a b c d f v => ⟨a, f b v, c, d⟩) s f v
noncomputable def u2c (f : ((Q4 AVal) → AVal → (Q4 AVal))) (s : (Q4 (Q4 AVal))) (v : AVal) : (Q4 (Q4 AVal)) := @Q4.rec (Q4 AVal) (fun _ => ((Q4 AVal) → AVal → (Q4 AVal)) → AVal → (Q4 (Q4 AVal))) (fun a b c d f v => ⟨a, b, f c v, d⟩) s f v
noncomputable def u2d (f : ((Q4 AVal) → AVal → (Q4 AVal))) (s : (Q4 (Q4 AVal))) (v : AVal) : (Q4 (Q4 AVal)) := @Q4.rec (Q4 AVal) (fun _ => ((Q4 AVal) → AVal → (Q4 AVal)) → AVal → (Q4 (Q4 AVal))) (fun a b c d f v => ⟨a, b, c, f d v⟩) s f v
noncomputable def u3a (f : ((Q4 (Q4 AVal)) → AVal → (Q4 (Q4 AVal)))) (s : (Q4 (Q4 (Q4 AVal)))) (v : AVal) : (Q4 (Q4 (Q4 AVal))) := @Q4.rec (Q4 (Q4 AVal)) (fun _ => ((Q4 (Q4 AVal)) → AVal → (Q4 (Q4 AVal))) → AVal → (Q4 (Q4 (Q4 AVal)))) (fun a b c d f v => ⟨f a v, b, c, d⟩) s f v
noncomputable def u3b (f : ((Q4 (Q4 AVal)) → AVal → (Q4 (Q4 AVal)))) (s : (Q4 (Q4 (Q4 AVal)))) (v : AVal) : (Q4 (Q4 (Q4 AVal))) := @Q4.rec (Q4 (Q4 AVal)) (fun _ => ((Q4 (Q4 AVal)) → AVal → (Q4 (Q4 AVal))) → AVal → (Q4 (Q4 (Q4 AVal)))) (fun a b c d f v => ⟨a, f b v, c, d⟩) s f v
noncomputable def u3c (f : ((Q4 (Q4 AVal)) → AVal → (Q4 (Q4 AVal)))) (s : (Q4 (Q4 (Q4 AVal)))) (v : AVal) : (Q4 (Q4 (Q4 AVal))) := @Q4.rec (Q4 (Q4 AVal)) (fun _ => ((Q4 (Q4 AVal)) → AVal → (Q4 (Q4 AVal))) → AVal → (Q4 (Q4 (Q4 AVal)))) (fun a b c d f v => ⟨a, b, f c v, d⟩) s f v
noncomputable def u3d (f : ((Q4 (Q4 AVal)) → AVal → (Q4 (Q4 AVal)))) (s : (Q4 (Q4 (Q4 AVal)))) (v : AVal) : (Q4 (Q4 (Q4 AVal))) := @Q4.rec (Q4 (Q4 AVal)) (fun _ => ((Q4 (Q4 AVal)) → AVal → (Q4 (Q4 AVal))) → AVal → (Q4 (Q4 (Q4 AVal)))) (fun a b c d f v => ⟨a, b, c, f d v⟩) s f v
noncomputable def u4a (f : ((Q4 (Q4 (Q4 AVal))) → AVal → (Q4 (Q4 (Q4 AVal))))) (s : (Q4 (Q4 (Q4 (Q4 AVal))))) (v : AVal) : (Q4 (Q4 (Q4 (Q4 AVal)))) := @Q4.rec (Q4 (Q4 (Q4 AVal))) (fun _ => ((Q4 (Q4 (Q4 AVal))) → AVal → (Q4 (Q4 (Q4 AVal)))) → AVal → (Q4 (Q4 (Q4 (Q4 AVal))))) (fun a b c d f v => ⟨f a v, b, c, d⟩) s f v
noncomputable def u4b (f : ((Q4 (Q4 (Q4 AVal))) → AVal → (Q4 (Q4 (Q4 AVal))))) (s : (Q4 (Q4 (Q4 (Q4 AVal))))) (v : AVal) : (Q4 (Q4 (Q4 (Q4 AVal)))) := @Q4.rec (Q4 (Q4 (Q4 AVal))) (fun _ => ((Q4 (Q4 (Q4 AVal))) → AVal → (Q4 (Q4 (Q4 AVal)))) → AVal → (Q4 (Q4 (Q4 (Q4 AVal))))) (fun a b c d f v => ⟨a, f b v, c, d⟩) s f v
noncomputable def u4c (f : ((Q4 (Q4 (Q4 AVal))) → AVal → (Q4 (Q4 (Q4 AVal))))) (s : (Q4 (Q4 (Q4 (Q4 AVal))))) (v : AVal) : (Q4 (Q4 (Q4 (Q4 AVal)))) := @Q4.rec (Q4 (Q4 (Q4 AVal))) (fun _ => ((Q4 (Q4 (Q4 AVal))) → AVal → (Q4 (Q4 (Q4 AVal)))) → AVal → (Q4 (Q4 (Q4 (Q4 AVal))))) (fun a b c d f v => ⟨a, b, f c v, d⟩) s f v
noncomputable def u4d (f : ((Q4 (Q4 (Q4 AVal))) → AVal → (Q4 (Q4 (Q4 AVal))))) (s : (Q4 (Q4 (Q4 (Q4 AVal))))) (v : AVal) : (Q4 (Q4 (Q4 (Q4 AVal)))) := @Q4.rec (Q4 (Q4 (Q4 AVal))) (fun _ => ((Q4 (Q4 (Q4 AVal))) → AVal → (Q4 (Q4 (Q4 AVal)))) → AVal → (Q4 (Q4 (Q4 (Q4 AVal))))) (fun a b c d f v => ⟨a, b, c, f d v⟩) s f v
def gtab : List GC := [
  ⟨fun s => Q4.a (α := AVal) (Q4.a (α := Q4 AVal) (Q4.a (α := Q4 (Q4 AVal)) (Q4.a (α := Q4 (Q4 (Q4 AVal))) s)))⟩,
  ⟨fun s => Q4.a (α := AVal) (Q4.a (α := Q4 AVal) (Q4.a (α := Q4 (Q4 AVal)) (Q4.b (α := Q4 (Q4 (Q4 AVal))) s)))⟩,
  ⟨fun s => Q4.a (α := AVal) (Q4.a (α := Q4 AVal) (Q4.a (α := Q4 (Q4 AVal)) (Q4.c (α := Q4 (Q4 (Q4 AVal))) s)))⟩,
  ⟨fun s => Q4.a (α := AVal) (Q4.a (α := Q4 AVal) (Q4.a (α := Q4 (Q4 AVal)) (Q4.d (α := Q4 (Q4 (Q4 AVal))) s)))⟩,
  ⟨fun s => Q4.a (α := AVal) (Q4.a (α := Q4 AVal) (Q4.b (α := Q4 (Q4 AVal)) (Q4.a (α := Q4 (Q4 (Q4 AVal))) s)))⟩,
  ⟨fun s => Q4.a (α := AVal) (Q4.a (α := Q4 AVal) (Q4.b (α := Q4 (Q4 AVal)) (Q4.b (α := Q4 (Q4 (Q4 AVal))) s)))⟩,
  ⟨fun s => Q4.a (α := AVal) (Q4.a (α := Q4 AVal) (Q4.b (α := Q4 (Q4 AVal)) (Q4.c (α := Q4 (Q4 (Q4 AVal))) s)))⟩,
  ⟨fun s => Q4.a (α := AVal) (Q4.a (α := Q4 AVal) (Q4.b (α := Q4 (Q4 AVal)) (Q4.d (α := Q4 (Q4 (Q4 AVal))) s)))⟩,
  ⟨fun s => Q4.a (α := AVal) (Q4.a (α := Q4 AVal) (Q4.c (α := Q4 (Q4 AVal)) (Q4.a (α := Q4 (Q4 (Q4 AVal))) s)))⟩,
  ⟨fun s => Q4.a (α := AVal) (Q4.a (α := Q4 AVal) (Q4.c (α := Q4 (Q4 AVal)) (Q4.b (α := Q4 (Q4 (Q4 AVal))) s)))⟩,
  ⟨fun s => Q4.a (α := AVal) (Q4.a (α := Q4 AVal) (Q4.c (α := Q4 (Q4 AVal)) (Q4.c (α := Q4 (Q4 (Q4 AVal))) s)))⟩,
  ⟨fun s => Q4.a (α := AVal) (Q4.a (α := Q4 AVal) (Q4.c (α := Q4 (Q4 AVal)) (Q4.d (α := Q4 (Q4 (Q4 AVal))) s)))⟩,
  ⟨fun s => Q4.a (α := AVal) (Q4.a (α := Q4 AVal) (Q4.d (α := Q4 (Q4 AVal)) (Q4.a (α := Q4 (Q4 (Q4 AVal))) s)))⟩,
  ⟨fun s => Q4.a (α := AVal) (Q4.a (α := Q4 AVal) (Q4.d (α := Q4 (Q4 AVal)) (Q4.b (α := Q4 (Q4 (Q4 AVal))) s)))⟩,
  ⟨fun s => Q4.a (α := AVal) (Q4.a (α := Q4 AVal) (Q4.d (α := Q4 (Q4 AVal)) (Q4.c (α := Q4 (Q4 (Q4 AVal))) s)))⟩,
  ⟨fun s => Q4.a (α := AVal) (Q4.a (α := Q4 AVal) (Q4.d (α := Q4 (Q4 AVal)) (Q4.d (α := Q4 (Q4 (Q4 AVal))) s)))⟩,
  ⟨fun s => Q4.a (α := AVal) (Q4.b (α := Q4 AVal) (Q4.a (α := Q4 (Q4 AVal)) (Q4.a (α := Q4 (Q4 (Q4 AVal))) s)))⟩,
  ⟨fun s => Q4.a (α := AVal) (Q4.b (α := Q4 AVal) (Q4.a (α := Q4 (Q4 AVal)) (Q4.b (α := Q4 (Q4 (Q4 AVal))) s)))⟩,
  ⟨fun s => Q4.a (α := AVal) (Q4.b (α := Q4 AVal) (Q4.a (α := Q4 (Q4 AVal)) (Q4.c (α := Q4 (Q4 (Q4 AVal))) s)))⟩,
  ⟨fun s => Q4.a (α := AVal) (Q4.b (α := Q4 AVal) (Q4.a (α := Q4 (Q4 AVal)) (Q4.d (α := Q4 (Q4 (Q4 AVal))) s)))⟩,
  ⟨fun s => Q4.a (α := AVal) (Q4.b (α := Q4 AVal) (Q4.b (α := Q4 (Q4 AVal)) (Q4.a (α := Q4 (Q4 (Q4 AVal))) s)))⟩,
  ⟨fun s => Q4.a (α := AVal) (Q4.b (α := Q4 AVal) (Q4.b (α := Q4 (Q4 AVal)) (Q4.b (α := Q4 (Q4 (Q4 AVal))) s)))⟩,
  ⟨fun s => Q4.a (α := AVal) (Q4.b (α := Q4 AVal) (Q4.b (α := Q4 (Q4 AVal)) (Q4.c (α := Q4 (Q4 (Q4 AVal))) s)))⟩,
  ⟨fun s => Q4.a (α := AVal) (Q4.b (α := Q4 AVal) (Q4.b (α := Q4 (Q4 AVal)) (Q4.d (α := Q4 (Q4 (Q4 AVal))) s)))⟩,
  ⟨fun s => Q4.a (α := AVal) (Q4.b (α := Q4 AVal) (Q4.c (α := Q4 (Q4 AVal)) (Q4.a (α := Q4 (Q4 (Q4 AVal))) s)))⟩,
  ⟨fun s => Q4.a (α := AVal) (Q4.b (α := Q4 AVal) (Q4.c (α := Q4 (Q4 AVal)) (Q4.b (α := Q4 (Q4 (Q4 AVal))) s)))⟩,
  ⟨fun s => Q4.a (α := AVal) (Q4.b (α := Q4 AVal) (Q4.c (α := Q4 (Q4 AVal)) (Q4.c (α := Q4 (Q4 (Q4 AVal))) s)))⟩,
  ⟨fun s => Q4.a (α := AVal) (Q4.b (α := Q4 AVal) (Q4.c (α := Q4 (Q4 AVal)) (Q4.d (α := Q4 (Q4 (Q4 AVal))) s)))⟩,
  ⟨fun s => Q4.a (α := AVal) (Q4.b (α := Q4 AVal) (Q4.d (α := Q4 (Q4 AVal)) (Q4.a (α := Q4 (Q4 (Q4 AVal))) s)))⟩,
  ⟨fun s => Q4.a (α := AVal) (Q4.b (α := Q4 AVal) (Q4.d (α := Q4 (Q4 AVal)) (Q4.b (α := Q4 (Q4 (Q4 AVal))) s)))⟩,
  ⟨fun s => Q4.a (α := AVal) (Q4.b (α := Q4 AVal) (Q4.d (α := Q4 (Q4 AVal)) (Q4.c (α := Q4 (Q4 (Q4 AVal))) s)))⟩,
  ⟨fun s => Q4.a (α := AVal) (Q4.b (α := Q4 AVal) (Q4.d (α := Q4 (Q4 AVal)) (Q4.d (α := Q4 (Q4 (Q4 AVal))) s)))⟩,
  ⟨fun s => Q4.a (α := AVal) (Q4.c (α := Q4 AVal) (Q4.a (α := Q4 (Q4 AVal)) (Q4.a (α := Q4 (Q4 (Q4 AVal))) s)))⟩,
  ⟨fun s => Q4.a (α := AVal) (Q4.c (α := Q4 AVal) (Q4.a (α := Q4 (Q4 AVal)) (Q4.b (α := Q4 (Q4 (Q4 AVal))) s)))⟩,
  ⟨fun s => Q4.a (α := AVal) (Q4.c (α := Q4 AVal) (Q4.a (α := Q4 (Q4 AVal)) (Q4.c (α := Q4 (Q4 (Q4 AVal))) s)))⟩,
  ⟨fun s => Q4.a (α := AVal) (Q4.c (α := Q4 AVal) (Q4.a (α := Q4 (Q4 AVal)) (Q4.d (α := Q4 (Q4 (Q4 AVal))) s)))⟩,
  ⟨fun s => Q4.a (α := AVal) (Q4.c (α := Q4 AVal) (Q4.b (α := Q4 (Q4 AVal)) (Q4.a (α := Q4 (Q4 (Q4 AVal))) s)))⟩,
  ⟨fun s => Q4.a (α := AVal) (Q4.c (α := Q4 AVal) (Q4.b (α := Q4 (Q4 AVal)) (Q4.b (α := Q4 (Q4 (Q4 AVal))) s)))⟩,
  ⟨fun s => Q4.a (α := AVal) (Q4.c (α := Q4 AVal) (Q4.b (α := Q4 (Q4 AVal)) (Q4.c (α := Q4 (Q4 (Q4 AVal))) s)))⟩,
  ⟨fun s => Q4.a (α := AVal) (Q4.c (α := Q4 AVal) (Q4.b (α := Q4 (Q4 AVal)) (Q4.d (α := Q4 (Q4 (Q4 AVal))) s)))⟩,
  ⟨fun s => Q4.a (α := AVal) (Q4.c (α := Q4 AVal) (Q4.c (α := Q4 (Q4 AVal)) (Q4.a (α := Q4 (Q4 (Q4 AVal))) s)))⟩,
  ⟨fun s => Q4.a (α := AVal) (Q4.c (α := Q4 AVal) (Q4.c (α := Q4 (Q4 AVal)) (Q4.b (α := Q4 (Q4 (Q4 AVal))) s)))⟩,
  ⟨fun s => Q4.a (α := AVal) (Q4.c (α := Q4 AVal) (Q4.c (α := Q4 (Q4 AVal)) (Q4.c (α := Q4 (Q4 (Q4 AVal))) s)))⟩,
  ⟨fun s => Q4.a (α := AVal) (Q4.c (α := Q4 AVal) (Q4.c (α := Q4 (Q4 AVal)) (Q4.d (α := Q4 (Q4 (Q4 AVal))) s)))⟩,
  ⟨fun s => Q4.a (α := AVal) (Q4.c (α := Q4 AVal) (Q4.d (α := Q4 (Q4 AVal)) (Q4.a (α := Q4 (Q4 (Q4 AVal))) s)))⟩,
  ⟨fun s => Q4.a (α := AVal) (Q4.c (α := Q4 AVal) (Q4.d (α := Q4 (Q4 AVal)) (Q4.b (α := Q4 (Q4 (Q4 AVal))) s)))⟩,
  ⟨fun s => Q4.a (α := AVal) (Q4.c (α := Q4 AVal) (Q4.d (α := Q4 (Q4 AVal)) (Q4.c (α := Q4 (Q4 (Q4 AVal))) s)))⟩,
  ⟨fun s => Q4.a (α := AVal) (Q4.c (α := Q4 AVal) (Q4.d (α := Q4 (Q4 AVal)) (Q4.d (α := Q4 (Q4 (Q4 AVal))) s)))⟩,
  ⟨fun s => Q4.a (α := AVal) (Q4.d (α := Q4 AVal) (Q4.a (α := Q4 (Q4 AVal)) (Q4.a (α := Q4 (Q4 (Q4 AVal))) s)))⟩,
  ⟨fun s => Q4.a (α := AVal) (Q4.d (α := Q4 AVal) (Q4.a (α := Q4 (Q4 AVal)) (Q4.b (α := Q4 (Q4 (Q4 AVal))) s)))⟩,
  ⟨fun s => Q4.a (α := AVal) (Q4.d (α := Q4 AVal) (Q4.a (α := Q4 (Q4 AVal)) (Q4.c (α := Q4 (Q4 (Q4 AVal))) s)))⟩,
  ⟨fun s => Q4.a (α := AVal) (Q4.d (α := Q4 AVal) (Q4.a (α := Q4 (Q4 AVal)) (Q4.d (α := Q4 (Q4 (Q4 AVal))) s)))⟩,
  ⟨fun s => Q4.a (α := AVal) (Q4.d (α := Q4 AVal) (Q4.b (α := Q4 (Q4 AVal)) (Q4.a (α := Q4 (Q4 (Q4 AVal))) s)))⟩,
  ⟨fun s => Q4.a (α := AVal) (Q4.d (α := Q4 AVal) (Q4.b (α := Q4 (Q4 AVal)) (Q4.b (α := Q4 (Q4 (Q4 AVal))) s)))⟩,
  ⟨fun s => Q4.a (α := AVal) (Q4.d (α := Q4 AVal) (Q4.b (α := Q4 (Q4 AVal)) (Q4.c (α := Q4 (Q4 (Q4 AVal))) s)))⟩,
  ⟨fun s => Q4.a (α := AVal) (Q4.d (α := Q4 AVal) (Q4.b (α := Q4 (Q4 AVal)) (Q4.d (α := Q4 (Q4 (Q4 AVal))) s)))⟩,
  ⟨fun s => Q4.a (α := AVal) (Q4.d (α := Q4 AVal) (Q4.c (α := Q4 (Q4 AVal)) (Q4.a (α := Q4 (Q4 (Q4 AVal))) s)))⟩,
  ⟨fun s => Q4.a (α := AVal) (Q4.d (α := Q4 AVal) (Q4.c (α := Q4 (Q4 AVal)) (Q4.b (α := Q4 (Q4 (Q4 AVal))) s)))⟩,
  ⟨fun s => Q4.a (α := AVal) (Q4.d (α := Q4 AVal) (Q4.c (α := Q4 (Q4 AVal)) (Q4.c (α := Q4 (Q4 (Q4 AVal))) s)))⟩,
  ⟨fun s => Q4.a (α := AVal) (Q4.d (α := Q4 AVal) (Q4.c (α := Q4 (Q4 AVal)) (Q4.d (α := Q4 (Q4 (Q4 AVal))) s)))⟩,
  ⟨fun s => Q4.a (α := AVal) (Q4.d (α := Q4 AVal) (Q4.d (α := Q4 (Q4 AVal)) (Q4.a (α := Q4 (Q4 (Q4 AVal))) s)))⟩,
  ⟨fun s => Q4.a (α := AVal) (Q4.d (α := Q4 AVal) (Q4.d (α := Q4 (Q4 AVal)) (Q4.b (α := Q4 (Q4 (Q4 AVal))) s)))⟩,
  ⟨fun s => Q4.a (α := AVal) (Q4.d (α := Q4 AVal) (Q4.d (α := Q4 (Q4 AVal)) (Q4.c (α := Q4 (Q4 (Q4 AVal))) s)))⟩,
  ⟨fun s => Q4.a (α := AVal) (Q4.d (α := Q4 AVal) (Q4.d (α := Q4 (Q4 AVal)) (Q4.d (α := Q4 (Q4 (Q4 AVal))) s)))⟩,
  ⟨fun s => Q4.b (α := AVal) (Q4.a (α := Q4 AVal) (Q4.a (α := Q4 (Q4 AVal)) (Q4.a (α := Q4 (Q4 (Q4 AVal))) s)))⟩,
  ⟨fun s => Q4.b (α := AVal) (Q4.a (α := Q4 AVal) (Q4.a (α := Q4 (Q4 AVal)) (Q4.b (α := Q4 (Q4 (Q4 AVal))) s)))⟩,
  ⟨fun s => Q4.b (α := AVal) (Q4.a (α := Q4 AVal) (Q4.a (α := Q4 (Q4 AVal)) (Q4.c (α := Q4 (Q4 (Q4 AVal))) s)))⟩,
  ⟨fun s => Q4.b (α := AVal) (Q4.a (α := Q4 AVal) (Q4.a (α := Q4 (Q4 AVal)) (Q4.d (α := Q4 (Q4 (Q4 AVal))) s)))⟩,
  ⟨fun s => Q4.b (α := AVal) (Q4.a (α := Q4 AVal) (Q4.b (α := Q4 (Q4 AVal)) (Q4.a (α := Q4 (Q4 (Q4 AVal))) s)))⟩,
  ⟨fun s => Q4.b (α := AVal) (Q4.a (α := Q4 AVal) (Q4.b (α := Q4 (Q4 AVal)) (Q4.b (α := Q4 (Q4 (Q4 AVal))) s)))⟩,
  ⟨fun s => Q4.b (α := AVal) (Q4.a (α := Q4 AVal) (Q4.b (α := Q4 (Q4 AVal)) (Q4.c (α := Q4 (Q4 (Q4 AVal))) s)))⟩,
  ⟨fun s => Q4.b (α := AVal) (Q4.a (α := Q4 AVal) (Q4.b (α := Q4 (Q4 AVal)) (Q4.d (α := Q4 (Q4 (Q4 AVal))) s)))⟩,
  ⟨fun s => Q4.b (α := AVal) (Q4.a (α := Q4 AVal) (Q4.c (α := Q4 (Q4 AVal)) (Q4.a (α := Q4 (Q4 (Q4 AVal))) s)))⟩,
  ⟨fun s => Q4.b (α := AVal) (Q4.a (α := Q4 AVal) (Q4.c (α := Q4 (Q4 AVal)) (Q4.b (α := Q4 (Q4 (Q4 AVal))) s)))⟩,
  ⟨fun s => Q4.b (α := AVal) (Q4.a (α := Q4 AVal) (Q4.c (α := Q4 (Q4 AVal)) (Q4.c (α := Q4 (Q4 (Q4 AVal))) s)))⟩,
  ⟨fun s => Q4.b (α := AVal) (Q4.a (α := Q4 AVal) (Q4.c (α := Q4 (Q4 AVal)) (Q4.d (α := Q4 (Q4 (Q4 AVal))) s)))⟩,
  ⟨fun s => Q4.b (α := AVal) (Q4.a (α := Q4 AVal) (Q4.d (α := Q4 (Q4 AVal)) (Q4.a (α := Q4 (Q4 (Q4 AVal))) s)))⟩,
  ⟨fun s => Q4.b (α := AVal) (Q4.a (α := Q4 AVal) (Q4.d (α := Q4 (Q4 AVal)) (Q4.b (α := Q4 (Q4 (Q4 AVal))) s)))⟩,
  ⟨fun s => Q4.b (α := AVal) (Q4.a (α := Q4 AVal) (Q4.d (α := Q4 (Q4 AVal)) (Q4.c (α := Q4 (Q4 (Q4 AVal))) s)))⟩,
  ⟨fun s => Q4.b (α := AVal) (Q4.a (α := Q4 AVal) (Q4.d (α := Q4 (Q4 AVal)) (Q4.d (α := Q4 (Q4 (Q4 AVal))) s)))⟩,
  ⟨fun s => Q4.b (α := AVal) (Q4.b (α := Q4 AVal) (Q4.a (α := Q4 (Q4 AVal)) (Q4.a (α := Q4 (Q4 (Q4 AVal))) s)))⟩,
  ⟨fun s => Q4.b (α := AVal) (Q4.b (α := Q4 AVal) (Q4.a (α := Q4 (Q4 AVal)) (Q4.b (α := Q4 (Q4 (Q4 AVal))) s)))⟩,
  ⟨fun s => Q4.b (α := AVal) (Q4.b (α := Q4 AVal) (Q4.a (α := Q4 (Q4 AVal)) (Q4.c (α := Q4 (Q4 (Q4 AVal))) s)))⟩,
  ⟨fun s => Q4.b (α := AVal) (Q4.b (α := Q4 AVal) (Q4.a (α := Q4 (Q4 AVal)) (Q4.d (α := Q4 (Q4 (Q4 AVal))) s)))⟩,
  ⟨fun s => Q4.b (α := AVal) (Q4.b (α := Q4 AVal) (Q4.b (α := Q4 (Q4 AVal)) (Q4.a (α := Q4 (Q4 (Q4 AVal))) s)))⟩,
  ⟨fun s => Q4.b (α := AVal) (Q4.b (α := Q4 AVal) (Q4.b (α := Q4 (Q4 AVal)) (Q4.b (α := Q4 (Q4 (Q4 AVal))) s)))⟩,
  ⟨fun s => Q4.b (α := AVal) (Q4.b (α := Q4 AVal) (Q4.b (α := Q4 (Q4 AVal)) (Q4.c (α := Q4 (Q4 (Q4 AVal))) s)))⟩,
  ⟨fun s => Q4.b (α := AVal) (Q4.b (α := Q4 AVal) (Q4.b (α := Q4 (Q4 AVal)) (Q4.d (α := Q4 (Q4 (Q4 AVal))) s)))⟩,
  ⟨fun s => Q4.b (α := AVal) (Q4.b (α := Q4 AVal) (Q4.c (α := Q4 (Q4 AVal)) (Q4.a (α := Q4 (Q4 (Q4 AVal))) s)))⟩,
  ⟨fun s => Q4.b (α := AVal) (Q4.b (α := Q4 AVal) (Q4.c (α := Q4 (Q4 AVal)) (Q4.b (α := Q4 (Q4 (Q4 AVal))) s)))⟩,
  ⟨fun s => Q4.b (α := AVal) (Q4.b (α := Q4 AVal) (Q4.c (α := Q4 (Q4 AVal)) (Q4.c (α := Q4 (Q4 (Q4 AVal))) s)))⟩,
  ⟨fun s => Q4.b (α := AVal) (Q4.b (α := Q4 AVal) (Q4.c (α := Q4 (Q4 AVal)) (Q4.d (α := Q4 (Q4 (Q4 AVal))) s)))⟩,
  ⟨fun s => Q4.b (α := AVal) (Q4.b (α := Q4 AVal) (Q4.d (α := Q4 (Q4 AVal)) (Q4.a (α := Q4 (Q4 (Q4 AVal))) s)))⟩,
  ⟨fun s => Q4.b (α := AVal) (Q4.b (α := Q4 AVal) (Q4.d (α := Q4 (Q4 AVal)) (Q4.b (α := Q4 (Q4 (Q4 AVal))) s)))⟩,
  ⟨fun s => Q4.b (α := AVal) (Q4.b (α := Q4 AVal) (Q4.d (α := Q4 (Q4 AVal)) (Q4.c (α := Q4 (Q4 (Q4 AVal))) s)))⟩,
  ⟨fun s => Q4.b (α := AVal) (Q4.b (α := Q4 AVal) (Q4.d (α := Q4 (Q4 AVal)) (Q4.d (α := Q4 (Q4 (Q4 AVal))) s)))⟩,
  ⟨fun s => Q4.b (α := AVal) (Q4.c (α := Q4 AVal) (Q4.a (α := Q4 (Q4 AVal)) (Q4.a (α := Q4 (Q4 (Q4 AVal))) s)))⟩,
  ⟨fun s => Q4.b (α := AVal) (Q4.c (α := Q4 AVal) (Q4.a (α := Q4 (Q4 AVal)) (Q4.b (α := Q4 (Q4 (Q4 AVal))) s)))⟩,
  ⟨fun s => Q4.b (α := AVal) (Q4.c (α := Q4 AVal) (Q4.a (α := Q4 (Q4 AVal)) (Q4.c (α := Q4 (Q4 (Q4 AVal))) s)))⟩,
  ⟨fun s => Q4.b (α := AVal) (Q4.c (α := Q4 AVal) (Q4.a (α := Q4 (Q4 AVal)) (Q4.d (α := Q4 (Q4 (Q4 AVal))) s)))⟩,
  ⟨fun s => Q4.b (α := AVal) (Q4.c (α := Q4 AVal) (Q4.b (α := Q4 (Q4 AVal)) (Q4.a (α := Q4 (Q4 (Q4 AVal))) s)))⟩,
  ⟨fun s => Q4.b (α := AVal) (Q4.c (α := Q4 AVal) (Q4.b (α := Q4 (Q4 AVal)) (Q4.b (α := Q4 (Q4 (Q4 AVal))) s)))⟩,
  ⟨fun s => Q4.b (α := AVal) (Q4.c (α := Q4 AVal) (Q4.b (α := Q4 (Q4 AVal)) (Q4.c (α := Q4 (Q4 (Q4 AVal))) s)))⟩,
  ⟨fun s => Q4.b (α := AVal) (Q4.c (α := Q4 AVal) (Q4.b (α := Q4 (Q4 AVal)) (Q4.d (α := Q4 (Q4 (Q4 AVal))) s)))⟩,
  ⟨fun s => Q4.b (α := AVal) (Q4.c (α := Q4 AVal) (Q4.c (α := Q4 (Q4 AVal)) (Q4.a (α := Q4 (Q4 (Q4 AVal))) s)))⟩,
  ⟨fun s => Q4.b (α := AVal) (Q4.c (α := Q4 AVal) (Q4.c (α := Q4 (Q4 AVal)) (Q4.b (α := Q4 (Q4 (Q4 AVal))) s)))⟩,
  ⟨fun s => Q4.b (α := AVal) (Q4.c (α := Q4 AVal) (Q4.c (α := Q4 (Q4 AVal)) (Q4.c (α := Q4 (Q4 (Q4 AVal))) s)))⟩,
  ⟨fun s => Q4.b (α := AVal) (Q4.c (α := Q4 AVal) (Q4.c (α := Q4 (Q4 AVal)) (Q4.d (α := Q4 (Q4 (Q4 AVal))) s)))⟩,
  ⟨fun s => Q4.b (α := AVal) (Q4.c (α := Q4 AVal) (Q4.d (α := Q4 (Q4 AVal)) (Q4.a (α := Q4 (Q4 (Q4 AVal))) s)))⟩,
  ⟨fun s => Q4.b (α := AVal) (Q4.c (α := Q4 AVal) (Q4.d (α := Q4 (Q4 AVal)) (Q4.b (α := Q4 (Q4 (Q4 AVal))) s)))⟩,
  ⟨fun s => Q4.b (α := AVal) (Q4.c (α := Q4 AVal) (Q4.d (α := Q4 (Q4 AVal)) (Q4.c (α := Q4 (Q4 (Q4 AVal))) s)))⟩,
  ⟨fun s => Q4.b (α := AVal) (Q4.c (α := Q4 AVal) (Q4.d (α := Q4 (Q4 AVal)) (Q4.d (α := Q4 (Q4 (Q4 AVal))) s)))⟩,
  ⟨fun s => Q4.b (α := AVal) (Q4.d (α := Q4 AVal) (Q4.a (α := Q4 (Q4 AVal)) (Q4.a (α := Q4 (Q4 (Q4 AVal))) s)))⟩,
  ⟨fun s => Q4.b (α := AVal) (Q4.d (α := Q4 AVal) (Q4.a (α := Q4 (Q4 AVal)) (Q4.b (α := Q4 (Q4 (Q4 AVal))) s)))⟩,
  ⟨fun s => Q4.b (α := AVal) (Q4.d (α := Q4 AVal) (Q4.a (α := Q4 (Q4 AVal)) (Q4.c (α := Q4 (Q4 (Q4 AVal))) s)))⟩,
  ⟨fun s => Q4.b (α := AVal) (Q4.d (α := Q4 AVal) (Q4.a (α := Q4 (Q4 AVal)) (Q4.d (α := Q4 (Q4 (Q4 AVal))) s)))⟩,
  ⟨fun s => Q4.b (α := AVal) (Q4.d (α := Q4 AVal) (Q4.b (α := Q4 (Q4 AVal)) (Q4.a (α := Q4 (Q4 (Q4 AVal))) s)))⟩,
  ⟨fun s => Q4.b (α := AVal) (Q4.d (α := Q4 AVal) (Q4.b (α := Q4 (Q4 AVal)) (Q4.b (α := Q4 (Q4 (Q4 AVal))) s)))⟩,
  ⟨fun s => Q4.b (α := AVal) (Q4.d (α := Q4 AVal) (Q4.b (α := Q4 (Q4 AVal)) (Q4.c (α := Q4 (Q4 (Q4 AVal))) s)))⟩,
  ⟨fun s => Q4.b (α := AVal) (Q4.d (α := Q4 AVal) (Q4.b (α := Q4 (Q4 AVal)) (Q4.d (α := Q4 (Q4 (Q4 AVal))) s)))⟩,
  ⟨fun s => Q4.b (α := AVal) (Q4.d (α := Q4 AVal) (Q4.c (α := Q4 (Q4 AVal)) (Q4.a (α := Q4 (Q4 (Q4 AVal))) s)))⟩,
  ⟨fun s => Q4.b (α := AVal) (Q4.d (α := Q4 AVal) (Q4.c (α := Q4 (Q4 AVal)) (Q4.b (α := Q4 (Q4 (Q4 AVal))) s)))⟩,
  ⟨fun s => Q4.b (α := AVal) (Q4.d (α := Q4 AVal) (Q4.c (α := Q4 (Q4 AVal)) (Q4.c (α := Q4 (Q4 (Q4 AVal))) s)))⟩,
  ⟨fun s => Q4.b (α := AVal) (Q4.d (α := Q4 AVal) (Q4.c (α := Q4 (Q4 AVal)) (Q4.d (α := Q4 (Q4 (Q4 AVal))) s)))⟩,
  ⟨fun s => Q4.b (α := AVal) (Q4.d (α := Q4 AVal) (Q4.d (α := Q4 (Q4 AVal)) (Q4.a (α := Q4 (Q4 (Q4 AVal))) s)))⟩,
  ⟨fun s => Q4.b (α := AVal) (Q4.d (α := Q4 AVal) (Q4.d (α := Q4 (Q4 AVal)) (Q4.b (α := Q4 (Q4 (Q4 AVal))) s)))⟩,
  ⟨fun s => Q4.b (α := AVal) (Q4.d (α := Q4 AVal) (Q4.d (α := Q4 (Q4 AVal)) (Q4.c (α := Q4 (Q4 (Q4 AVal))) s)))⟩,
  ⟨fun s => Q4.b (α := AVal) (Q4.d (α := Q4 AVal) (Q4.d (α := Q4 (Q4 AVal)) (Q4.d (α := Q4 (Q4 (Q4 AVal))) s)))⟩,
  ⟨fun s => Q4.c (α := AVal) (Q4.a (α := Q4 AVal) (Q4.a (α := Q4 (Q4 AVal)) (Q4.a (α := Q4 (Q4 (Q4 AVal))) s)))⟩,
  ⟨fun s => Q4.c (α := AVal) (Q4.a (α := Q4 AVal) (Q4.a (α := Q4 (Q4 AVal)) (Q4.b (α := Q4 (Q4 (Q4 AVal))) s)))⟩,
  ⟨fun s => Q4.c (α := AVal) (Q4.a (α := Q4 AVal) (Q4.a (α := Q4 (Q4 AVal)) (Q4.c (α := Q4 (Q4 (Q4 AVal))) s)))⟩,
  ⟨fun s => Q4.c (α := AVal) (Q4.a (α := Q4 AVal) (Q4.a (α := Q4 (Q4 AVal)) (Q4.d (α := Q4 (Q4 (Q4 AVal))) s)))⟩,
  ⟨fun s => Q4.c (α := AVal) (Q4.a (α := Q4 AVal) (Q4.b (α := Q4 (Q4 AVal)) (Q4.a (α := Q4 (Q4 (Q4 AVal))) s)))⟩,
  ⟨fun s => Q4.c (α := AVal) (Q4.a (α := Q4 AVal) (Q4.b (α := Q4 (Q4 AVal)) (Q4.b (α := Q4 (Q4 (Q4 AVal))) s)))⟩,
  ⟨fun s => Q4.c (α := AVal) (Q4.a (α := Q4 AVal) (Q4.b (α := Q4 (Q4 AVal)) (Q4.c (α := Q4 (Q4 (Q4 AVal))) s)))⟩,
  ⟨fun s => Q4.c (α := AVal) (Q4.a (α := Q4 AVal) (Q4.b (α := Q4 (Q4 AVal)) (Q4.d (α := Q4 (Q4 (Q4 AVal))) s)))⟩,
  ⟨fun s => Q4.c (α := AVal) (Q4.a (α := Q4 AVal) (Q4.c (α := Q4 (Q4 AVal)) (Q4.a (α := Q4 (Q4 (Q4 AVal))) s)))⟩,
  ⟨fun s => Q4.c (α := AVal) (Q4.a (α := Q4 AVal) (Q4.c (α := Q4 (Q4 AVal)) (Q4.b (α := Q4 (Q4 (Q4 AVal))) s)))⟩,
  ⟨fun s => Q4.c (α := AVal) (Q4.a (α := Q4 AVal) (Q4.c (α := Q4 (Q4 AVal)) (Q4.c (α := Q4 (Q4 (Q4 AVal))) s)))⟩,
  ⟨fun s => Q4.c (α := AVal) (Q4.a (α := Q4 AVal) (Q4.c (α := Q4 (Q4 AVal)) (Q4.d (α := Q4 (Q4 (Q4 AVal))) s)))⟩,
  ⟨fun s => Q4.c (α := AVal) (Q4.a (α := Q4 AVal) (Q4.d (α := Q4 (Q4 AVal)) (Q4.a (α := Q4 (Q4 (Q4 AVal))) s)))⟩,
  ⟨fun s => Q4.c (α := AVal) (Q4.a (α := Q4 AVal) (Q4.d (α := Q4 (Q4 AVal)) (Q4.b (α := Q4 (Q4 (Q4 AVal))) s)))⟩,
  ⟨fun s => Q4.c (α := AVal) (Q4.a (α := Q4 AVal) (Q4.d (α := Q4 (Q4 AVal)) (Q4.c (α := Q4 (Q4 (Q4 AVal))) s)))⟩,
  ⟨fun s => Q4.c (α := AVal) (Q4.a (α := Q4 AVal) (Q4.d (α := Q4 (Q4 AVal)) (Q4.d (α := Q4 (Q4 (Q4 AVal))) s)))⟩,
  ⟨fun s => Q4.c (α := AVal) (Q4.b (α := Q4 AVal) (Q4.a (α := Q4 (Q4 AVal)) (Q4.a (α := Q4 (Q4 (Q4 AVal))) s)))⟩,
  ⟨fun s => Q4.c (α := AVal) (Q4.b (α := Q4 AVal) (Q4.a (α := Q4 (Q4 AVal)) (Q4.b (α := Q4 (Q4 (Q4 AVal))) s)))⟩,
  ⟨fun s => Q4.c (α := AVal) (Q4.b (α := Q4 AVal) (Q4.a (α := Q4 (Q4 AVal)) (Q4.c (α := Q4 (Q4 (Q4 AVal))) s)))⟩,
  ⟨fun s => Q4.c (α := AVal) (Q4.b (α := Q4 AVal) (Q4.a (α := Q4 (Q4 AVal)) (Q4.d (α := Q4 (Q4 (Q4 AVal))) s)))⟩,
  ⟨fun s => Q4.c (α := AVal) (Q4.b (α := Q4 AVal) (Q4.b (α := Q4 (Q4 AVal)) (Q4.a (α := Q4 (Q4 (Q4 AVal))) s)))⟩,
  ⟨fun s => Q4.c (α := AVal) (Q4.b (α := Q4 AVal) (Q4.b (α := Q4 (Q4 AVal)) (Q4.b (α := Q4 (Q4 (Q4 AVal))) s)))⟩,
  ⟨fun s => Q4.c (α := AVal) (Q4.b (α := Q4 AVal) (Q4.b (α := Q4 (Q4 AVal)) (Q4.c (α := Q4 (Q4 (Q4 AVal))) s)))⟩,
  ⟨fun s => Q4.c (α := AVal) (Q4.b (α := Q4 AVal) (Q4.b (α := Q4 (Q4 AVal)) (Q4.d (α := Q4 (Q4 (Q4 AVal))) s)))⟩,
  ⟨fun s => Q4.c (α := AVal) (Q4.b (α := Q4 AVal) (Q4.c (α := Q4 (Q4 AVal)) (Q4.a (α := Q4 (Q4 (Q4 AVal))) s)))⟩,
  ⟨fun s => Q4.c (α := AVal) (Q4.b (α := Q4 AVal) (Q4.c (α := Q4 (Q4 AVal)) (Q4.b (α := Q4 (Q4 (Q4 AVal))) s)))⟩,
  ⟨fun s => Q4.c (α := AVal) (Q4.b (α := Q4 AVal) (Q4.c (α := Q4 (Q4 AVal)) (Q4.c (α := Q4 (Q4 (Q4 AVal))) s)))⟩,
  ⟨fun s => Q4.c (α := AVal) (Q4.b (α := Q4 AVal) (Q4.c (α := Q4 (Q4 AVal)) (Q4.d (α := Q4 (Q4 (Q4 AVal))) s)))⟩,
  ⟨fun s => Q4.c (α := AVal) (Q4.b (α := Q4 AVal) (Q4.d (α := Q4 (Q4 AVal)) (Q4.a (α := Q4 (Q4 (Q4 AVal))) s)))⟩,
  ⟨fun s => Q4.c (α := AVal) (Q4.b (α := Q4 AVal) (Q4.d (α := Q4 (Q4 AVal)) (Q4.b (α := Q4 (Q4 (Q4 AVal))) s)))⟩,
  ⟨fun s => Q4.c (α := AVal) (Q4.b (α := Q4 AVal) (Q4.d (α := Q4 (Q4 AVal)) (Q4.c (α := Q4 (Q4 (Q4 AVal))) s)))⟩,
  ⟨fun s => Q4.c (α := AVal) (Q4.b (α := Q4 AVal) (Q4.d (α := Q4 (Q4 AVal)) (Q4.d (α := Q4 (Q4 (Q4 AVal))) s)))⟩,
  ⟨fun s => Q4.c (α := AVal) (Q4.c (α := Q4 AVal) (Q4.a (α := Q4 (Q4 AVal)) (Q4.a (α := Q4 (Q4 (Q4 AVal))) s)))⟩,
  ⟨fun s => Q4.c (α := AVal) (Q4.c (α := Q4 AVal) (Q4.a (α := Q4 (Q4 AVal)) (Q4.b (α := Q4 (Q4 (Q4 AVal))) s)))⟩,
  ⟨fun s => Q4.c (α := AVal) (Q4.c (α := Q4 AVal) (Q4.a (α := Q4 (Q4 AVal)) (Q4.c (α := Q4 (Q4 (Q4 AVal))) s)))⟩,
  ⟨fun s => Q4.c (α := AVal) (Q4.c (α := Q4 AVal) (Q4.a (α := Q4 (Q4 AVal)) (Q4.d (α := Q4 (Q4 (Q4 AVal))) s)))⟩,
  ⟨fun s => Q4.c (α := AVal) (Q4.c (α := Q4 AVal) (Q4.b (α := Q4 (Q4 AVal)) (Q4.a (α := Q4 (Q4 (Q4 AVal))) s)))⟩,
  ⟨fun s => Q4.c (α := AVal) (Q4.c (α := Q4 AVal) (Q4.b (α := Q4 (Q4 AVal)) (Q4.b (α := Q4 (Q4 (Q4 AVal))) s)))⟩,
  ⟨fun s => Q4.c (α := AVal) (Q4.c (α := Q4 AVal) (Q4.b (α := Q4 (Q4 AVal)) (Q4.c (α := Q4 (Q4 (Q4 AVal))) s)))⟩,
  ⟨fun s => Q4.c (α := AVal) (Q4.c (α := Q4 AVal) (Q4.b (α := Q4 (Q4 AVal)) (Q4.d (α := Q4 (Q4 (Q4 AVal))) s)))⟩,
  ⟨fun s => Q4.c (α := AVal) (Q4.c (α := Q4 AVal) (Q4.c (α := Q4 (Q4 AVal)) (Q4.a (α := Q4 (Q4 (Q4 AVal))) s)))⟩,
  ⟨fun s => Q4.c (α := AVal) (Q4.c (α := Q4 AVal) (Q4.c (α := Q4 (Q4 AVal)) (Q4.b (α := Q4 (Q4 (Q4 AVal))) s)))⟩,
  ⟨fun s => Q4.c (α := AVal) (Q4.c (α := Q4 AVal) (Q4.c (α := Q4 (Q4 AVal)) (Q4.c (α := Q4 (Q4 (Q4 AVal))) s)))⟩,
  ⟨fun s => Q4.c (α := AVal) (Q4.c (α := Q4 AVal) (Q4.c (α := Q4 (Q4 AVal)) (Q4.d (α := Q4 (Q4 (Q4 AVal))) s)))⟩,
  ⟨fun s => Q4.c (α := AVal) (Q4.c (α := Q4 AVal) (Q4.d (α := Q4 (Q4 AVal)) (Q4.a (α := Q4 (Q4 (Q4 AVal))) s)))⟩,
  ⟨fun s => Q4.c (α := AVal) (Q4.c (α := Q4 AVal) (Q4.d (α := Q4 (Q4 AVal)) (Q4.b (α := Q4 (Q4 (Q4 AVal))) s)))⟩,
  ⟨fun s => Q4.c (α := AVal) (Q4.c (α := Q4 AVal) (Q4.d (α := Q4 (Q4 AVal)) (Q4.c (α := Q4 (Q4 (Q4 AVal))) s)))⟩,
  ⟨fun s => Q4.c (α := AVal) (Q4.c (α := Q4 AVal) (Q4.d (α := Q4 (Q4 AVal)) (Q4.d (α := Q4 (Q4 (Q4 AVal))) s)))⟩,
  ⟨fun s => Q4.c (α := AVal) (Q4.d (α := Q4 AVal) (Q4.a (α := Q4 (Q4 AVal)) (Q4.a (α := Q4 (Q4 (Q4 AVal))) s)))⟩,
  ⟨fun s => Q4.c (α := AVal) (Q4.d (α := Q4 AVal) (Q4.a (α := Q4 (Q4 AVal)) (Q4.b (α := Q4 (Q4 (Q4 AVal))) s)))⟩,
  ⟨fun s => Q4.c (α := AVal) (Q4.d (α := Q4 AVal) (Q4.a (α := Q4 (Q4 AVal)) (Q4.c (α := Q4 (Q4 (Q4 AVal))) s)))⟩,
  ⟨fun s => Q4.c (α := AVal) (Q4.d (α := Q4 AVal) (Q4.a (α := Q4 (Q4 AVal)) (Q4.d (α := Q4 (Q4 (Q4 AVal))) s)))⟩,
  ⟨fun s => Q4.c (α := AVal) (Q4.d (α := Q4 AVal) (Q4.b (α := Q4 (Q4 AVal)) (Q4.a (α := Q4 (Q4 (Q4 AVal))) s)))⟩,
  ⟨fun s => Q4.c (α := AVal) (Q4.d (α := Q4 AVal) (Q4.b (α := Q4 (Q4 AVal)) (Q4.b (α := Q4 (Q4 (Q4 AVal))) s)))⟩,
  ⟨fun s => Q4.c (α := AVal) (Q4.d (α := Q4 AVal) (Q4.b (α := Q4 (Q4 AVal)) (Q4.c (α := Q4 (Q4 (Q4 AVal))) s)))⟩,
  ⟨fun s => Q4.c (α := AVal) (Q4.d (α := Q4 AVal) (Q4.b (α := Q4 (Q4 AVal)) (Q4.d (α := Q4 (Q4 (Q4 AVal))) s)))⟩,
  ⟨fun s => Q4.c (α := AVal) (Q4.d (α := Q4 AVal) (Q4.c (α := Q4 (Q4 AVal)) (Q4.a (α := Q4 (Q4 (Q4 AVal))) s)))⟩,
  ⟨fun s => Q4.c (α := AVal) (Q4.d (α := Q4 AVal) (Q4.c (α := Q4 (Q4 AVal)) (Q4.b (α := Q4 (Q4 (Q4 AVal))) s)))⟩,
  ⟨fun s => Q4.c (α := AVal) (Q4.d (α := Q4 AVal) (Q4.c (α := Q4 (Q4 AVal)) (Q4.c (α := Q4 (Q4 (Q4 AVal))) s)))⟩,
  ⟨fun s => Q4.c (α := AVal) (Q4.d (α := Q4 AVal) (Q4.c (α := Q4 (Q4 AVal)) (Q4.d (α := Q4 (Q4 (Q4 AVal))) s)))⟩,
  ⟨fun s => Q4.c (α := AVal) (Q4.d (α := Q4 AVal) (Q4.d (α := Q4 (Q4 AVal)) (Q4.a (α := Q4 (Q4 (Q4 AVal))) s)))⟩,
  ⟨fun s => Q4.c (α := AVal) (Q4.d (α := Q4 AVal) (Q4.d (α := Q4 (Q4 AVal)) (Q4.b (α := Q4 (Q4 (Q4 AVal))) s)))⟩,
  ⟨fun s => Q4.c (α := AVal) (Q4.d (α := Q4 AVal) (Q4.d (α := Q4 (Q4 AVal)) (Q4.c (α := Q4 (Q4 (Q4 AVal))) s)))⟩,
  ⟨fun s => Q4.c (α := AVal) (Q4.d (α := Q4 AVal) (Q4.d (α := Q4 (Q4 AVal)) (Q4.d (α := Q4 (Q4 (Q4 AVal))) s)))⟩,
  ⟨fun s => Q4.d (α := AVal) (Q4.a (α := Q4 AVal) (Q4.a (α := Q4 (Q4 AVal)) (Q4.a (α := Q4 (Q4 (Q4 AVal))) s)))⟩,
  ⟨fun s => Q4.d (α := AVal) (Q4.a (α := Q4 AVal) (Q4.a (α := Q4 (Q4 AVal)) (Q4.b (α := Q4 (Q4 (Q4 AVal))) s)))⟩,
  ⟨fun s => Q4.d (α := AVal) (Q4.a (α := Q4 AVal) (Q4.a (α := Q4 (Q4 AVal)) (Q4.c (α := Q4 (Q4 (Q4 AVal))) s)))⟩,
  ⟨fun s => Q4.d (α := AVal) (Q4.a (α := Q4 AVal) (Q4.a (α := Q4 (Q4 AVal)) (Q4.d (α := Q4 (Q4 (Q4 AVal))) s)))⟩,
  ⟨fun s => Q4.d (α := AVal) (Q4.a (α := Q4 AVal) (Q4.b (α := Q4 (Q4 AVal)) (Q4.a (α := Q4 (Q4 (Q4 AVal))) s)))⟩,
  ⟨fun s => Q4.d (α := AVal) (Q4.a (α := Q4 AVal) (Q4.b (α := Q4 (Q4 AVal)) (Q4.b (α := Q4 (Q4 (Q4 AVal))) s)))⟩,
  ⟨fun s => Q4.d (α := AVal) (Q4.a (α := Q4 AVal) (Q4.b (α := Q4 (Q4 AVal)) (Q4.c (α := Q4 (Q4 (Q4 AVal))) s)))⟩,
  ⟨fun s => Q4.d (α := AVal) (Q4.a (α := Q4 AVal) (Q4.b (α := Q4 (Q4 AVal)) (Q4.d (α := Q4 (Q4 (Q4 AVal))) s)))⟩,
  ⟨fun s => Q4.d (α := AVal) (Q4.a (α := Q4 AVal) (Q4.c (α := Q4 (Q4 AVal)) (Q4.a (α := Q4 (Q4 (Q4 AVal))) s)))⟩,
  ⟨fun s => Q4.d (α := AVal) (Q4.a (α := Q4 AVal) (Q4.c (α := Q4 (Q4 AVal)) (Q4.b (α := Q4 (Q4 (Q4 AVal))) s)))⟩,
  ⟨fun s => Q4.d (α := AVal) (Q4.a (α := Q4 AVal) (Q4.c (α := Q4 (Q4 AVal)) (Q4.c (α := Q4 (Q4 (Q4 AVal))) s)))⟩,
  ⟨fun s => Q4.d (α := AVal) (Q4.a (α := Q4 AVal) (Q4.c (α := Q4 (Q4 AVal)) (Q4.d (α := Q4 (Q4 (Q4 AVal))) s)))⟩,
  ⟨fun s => Q4.d (α := AVal) (Q4.a (α := Q4 AVal) (Q4.d (α := Q4 (Q4 AVal)) (Q4.a (α := Q4 (Q4 (Q4 AVal))) s)))⟩,
  ⟨fun s => Q4.d (α := AVal) (Q4.a (α := Q4 AVal) (Q4.d (α := Q4 (Q4 AVal)) (Q4.b (α := Q4 (Q4 (Q4 AVal))) s)))⟩,
  ⟨fun s => Q4.d (α := AVal) (Q4.a (α := Q4 AVal) (Q4.d (α := Q4 (Q4 AVal)) (Q4.c (α := Q4 (Q4 (Q4 AVal))) s)))⟩,
  ⟨fun s => Q4.d (α := AVal) (Q4.a (α := Q4 AVal) (Q4.d (α := Q4 (Q4 AVal)) (Q4.d (α := Q4 (Q4 (Q4 AVal))) s)))⟩,
  ⟨fun s => Q4.d (α := AVal) (Q4.b (α := Q4 AVal) (Q4.a (α := Q4 (Q4 AVal)) (Q4.a (α := Q4 (Q4 (Q4 AVal))) s)))⟩,
  ⟨fun s => Q4.d (α := AVal) (Q4.b (α := Q4 AVal) (Q4.a (α := Q4 (Q4 AVal)) (Q4.b (α := Q4 (Q4 (Q4 AVal))) s)))⟩,
  ⟨fun s => Q4.d (α := AVal) (Q4.b (α := Q4 AVal) (Q4.a (α := Q4 (Q4 AVal)) (Q4.c (α := Q4 (Q4 (Q4 AVal))) s)))⟩,
  ⟨fun s => Q4.d (α := AVal) (Q4.b (α := Q4 AVal) (Q4.a (α := Q4 (Q4 AVal)) (Q4.d (α := Q4 (Q4 (Q4 AVal))) s)))⟩,
  ⟨fun s => Q4.d (α := AVal) (Q4.b (α := Q4 AVal) (Q4.b (α := Q4 (Q4 AVal)) (Q4.a (α := Q4 (Q4 (Q4 AVal))) s)))⟩,
  ⟨fun s => Q4.d (α := AVal) (Q4.b (α := Q4 AVal) (Q4.b (α := Q4 (Q4 AVal)) (Q4.b (α := Q4 (Q4 (Q4 AVal))) s)))⟩,
  ⟨fun s => Q4.d (α := AVal) (Q4.b (α := Q4 AVal) (Q4.b (α := Q4 (Q4 AVal)) (Q4.c (α := Q4 (Q4 (Q4 AVal))) s)))⟩,
  ⟨fun s => Q4.d (α := AVal) (Q4.b (α := Q4 AVal) (Q4.b (α := Q4 (Q4 AVal)) (Q4.d (α := Q4 (Q4 (Q4 AVal))) s)))⟩,
  ⟨fun s => Q4.d (α := AVal) (Q4.b (α := Q4 AVal) (Q4.c (α := Q4 (Q4 AVal)) (Q4.a (α := Q4 (Q4 (Q4 AVal))) s)))⟩,
  ⟨fun s => Q4.d (α := AVal) (Q4.b (α := Q4 AVal) (Q4.c (α := Q4 (Q4 AVal)) (Q4.b (α := Q4 (Q4 (Q4 AVal))) s)))⟩,
  ⟨fun s => Q4.d (α := AVal) (Q4.b (α := Q4 AVal) (Q4.c (α := Q4 (Q4 AVal)) (Q4.c (α := Q4 (Q4 (Q4 AVal))) s)))⟩,
  ⟨fun s => Q4.d (α := AVal) (Q4.b (α := Q4 AVal) (Q4.c (α := Q4 (Q4 AVal)) (Q4.d (α := Q4 (Q4 (Q4 AVal))) s)))⟩,
  ⟨fun s => Q4.d (α := AVal) (Q4.b (α := Q4 AVal) (Q4.d (α := Q4 (Q4 AVal)) (Q4.a (α := Q4 (Q4 (Q4 AVal))) s)))⟩,
  ⟨fun s => Q4.d (α := AVal) (Q4.b (α := Q4 AVal) (Q4.d (α := Q4 (Q4 AVal)) (Q4.b (α := Q4 (Q4 (Q4 AVal))) s)))⟩,
  ⟨fun s => Q4.d (α := AVal) (Q4.b (α := Q4 AVal) (Q4.d (α := Q4 (Q4 AVal)) (Q4.c (α := Q4 (Q4 (Q4 AVal))) s)))⟩,
  ⟨fun s => Q4.d (α := AVal) (Q4.b (α := Q4 AVal) (Q4.d (α := Q4 (Q4 AVal)) (Q4.d (α := Q4 (Q4 (Q4 AVal))) s)))⟩,
  ⟨fun s => Q4.d (α := AVal) (Q4.c (α := Q4 AVal) (Q4.a (α := Q4 (Q4 AVal)) (Q4.a (α := Q4 (Q4 (Q4 AVal))) s)))⟩,
  ⟨fun s => Q4.d (α := AVal) (Q4.c (α := Q4 AVal) (Q4.a (α := Q4 (Q4 AVal)) (Q4.b (α := Q4 (Q4 (Q4 AVal))) s)))⟩,
  ⟨fun s => Q4.d (α := AVal) (Q4.c (α := Q4 AVal) (Q4.a (α := Q4 (Q4 AVal)) (Q4.c (α := Q4 (Q4 (Q4 AVal))) s)))⟩,
  ⟨fun s => Q4.d (α := AVal) (Q4.c (α := Q4 AVal) (Q4.a (α := Q4 (Q4 AVal)) (Q4.d (α := Q4 (Q4 (Q4 AVal))) s)))⟩,
  ⟨fun s => Q4.d (α := AVal) (Q4.c (α := Q4 AVal) (Q4.b (α := Q4 (Q4 AVal)) (Q4.a (α := Q4 (Q4 (Q4 AVal))) s)))⟩,
  ⟨fun s => Q4.d (α := AVal) (Q4.c (α := Q4 AVal) (Q4.b (α := Q4 (Q4 AVal)) (Q4.b (α := Q4 (Q4 (Q4 AVal))) s)))⟩,
  ⟨fun s => Q4.d (α := AVal) (Q4.c (α := Q4 AVal) (Q4.b (α := Q4 (Q4 AVal)) (Q4.c (α := Q4 (Q4 (Q4 AVal))) s)))⟩,
  ⟨fun s => Q4.d (α := AVal) (Q4.c (α := Q4 AVal) (Q4.b (α := Q4 (Q4 AVal)) (Q4.d (α := Q4 (Q4 (Q4 AVal))) s)))⟩,
  ⟨fun s => Q4.d (α := AVal) (Q4.c (α := Q4 AVal) (Q4.c (α := Q4 (Q4 AVal)) (Q4.a (α := Q4 (Q4 (Q4 AVal))) s)))⟩,
  ⟨fun s => Q4.d (α := AVal) (Q4.c (α := Q4 AVal) (Q4.c (α := Q4 (Q4 AVal)) (Q4.b (α := Q4 (Q4 (Q4 AVal))) s)))⟩,
  ⟨fun s => Q4.d (α := AVal) (Q4.c (α := Q4 AVal) (Q4.c (α := Q4 (Q4 AVal)) (Q4.c (α := Q4 (Q4 (Q4 AVal))) s)))⟩,
  ⟨fun s => Q4.d (α := AVal) (Q4.c (α := Q4 AVal) (Q4.c (α := Q4 (Q4 AVal)) (Q4.d (α := Q4 (Q4 (Q4 AVal))) s)))⟩,
  ⟨fun s => Q4.d (α := AVal) (Q4.c (α := Q4 AVal) (Q4.d (α := Q4 (Q4 AVal)) (Q4.a (α := Q4 (Q4 (Q4 AVal))) s)))⟩,
  ⟨fun s => Q4.d (α := AVal) (Q4.c (α := Q4 AVal) (Q4.d (α := Q4 (Q4 AVal)) (Q4.b (α := Q4 (Q4 (Q4 AVal))) s)))⟩,
  ⟨fun s => Q4.d (α := AVal) (Q4.c (α := Q4 AVal) (Q4.d (α := Q4 (Q4 AVal)) (Q4.c (α := Q4 (Q4 (Q4 AVal))) s)))⟩,
  ⟨fun s => Q4.d (α := AVal) (Q4.c (α := Q4 AVal) (Q4.d (α := Q4 (Q4 AVal)) (Q4.d (α := Q4 (Q4 (Q4 AVal))) s)))⟩,
  ⟨fun s => Q4.d (α := AVal) (Q4.d (α := Q4 AVal) (Q4.a (α := Q4 (Q4 AVal)) (Q4.a (α := Q4 (Q4 (Q4 AVal))) s)))⟩,
  ⟨fun s => Q4.d (α := AVal) (Q4.d (α := Q4 AVal) (Q4.a (α := Q4 (Q4 AVal)) (Q4.b (α := Q4 (Q4 (Q4 AVal))) s)))⟩,
  ⟨fun s => Q4.d (α := AVal) (Q4.d (α := Q4 AVal) (Q4.a (α := Q4 (Q4 AVal)) (Q4.c (α := Q4 (Q4 (Q4 AVal))) s)))⟩,
  ⟨fun s => Q4.d (α := AVal) (Q4.d (α := Q4 AVal) (Q4.a (α := Q4 (Q4 AVal)) (Q4.d (α := Q4 (Q4 (Q4 AVal))) s)))⟩,
  ⟨fun s => Q4.d (α := AVal) (Q4.d (α := Q4 AVal) (Q4.b (α := Q4 (Q4 AVal)) (Q4.a (α := Q4 (Q4 (Q4 AVal))) s)))⟩,
  ⟨fun s => Q4.d (α := AVal) (Q4.d (α := Q4 AVal) (Q4.b (α := Q4 (Q4 AVal)) (Q4.b (α := Q4 (Q4 (Q4 AVal))) s)))⟩,
  ⟨fun s => Q4.d (α := AVal) (Q4.d (α := Q4 AVal) (Q4.b (α := Q4 (Q4 AVal)) (Q4.c (α := Q4 (Q4 (Q4 AVal))) s)))⟩,
  ⟨fun s => Q4.d (α := AVal) (Q4.d (α := Q4 AVal) (Q4.b (α := Q4 (Q4 AVal)) (Q4.d (α := Q4 (Q4 (Q4 AVal))) s)))⟩,
  ⟨fun s => Q4.d (α := AVal) (Q4.d (α := Q4 AVal) (Q4.c (α := Q4 (Q4 AVal)) (Q4.a (α := Q4 (Q4 (Q4 AVal))) s)))⟩,
  ⟨fun s => Q4.d (α := AVal) (Q4.d (α := Q4 AVal) (Q4.c (α := Q4 (Q4 AVal)) (Q4.b (α := Q4 (Q4 (Q4 AVal))) s)))⟩,
  ⟨fun s => Q4.d (α := AVal) (Q4.d (α := Q4 AVal) (Q4.c (α := Q4 (Q4 AVal)) (Q4.c (α := Q4 (Q4 (Q4 AVal))) s)))⟩,
  ⟨fun s => Q4.d (α := AVal) (Q4.d (α := Q4 AVal) (Q4.c (α := Q4 (Q4 AVal)) (Q4.d (α := Q4 (Q4 (Q4 AVal))) s)))⟩,
  ⟨fun s => Q4.d (α := AVal) (Q4.d (α := Q4 AVal) (Q4.d (α := Q4 (Q4 AVal)) (Q4.a (α := Q4 (Q4 (Q4 AVal))) s)))⟩,
  ⟨fun s => Q4.d (α := AVal) (Q4.d (α := Q4 AVal) (Q4.d (α := Q4 (Q4 AVal)) (Q4.b (α := Q4 (Q4 (Q4 AVal))) s)))⟩,
  ⟨fun s => Q4.d (α := AVal) (Q4.d (α := Q4 AVal) (Q4.d (α := Q4 (Q4 AVal)) (Q4.c (α := Q4 (Q4 (Q4 AVal))) s)))⟩,
  ⟨fun s => Q4.d (α := AVal) (Q4.d (α := Q4 AVal) (Q4.d (α := Q4 (Q4 AVal)) (Q4.d (α := Q4 (Q4 (Q4 AVal))) s)))⟩]
noncomputable def ptab : List SC := [
  ⟨u4a (u3a (u2a u1a))⟩,
  ⟨u4b (u3a (u2a u1a))⟩,
  ⟨u4c (u3a (u2a u1a))⟩,
  ⟨u4d (u3a (u2a u1a))⟩,
  ⟨u4a (u3b (u2a u1a))⟩,
  ⟨u4b (u3b (u2a u1a))⟩,
  ⟨u4c (u3b (u2a u1a))⟩,
  ⟨u4d (u3b (u2a u1a))⟩,
  ⟨u4a (u3c (u2a u1a))⟩,
  ⟨u4b (u3c (u2a u1a))⟩,
  ⟨u4c (u3c (u2a u1a))⟩,
  ⟨u4d (u3c (u2a u1a))⟩,
  ⟨u4a (u3d (u2a u1a))⟩,
  ⟨u4b (u3d (u2a u1a))⟩,
  ⟨u4c (u3d (u2a u1a))⟩,
  ⟨u4d (u3d (u2a u1a))⟩,
  ⟨u4a (u3a (u2b u1a))⟩,
  ⟨u4b (u3a (u2b u1a))⟩,
  ⟨u4c (u3a (u2b u1a))⟩,
  ⟨u4d (u3a (u2b u1a))⟩,
  ⟨u4a (u3b (u2b u1a))⟩,
  ⟨u4b (u3b (u2b u1a))⟩,
  ⟨u4c (u3b (u2b u1a))⟩,
  ⟨u4d (u3b (u2b u1a))⟩,
  ⟨u4a (u3c (u2b u1a))⟩,
  ⟨u4b (u3c (u2b u1a))⟩,
  ⟨u4c (u3c (u2b u1a))⟩,
  ⟨u4d (u3c (u2b u1a))⟩,
  ⟨u4a (u3d (u2b u1a))⟩,
  ⟨u4b (u3d (u2b u1a))⟩,
  ⟨u4c (u3d (u2b u1a))⟩,
  ⟨u4d (u3d (u2b u1a))⟩,
  ⟨u4a (u3a (u2c u1a))⟩,
  ⟨u4b (u3a (u2c u1a))⟩,
  ⟨u4c (u3a (u2c u1a))⟩,
  ⟨u4d (u3a (u2c u1a))⟩,
  ⟨u4a (u3b (u2c u1a))⟩,
  ⟨u4b (u3b (u2c u1a))⟩,
  ⟨u4c (u3b (u2c u1a))⟩,
  ⟨u4d (u3b (u2c u1a))⟩,
  ⟨u4a (u3c (u2c u1a))⟩,
  ⟨u4b (u3c (u2c u1a))⟩,
  ⟨u4c (u3c (u2c u1a))⟩,
  ⟨u4d (u3c (u2c u1a))⟩,
  ⟨u4a (u3d (u2c u1a))⟩,
  ⟨u4b (u3d (u2c u1a))⟩,
  ⟨u4c (u3d (u2c u1a))⟩,
  ⟨u4d (u3d (u2c u1a))⟩,
  ⟨u4a (u3a (u2d u1a))⟩,
  ⟨u4b (u3a (u2d u1a))⟩,
  ⟨u4c (u3a (u2d u1a))⟩,
  ⟨u4d (u3a (u2d u1a))⟩,
  ⟨u4a (u3b (u2d u1a))⟩,
  ⟨u4b (u3b (u2d u1a))⟩,
  ⟨u4c (u3b (u2d u1a))⟩,
  ⟨u4d (u3b (u2d u1a))⟩,
  ⟨u4a (u3c (u2d u1a))⟩,
  ⟨u4b (u3c (u2d u1a))⟩,
  ⟨u4c (u3c (u2d u1a))⟩,
  ⟨u4d (u3c (u2d u1a))⟩,
  ⟨u4a (u3d (u2d u1a))⟩,
  ⟨u4b (u3d (u2d u1a))⟩,
  ⟨u4c (u3d (u2d u1a))⟩,
  ⟨u4d (u3d (u2d u1a))⟩,
  ⟨u4a (u3a (u2a u1b))⟩,
  ⟨u4b (u3a (u2a u1b))⟩,
  ⟨u4c (u3a (u2a u1b))⟩,
  ⟨u4d (u3a (u2a u1b))⟩,
  ⟨u4a (u3b (u2a u1b))⟩,
  ⟨u4b (u3b (u2a u1b))⟩,
  ⟨u4c (u3b (u2a u1b))⟩,
  ⟨u4d (u3b (u2a u1b))⟩,
  ⟨u4a (u3c (u2a u1b))⟩,
  ⟨u4b (u3c (u2a u1b))⟩,
  ⟨u4c (u3c (u2a u1b))⟩,
  ⟨u4d (u3c (u2a u1b))⟩,
  ⟨u4a (u3d (u2a u1b))⟩,
  ⟨u4b (u3d (u2a u1b))⟩,
  ⟨u4c (u3d (u2a u1b))⟩,
  ⟨u4d (u3d (u2a u1b))⟩,
  ⟨u4a (u3a (u2b u1b))⟩,
  ⟨u4b (u3a (u2b u1b))⟩,
  ⟨u4c (u3a (u2b u1b))⟩,
  ⟨u4d (u3a (u2b u1b))⟩,
  ⟨u4a (u3b (u2b u1b))⟩,
  ⟨u4b (u3b (u2b u1b))⟩,
  ⟨u4c (u3b (u2b u1b))⟩,
  ⟨u4d (u3b (u2b u1b))⟩,
  ⟨u4a (u3c (u2b u1b))⟩,
  ⟨u4b (u3c (u2b u1b))⟩,
  ⟨u4c (u3c (u2b u1b))⟩,
  ⟨u4d (u3c (u2b u1b))⟩,
  ⟨u4a (u3d (u2b u1b))⟩,
  ⟨u4b (u3d (u2b u1b))⟩,
  ⟨u4c (u3d (u2b u1b))⟩,
  ⟨u4d (u3d (u2b u1b))⟩,
  ⟨u4a (u3a (u2c u1b))⟩,
  ⟨u4b (u3a (u2c u1b))⟩,
  ⟨u4c (u3a (u2c u1b))⟩,
  ⟨u4d (u3a (u2c u1b))⟩,
  ⟨u4a (u3b (u2c u1b))⟩,
  ⟨u4b (u3b (u2c u1b))⟩,
  ⟨u4c (u3b (u2c u1b))⟩,
  ⟨u4d (u3b (u2c u1b))⟩,
  ⟨u4a (u3c (u2c u1b))⟩,
  ⟨u4b (u3c (u2c u1b))⟩,
  ⟨u4c (u3c (u2c u1b))⟩,
  ⟨u4d (u3c (u2c u1b))⟩,
  ⟨u4a (u3d (u2c u1b))⟩,
  ⟨u4b (u3d (u2c u1b))⟩,
  ⟨u4c (u3d (u2c u1b))⟩,
  ⟨u4d (u3d (u2c u1b))⟩,
  ⟨u4a (u3a (u2d u1b))⟩,
  ⟨u4b (u3a (u2d u1b))⟩,
  ⟨u4c (u3a (u2d u1b))⟩,
  ⟨u4d (u3a (u2d u1b))⟩,
  ⟨u4a (u3b (u2d u1b))⟩,
  ⟨u4b (u3b (u2d u1b))⟩,
  ⟨u4c (u3b (u2d u1b))⟩,
  ⟨u4d (u3b (u2d u1b))⟩,
  ⟨u4a (u3c (u2d u1b))⟩,
  ⟨u4b (u3c (u2d u1b))⟩,
  ⟨u4c (u3c (u2d u1b))⟩,
  ⟨u4d (u3c (u2d u1b))⟩,
  ⟨u4a (u3d (u2d u1b))⟩,
  ⟨u4b (u3d (u2d u1b))⟩,
  ⟨u4c (u3d (u2d u1b))⟩,
  ⟨u4d (u3d (u2d u1b))⟩,
  ⟨u4a (u3a (u2a u1c))⟩,
  ⟨u4b (u3a (u2a u1c))⟩,
  ⟨u4c (u3a (u2a u1c))⟩,
  ⟨u4d (u3a (u2a u1c))⟩,
  ⟨u4a (u3b (u2a u1c))⟩,
  ⟨u4b (u3b (u2a u1c))⟩,
  ⟨u4c (u3b (u2a u1c))⟩,
  ⟨u4d (u3b (u2a u1c))⟩,
  ⟨u4a (u3c (u2a u1c))⟩,
  ⟨u4b (u3c (u2a u1c))⟩,
  ⟨u4c (u3c (u2a u1c))⟩,
  ⟨u4d (u3c (u2a u1c))⟩,
  ⟨u4a (u3d (u2a u1c))⟩,
  ⟨u4b (u3d (u2a u1c))⟩,
  ⟨u4c (u3d (u2a u1c))⟩,
  ⟨u4d (u3d (u2a u1c))⟩,
  ⟨u4a (u3a (u2b u1c))⟩,
  ⟨u4b (u3a (u2b u1c))⟩,
  ⟨u4c (u3a (u2b u1c))⟩,
  ⟨u4d (u3a (u2b u1c))⟩,
  ⟨u4a (u3b (u2b u1c))⟩,
  ⟨u4b (u3b (u2b u1c))⟩,
  ⟨u4c (u3b (u2b u1c))⟩,
  ⟨u4d (u3b (u2b u1c))⟩,
  ⟨u4a (u3c (u2b u1c))⟩,
  ⟨u4b (u3c (u2b u1c))⟩,
  ⟨u4c (u3c (u2b u1c))⟩,
  ⟨u4d (u3c (u2b u1c))⟩,
  ⟨u4a (u3d (u2b u1c))⟩,
  ⟨u4b (u3d (u2b u1c))⟩,
  ⟨u4c (u3d (u2b u1c))⟩,
  ⟨u4d (u3d (u2b u1c))⟩,
  ⟨u4a (u3a (u2c u1c))⟩,
  ⟨u4b (u3a (u2c u1c))⟩,
  ⟨u4c (u3a (u2c u1c))⟩,
  ⟨u4d (u3a (u2c u1c))⟩,
  ⟨u4a (u3b (u2c u1c))⟩,
  ⟨u4b (u3b (u2c u1c))⟩,
  ⟨u4c (u3b (u2c u1c))⟩,
  ⟨u4d (u3b (u2c u1c))⟩,
  ⟨u4a (u3c (u2c u1c))⟩,
  ⟨u4b (u3c (u2c u1c))⟩,
  ⟨u4c (u3c (u2c u1c))⟩,
  ⟨u4d (u3c (u2c u1c))⟩,
  ⟨u4a (u3d (u2c u1c))⟩,
  ⟨u4b (u3d (u2c u1c))⟩,
  ⟨u4c (u3d (u2c u1c))⟩,
  ⟨u4d (u3d (u2c u1c))⟩,
  ⟨u4a (u3a (u2d u1c))⟩,
  ⟨u4b (u3a (u2d u1c))⟩,
  ⟨u4c (u3a (u2d u1c))⟩,
  ⟨u4d (u3a (u2d u1c))⟩,
  ⟨u4a (u3b (u2d u1c))⟩,
  ⟨u4b (u3b (u2d u1c))⟩,
  ⟨u4c (u3b (u2d u1c))⟩,
  ⟨u4d (u3b (u2d u1c))⟩,
  ⟨u4a (u3c (u2d u1c))⟩,
  ⟨u4b (u3c (u2d u1c))⟩,
  ⟨u4c (u3c (u2d u1c))⟩,
  ⟨u4d (u3c (u2d u1c))⟩,
  ⟨u4a (u3d (u2d u1c))⟩,
  ⟨u4b (u3d (u2d u1c))⟩,
  ⟨u4c (u3d (u2d u1c))⟩,
  ⟨u4d (u3d (u2d u1c))⟩,
  ⟨u4a (u3a (u2a u1d))⟩,
  ⟨u4b (u3a (u2a u1d))⟩,
  ⟨u4c (u3a (u2a u1d))⟩,
  ⟨u4d (u3a (u2a u1d))⟩,
  ⟨u4a (u3b (u2a u1d))⟩,
  ⟨u4b (u3b (u2a u1d))⟩,
  ⟨u4c (u3b (u2a u1d))⟩,
  ⟨u4d (u3b (u2a u1d))⟩,
  ⟨u4a (u3c (u2a u1d))⟩,
  ⟨u4b (u3c (u2a u1d))⟩,
  ⟨u4c (u3c (u2a u1d))⟩,
  ⟨u4d (u3c (u2a u1d))⟩,
  ⟨u4a (u3d (u2a u1d))⟩,
  ⟨u4b (u3d (u2a u1d))⟩,
  ⟨u4c (u3d (u2a u1d))⟩,
  ⟨u4d (u3d (u2a u1d))⟩,
  ⟨u4a (u3a (u2b u1d))⟩,
  ⟨u4b (u3a (u2b u1d))⟩,
  ⟨u4c (u3a (u2b u1d))⟩,
  ⟨u4d (u3a (u2b u1d))⟩,
  ⟨u4a (u3b (u2b u1d))⟩,
  ⟨u4b (u3b (u2b u1d))⟩,
  ⟨u4c (u3b (u2b u1d))⟩,
  ⟨u4d (u3b (u2b u1d))⟩,
  ⟨u4a (u3c (u2b u1d))⟩,
  ⟨u4b (u3c (u2b u1d))⟩,
  ⟨u4c (u3c (u2b u1d))⟩,
  ⟨u4d (u3c (u2b u1d))⟩,
  ⟨u4a (u3d (u2b u1d))⟩,
  ⟨u4b (u3d (u2b u1d))⟩,
  ⟨u4c (u3d (u2b u1d))⟩,
  ⟨u4d (u3d (u2b u1d))⟩,
  ⟨u4a (u3a (u2c u1d))⟩,
  ⟨u4b (u3a (u2c u1d))⟩,
  ⟨u4c (u3a (u2c u1d))⟩,
  ⟨u4d (u3a (u2c u1d))⟩,
  ⟨u4a (u3b (u2c u1d))⟩,
  ⟨u4b (u3b (u2c u1d))⟩,
  ⟨u4c (u3b (u2c u1d))⟩,
  ⟨u4d (u3b (u2c u1d))⟩,
  ⟨u4a (u3c (u2c u1d))⟩,
  ⟨u4b (u3c (u2c u1d))⟩,
  ⟨u4c (u3c (u2c u1d))⟩,
  ⟨u4d (u3c (u2c u1d))⟩,
  ⟨u4a (u3d (u2c u1d))⟩,
  ⟨u4b (u3d (u2c u1d))⟩,
  ⟨u4c (u3d (u2c u1d))⟩,
  ⟨u4d (u3d (u2c u1d))⟩,
  ⟨u4a (u3a (u2d u1d))⟩,
  ⟨u4b (u3a (u2d u1d))⟩,
  ⟨u4c (u3a (u2d u1d))⟩,
  ⟨u4d (u3a (u2d u1d))⟩,
  ⟨u4a (u3b (u2d u1d))⟩,
  ⟨u4b (u3b (u2d u1d))⟩,
  ⟨u4c (u3b (u2d u1d))⟩,
  ⟨u4d (u3b (u2d u1d))⟩,
  ⟨u4a (u3c (u2d u1d))⟩,
  ⟨u4b (u3c (u2d u1d))⟩,
  ⟨u4c (u3c (u2d u1d))⟩,
  ⟨u4d (u3c (u2d u1d))⟩,
  ⟨u4a (u3d (u2d u1d))⟩,
  ⟨u4b (u3d (u2d u1d))⟩,
  ⟨u4c (u3d (u2d u1d))⟩,
  ⟨u4d (u3d (u2d u1d))⟩]
theorem gtab_ok : gtab = (List.range 256).map (fun n => (⟨fun s => Lv.at 4 s n⟩ : GC)) := by kernel_rfl
theorem ptab_ok : ptab = (List.range 256).map (fun n => (⟨fun s v => Lv.set v 4 s n⟩ : SC)) := by kernel_rfl
end Go.V
end
