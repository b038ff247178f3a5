/-
  Memory while a plan's operations run in another order.
-/
import Derived.Test.YtdmaodpmfbgcaaaGreatVTrace
namespace Go.V

/-- A block that is there ahead of its place in the plan. -/
def Early (Γ : Ctx) (B : Block) (id : Nat) (w : World) : Prop :=
  Γ.dom id ∧ ∃ (cb : Nat) (cs : Array Value), Γ.blk id = some ⟨B.cells.length, cb, cs.size⟩ ∧ w.heap[cb]? = some (.cells cs B.ty (0, 0)) ∧ CellsR (Γ.below (id + 1)) B.cells cs ∧ ∀ i, Γ.ro cb i = none

structure MI (ops : List Oper) (plan : List RStep) (S : Nat → St) (T : Nat → Prop) (p : Nat) (Γ : Ctx) (w : World) : Prop where
  hv : ∀ h o, ops[h]? = some o → isHeavy o.op = true → (T h ↔ posOf plan h < p)
  core : MemR (Γ.below (S p).mem.next) (S p).mem w
  early : ∀ l B, T l → p ≤ posOf plan l → Alloc ops plan S l B → Early Γ B (S (posOf plan l)).mem.next w
  dom : ∀ b, Γ.dom b → b < (S p).mem.next ∨ ∃ l B, T l ∧ p ≤ posOf plan l ∧ Alloc ops plan S l B ∧ b = (S (posOf plan l)).mem.next
  inj : ∀ b b' i i', Γ.dom b → Γ.dom b' → Γ.blk b = some i → Γ.blk b' = some i' → i.cb = i'.cb → b = b'

theorem Ctx.below_le (Γ : Ctx) {N M : Nat} (h : N ≤ M) : (Γ.below N).le (Γ.below M) :=
  ⟨fun _ hb => ⟨hb.1, Nat.lt_of_lt_of_le hb.2 h⟩, fun _ i _ hi => ⟨i, hi, .inl rfl⟩, fun _ _ _ hv => hv, rfl⟩

theorem Ctx.below_le_self (Γ : Ctx) (N : Nat) : (Γ.below N).le Γ :=
  ⟨fun _ hb => hb.1, fun _ i _ hi => ⟨i, hi, .inl rfl⟩, fun _ _ _ hv => hv, rfl⟩

/-- The same memory, said in another context and of a later world. -/
theorem MemR.to {Γ Δ : Ctx} {m : Mem} {w w' : World} (h : MemR Γ m w) (hd : ∀ b, Γ.dom b ↔ Δ.dom b) (hb : ∀ b, Γ.dom b → Δ.blk b = Γ.blk b) (hr : Δ.ro = Γ.ro)
    (hh : ∀ k, k < w.heap.size → w'.heap[k]? = w.heap[k]?) (hi : Δ.inp = Γ.inp := by rfl) : MemR Δ m w' := by
  have hle : Γ.le Δ := ⟨fun b hx => (hd b).1 hx, fun b i hx hi => ⟨i, by rw [← hb b hx]; exact hi, .inl rfl⟩, fun b o v hv => by rw [hr]; exact hv, hi⟩
  have hlt : ∀ b, b < m.next → Γ.dom b := fun b hx => (h.dom b).2 hx
  refine ⟨fun b => by rw [← hd b]; exact h.dom b, h.small, fun b hg hx => by rw [hb b (hlt b hx)]; exact h.gone b hg hx, fun b B hB => ?_, fun b b' i i' hx hx' hi hi' => ?_, fun b o v hv => ?_⟩
  · obtain ⟨h1, cb, cs, h2, h3, h4, h5, h6⟩ := h.blk b B hB
    refine ⟨h1, cb, cs, by rw [hb b (hlt b h1)]; exact h2, by rw [hh cb (Array.getElem?_eq_some_iff.1 h3).1]; exact h3, h4, fun i a ha => ?_, by rw [hr]; exact h6⟩
    obtain ⟨v, k1, k2, k3⟩ := h5 i a ha
    exact ⟨v, k1, VR.mono hle a v k2, k3⟩
  · rw [hb b (hlt b hx)] at hi
    rw [hb b' (hlt b' hx')] at hi'
    exact h.inj b b' i i' hx hx' hi hi'
  · rw [hr] at hv
    have := h.ro b o v hv
    simpa [World.cell?, hh b (h.ro_lt hv)] using this

section
variable {E : Env} {Γ0 : Ctx} {call : CallFn} {ops : List Oper} {plan : List RStep} {S : Nat → St} {Γ : Ctx} {w : World} {T : Nat → Prop} {p : Nat}
variable (hS : Trace E Γ0 call ops plan S)

theorem MI.domLt (h : MI ops plan S T p Γ w) {b : Nat} (hb : b < (S p).mem.next) : Γ.dom b := ((h.core.dom b).2 hb).1

theorem MI.early_size (h : MI ops plan S T p Γ w) {b : Nat} (hd : Γ.dom b) {i : BI} (hi : Γ.blk b = some i) : i.cb < w.heap.size := by
  rcases h.dom b hd with hlt | ⟨l, B, h1, h2, h3, rfl⟩
  · exact h.core.lt hlt hi
  · obtain ⟨_, cb, cs, e1, e2, _⟩ := h.early l B h1 h2 h3
    rw [hi] at e1
    cases e1
    exact (Array.getElem?_eq_some_iff.1 e2).1

include hS

theorem Trace.id_lt {l : Nat} {B : Block} (hl : Alloc ops plan S l B) {q : Nat} (hq : posOf plan l < q) (hq' : q ≤ plan.length) : (S (posOf plan l)).mem.next < (S q).mem.next := by
  have := hl.next
  have := hS.next (p := posOf plan l + 1) (q := q) (by omega) hq'
  omega

theorem Trace.id_inj {l l' : Nat} {B B' : Block} (hl : Alloc ops plan S l B) (hl' : Alloc ops plan S l' B') (h : (S (posOf plan l)).mem.next = (S (posOf plan l')).mem.next) : l = l' := by
  obtain ⟨o, ho, _⟩ := id hl
  obtain ⟨o', ho', _⟩ := id hl'
  have h1 := (hS.posLt ho).1
  have h2 := (hS.posLt ho').1
  rcases Nat.lt_trichotomy (posOf plan l) (posOf plan l') with hlt | he | hlt
  · have := hS.id_lt hl hlt (by omega); omega
  · exact hS.posInj ho ho' he
  · have := hS.id_lt hl' hlt (by omega); omega

/-- One step of the plan that writes and calls nothing, and whose operation has run if it makes a block. -/
theorem MI.adv1 (h : MI ops plan S T p Γ w) (hp : p < plan.length) (hn : ∀ j o, ops[j]? = some o → posOf plan j = p → isHeavy o.op = false) (ha : ∀ j B, posOf plan j = p → Alloc ops plan S j B → T j) :
    MI ops plan S T (p + 1) Γ w := by
  have hhv : ∀ k o, ops[k]? = some o → isHeavy o.op = true → (T k ↔ posOf plan k < p + 1) := fun k o ho hk => by
    have h1 := h.hv k o ho hk
    have h2 : posOf plan k ≠ p := fun e => by rw [hn k o ho e] at hk; cases hk
    rw [h1]; omega
  rcases hS.step hp hn with e | ⟨j, B, hj, hB⟩
  · refine ⟨hhv, by rw [e]; exact h.core, fun l B h1 h2 h3 => h.early l B h1 (by omega) h3, fun b hb => ?_, h.inj⟩
    rw [e]
    rcases h.dom b hb with h1 | ⟨l, B, h1, h2, h3, h4⟩
    · exact .inl h1
    · refine .inr ⟨l, B, h1, ?_, h3, h4⟩
      refine Decidable.byContradiction fun hc => ?_
      have := h3.next
      rw [show posOf plan l = p by omega] at this
      rw [e] at this
      omega
  · have hT := ha j B hj hB
    obtain ⟨hid, cb, cs, e1, e2, e3, e4⟩ := h.early j B hT (by omega) hB
    have hBn := hB.next
    obtain ⟨o, ho, _, _, hsm, hm⟩ := id hB
    rw [hj] at hid e1 e3 hsm hm hBn
    have hle := Γ.below_le (N := (S p).mem.next) (M := (S p).mem.next + 1) (by omega)
    refine ⟨hhv, ?_, fun l B h1 h2 h3 => h.early l B h1 (by omega) h3, fun b hb => ?_, h.inj⟩
    · rw [hm]
      show MemR (Γ.below ((S p).mem.next + 1)) _ w
      refine ⟨fun b => ?_, by show (S p).mem.next + 1 ≤ _; omega, fun b hg hb => ?_, fun b B' hb => ?_, fun b b' i i' hb hb' hi hi' he => ?_, fun b o v hv => h.core.ro b o v hv⟩
      · show Γ.dom b ∧ b < (S p).mem.next + 1 ↔ b < (S p).mem.next + 1
        refine ⟨fun hb => hb.2, fun hb => ⟨?_, hb⟩⟩
        by_cases hx : b < (S p).mem.next
        · exact h.domLt hx
        · rw [show b = (S p).mem.next by omega]; exact hid
      · rw [get_add _ _ hsm] at hg
        have hb : b < (S p).mem.next + 1 := hb
        split at hg
        · cases hg
        · exact h.core.gone b hg (by omega)
      · rw [get_add _ _ hsm] at hb
        split at hb
        · rename_i hbe
          subst hbe
          simp only [Option.some.injEq] at hb
          subst hb
          exact ⟨by show _ < (S p).mem.next + 1; omega, cb, cs, e1, e2, e3.1, e3.2, fun i _ => e4 i⟩
        · obtain ⟨h1, cb', cs', h2, h3, h4, h5, h6⟩ := h.core.blk b B' hb
          refine ⟨by show b < (S p).mem.next + 1; omega, cb', cs', h2, h3, h4, fun i a ha' => ?_, h6⟩
          obtain ⟨v, k1, k2, k3⟩ := h5 i a ha'
          exact ⟨v, k1, VR.mono hle a v k2, k3⟩
      · have hd : ∀ b, b < (S p).mem.next + 1 → Γ.dom b := fun b hx => by
          by_cases hx' : b < (S p).mem.next
          · exact h.domLt hx'
          · rw [show b = (S p).mem.next by omega]; exact hid
        exact h.inj b b' i i' (hd b hb) (hd b' hb') hi hi' he
    · rcases h.dom b hb with h1 | ⟨l, B', h1, h2, h3, h4⟩
      · left; omega
      · by_cases e : posOf plan l = p
        · left; rw [h4, e]; omega
        · exact .inr ⟨l, B', h1, by omega, h3, h4⟩

theorem MI.adv (h : MI ops plan S T p Γ w) {q : Nat} (hpq : p ≤ q) (hq : q ≤ plan.length) (hn : ∀ j o, ops[j]? = some o → p ≤ posOf plan j → posOf plan j < q → isHeavy o.op = false)
    (ha : ∀ j B, posOf plan j < q → Alloc ops plan S j B → T j) : MI ops plan S T q Γ w := by
  induction q with
  | zero => rwa [show p = 0 by omega] at h
  | succ q ih =>
    by_cases e : p = q + 1
    · rwa [← e]
    · exact (ih (by omega) (by omega) (fun j o ho h1 h2 => hn j o ho h1 (by omega)) (fun j B h1 h2 => ha j B (by omega) h2)).adv1 hS (by omega) (fun j o ho hj => hn j o ho (by omega) (by omega)) (fun j B hj hB => ha j B (by omega) hB)

omit hS in
/-- An operation that changes no memory has run. -/
theorem MI.more (h : MI ops plan S T p Γ w) {i : Nat} {o : Oper} (ho : ops[i]? = some o) (hh : isHeavy o.op = false) (hm : ∀ B, ¬ Alloc ops plan S i B) : MI ops plan S (fun k => k = i ∨ T k) p Γ w := by
  refine ⟨fun k ok hk hhk => ?_, h.core, fun l B hl h1 h2 => ?_, fun b hb => ?_, h.inj⟩
  · rw [← h.hv k ok hk hhk]
    refine ⟨fun hc => hc.resolve_left fun e => ?_, .inr⟩
    subst e
    rw [ho] at hk
    cases hk
    rw [hh] at hhk; cases hhk
  · rcases hl with rfl | hl
    · exact absurd h2 (hm B)
    · exact h.early l B hl h1 h2
  · rcases h.dom b hb with h1 | ⟨l, B, h1, h2, h3, h4⟩
    · exact .inl h1
    · exact .inr ⟨l, B, .inr h1, h2, h3, h4⟩

/-- What a load sees, where nothing was written since. -/
theorem MI.view (h : MI ops plan S T p Γ w) {q : Nat} (hpq : p ≤ q) (hq : q ≤ plan.length) (hn : ∀ j o, ops[j]? = some o → isHeavy o.op = true → ¬ (p ≤ posOf plan j ∧ posOf plan j < q)) : MemV Γ (S q).mem w := by
  obtain ⟨Γr, ar, wr, hr⟩ := hS.ref hq
  refine ⟨fun b B hb hg => ?_, fun b o v hv => h.core.ro b o v hv⟩
  have hbq := (hr.mem.blk b B hg).1
  rcases h.dom b hb with h1 | ⟨l, B', h1, h2, h3, h4⟩
  · rw [hS.keep hpq hq hn h1] at hg
    obtain ⟨_, cb, cs, k1, k2, k3, k4, _⟩ := h.core.blk b B hg
    exact ⟨cb, cs, k1, k2, k3, fun i a ha => by obtain ⟨v, j1, j2, j3⟩ := k4 i a ha; exact ⟨v, j1, VR.mono (Γ.below_le_self _) a v j2, j3⟩⟩
  · subst h4
    obtain ⟨_, cb, cs, k1, k2, k3, _⟩ := h.early l B' h1 h2 h3
    have hlq : posOf plan l < q := Decidable.byContradiction fun hc => by
      obtain ⟨o, ho, _⟩ := id h3
      have := hS.next (p := q) (q := posOf plan l) (by omega) (by have := (hS.posLt ho).1; omega)
      omega
    have hB : B = B' := by
      rw [hS.keep (p := posOf plan l + 1) (by omega) hq (fun j o ho hh hc => hn j o ho hh ⟨by omega, hc.2⟩) (by have := h3.next; omega)] at hg
      obtain ⟨o, ho, _, _, hsm, hm⟩ := id h3
      rw [hm, get_add _ _ hsm, if_pos rfl] at hg
      simpa using hg.symm
    subst hB
    exact ⟨cb, cs, k1, k2, k3.1, fun i a ha => by obtain ⟨v, j1, j2, j3⟩ := k3.2 i a ha; exact ⟨v, j1, VR.mono (Γ.below_le_self _) a v j2, j3⟩⟩
end
end Go.V
