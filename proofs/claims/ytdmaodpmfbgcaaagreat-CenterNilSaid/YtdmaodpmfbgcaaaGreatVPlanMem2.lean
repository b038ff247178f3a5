/-
  A block made, a write or a call made, while a plan's operations run in another order.
-/
import Derived.Test.YtdmaodpmfbgcaaaGreatVPlanMem
namespace Go.V

section
variable {E : Env} {Γ0 : Ctx} {call : CallFn} {ops : List Oper} {plan : List RStep} {S : Nat → St} {Γ : Ctx} {w : World} {T : Nat → Prop} {p : Nat}
variable (hS : Trace E Γ0 call ops plan S)
include hS

theorem MI.fresh (h : MI ops plan S T p Γ w) {i : Nat} (hi : ¬ T i) {B : Block} (hB : Alloc ops plan S i B) (hp : p ≤ posOf plan i) : ¬ Γ.dom (S (posOf plan i)).mem.next := by
  obtain ⟨o, ho, _⟩ := id hB
  have hlt := (hS.posLt ho).1
  intro hd
  rcases h.dom _ hd with h1 | ⟨l, B', h1, h2, h3, h4⟩
  · have := hS.next hp (by omega); omega
  · exact hi (hS.id_inj hB h3 h4 ▸ h1)

theorem MI.new (h : MI ops plan S T p Γ w) {i : Nat} (hi : ¬ T i) {B : Block} (hB : Alloc ops plan S i B) (hp : p ≤ posOf plan i) {cs : Array Value} (hr : VRs Γ B.cells cs.toList) (h1 : ∀ u ∈ cs.toList, u.oneCell' = true) :
    Γ.le (Γ.set (S (posOf plan i)).mem.next ⟨B.cells.length, w.heap.size, cs.size⟩) ∧
    Step Γ w (Γ.set (S (posOf plan i)).mem.next ⟨B.cells.length, w.heap.size, cs.size⟩) (w.alloc (.cells cs B.ty)) ∧
    MI ops plan S (fun k => k = i ∨ T k) p (Γ.set (S (posOf plan i)).mem.next ⟨B.cells.length, w.heap.size, cs.size⟩) (w.alloc (.cells cs B.ty)) := by
  have hfr := h.fresh hS hi hB hp
  obtain ⟨o, ho, hhv, _, hsm, hm⟩ := id hB
  have hlt := (hS.posLt ho).1
  have hnext := hS.next hp (by omega)
  generalize hid : (S (posOf plan i)).mem.next = id at *
  have hne : ∀ b, Γ.dom b → b ≠ id := fun b hb e => hfr (e ▸ hb)
  have hblk : ∀ b, Γ.dom b → (Γ.set id ⟨B.cells.length, w.heap.size, cs.size⟩).blk b = Γ.blk b := fun b hb => by simp [Ctx.set, hne b hb]
  have hle : Γ.le (Γ.set id ⟨B.cells.length, w.heap.size, cs.size⟩) := ⟨fun b hb => .inr hb, fun b j hb hj => ⟨j, by rw [← hblk b hb]; exact hj, .inl rfl⟩, fun _ _ _ hv => hv, rfl⟩
  have hleN : ∀ N, (Γ.below N).le ((Γ.set id ⟨B.cells.length, w.heap.size, cs.size⟩).below N) := fun N => ⟨fun b hb => ⟨.inr hb.1, hb.2⟩, fun b j hb hj => ⟨j, by have := hblk b hb.1; exact this ▸ hj, .inl rfl⟩, fun _ _ _ hv => hv, rfl⟩
  have hold : ∀ k, k < w.heap.size → (w.alloc (.cells cs B.ty)).heap[k]? = w.heap[k]? := fun k hk => Go.RowKit.Below.heap_alloc w _ k hk
  refine ⟨hle, ⟨hle, rfl, rfl, rfl, by simp, fun k hk _ => hold k hk, fun b j hb hj hlt => ?_, fun _ _ _ h => .inl h⟩, ⟨fun k ok hk hhk => ?_, ?_, fun l B' hl h2 h3 => ?_, fun b hb => ?_, fun b b' j j' hb hb' hj hj' he => ?_⟩⟩
  · rcases hb with rfl | hb
    · simp only [Ctx.set, if_true, Option.some.injEq] at hj
      subst hj
      simp at hlt
    · exact ⟨b, j, hb, by rw [← hblk b hb]; exact hj, rfl⟩
  · rw [← h.hv k ok hk hhk]
    refine ⟨fun hc => hc.resolve_left fun e => ?_, .inr⟩
    subst e
    rw [ho] at hk
    cases hk
    rw [hhv] at hhk; cases hhk
  · refine h.core.to (fun b => ⟨fun hb => ⟨.inr hb.1, hb.2⟩, fun hb => ?_⟩) (fun b hb => hblk b hb.1) rfl hold
    have hbl : b < (S p).mem.next := hb.2
    exact ⟨h.domLt hbl, hbl⟩
  · rcases hl with rfl | hl
    · rw [hid]
      refine ⟨.inl rfl, w.heap.size, cs, ?_⟩
      have hBB : B' = B := by
        obtain ⟨_, _, _, _, _, hm'⟩ := h3
        rw [hm'] at hm
        have e1 := congrArg (fun m => Mem.get m id) hm
        rw [get_add _ _ (by omega), get_add _ _ (by omega), if_pos hid.symm, if_pos hid.symm] at e1
        simpa using e1
      subst hBB
      refine ⟨by simp [Ctx.set], heap_alloc_new w _, ?_, fun k => ?_⟩
      · obtain ⟨Γr, ar, wr, href⟩ := hS.ref (p := posOf plan l + 1) (by omega)
        obtain ⟨_, cb, cs', _, _, _, e5, _⟩ := href.mem.blk id B' (by rw [hm, get_add _ _ (by omega), if_pos hid.symm])
        have hdl : ∀ b, Γr.dom b → b < id + 1 := fun b hb => by have := (href.mem.dom b).1 hb; have := hB.next; omega
        refine ⟨by have := hr.length; simp at this; omega, fun k a ha => ?_⟩
        obtain ⟨v, hv, hvr⟩ := hr.get ha
        obtain ⟨u, _, hur, _⟩ := e5 k a ha
        refine ⟨v, by simpa using hv, ?_, h1 v (List.mem_of_getElem? hv)⟩
        exact VR.mono (hleN _) a v (VR.below hdl a v u hvr hur)
      · cases hv : Γ.ro w.heap.size k with
        | none => exact hv
        | some v => have := h.core.ro_lt hv; omega
    · obtain ⟨hd, cb, cs', e1, e2, e3, e4⟩ := h.early l B' hl h2 h3
      exact ⟨.inr hd, cb, cs', by rw [hblk _ hd]; exact e1, by rw [hold cb (Array.getElem?_eq_some_iff.1 e2).1]; exact e2, e3.mono (hleN _), e4⟩
  · rcases hb with rfl | hb
    · exact .inr ⟨i, B, .inl rfl, hp, hB, hid.symm⟩
    · rcases h.dom b hb with h1 | ⟨l, B', h1, h2, h3, h4⟩
      · exact .inl h1
      · exact .inr ⟨l, B', .inr h1, h2, h3, h4⟩
  · rcases hb with rfl | hb <;> rcases hb' with rfl | hb'
    · rfl
    · rw [hblk b' hb'] at hj'
      simp only [Ctx.set, if_true, Option.some.injEq] at hj
      subst hj
      have := h.early_size hb' hj'
      simp at he; omega
    · rw [hblk b hb] at hj
      simp only [Ctx.set, if_true, Option.some.injEq] at hj'
      subst hj'
      have := h.early_size hb hj
      simp at he; omega
    · rw [hblk b hb] at hj
      rw [hblk b' hb'] at hj'
      exact h.inj b b' j j' hb hb' hj hj' he

theorem MI.heavy {i : Nat} (h : MI ops plan S T (posOf plan i) Γ w) {o : Oper} (ho : ops[i]? = some o) (hh : isHeavy o.op = true) (hi : ¬ T i) {Δ : Ctx} {w' : World}
    (hle : (Γ.below (S (posOf plan i)).mem.next).le Δ) (hst : Step (Γ.below (S (posOf plan i)).mem.next) w Δ w') (hm : MemR Δ (S (posOf plan i + 1)).mem w') :
    ∃ Γ', Γ.le Γ' ∧ Δ.le Γ' ∧ Step Γ w Γ' w' ∧ MI ops plan S (fun k => k = i ∨ T k) (posOf plan i + 1) Γ' w' := by
  have hlt := (hS.posLt ho).1
  generalize hN : (S (posOf plan i)).mem.next = N at *
  generalize hM : (S (posOf plan i + 1)).mem.next = M at *
  have hNM : N ≤ M := by have := hS.next1 hlt; omega
  have hearly : ∀ l B, T l → posOf plan i ≤ posOf plan l → Alloc ops plan S l B → posOf plan i + 1 ≤ posOf plan l ∧ M ≤ (S (posOf plan l)).mem.next := fun l B h1 h2 h3 => by
    obtain ⟨ol, hol, _⟩ := id h3
    have hne : posOf plan i ≠ posOf plan l := fun e => hi (hS.posInj ho hol e ▸ h1)
    have := hS.next (p := posOf plan i + 1) (q := posOf plan l) (by omega) (by have := (hS.posLt hol).1; omega)
    exact ⟨by omega, by omega⟩
  have hΔ : ∀ b, Δ.dom b ↔ b < M := fun b => by rw [← hM]; exact hm.dom b
  have hΓN : ∀ b, b < N → Γ.dom b := fun b hb => h.domLt (by omega)
  have hcase : ∀ b, Γ.dom b → b < N ∨ M ≤ b := fun b hb => by
    rcases h.dom b hb with h1 | ⟨l, B, h1, h2, h3, h4⟩
    · left; omega
    · right; rw [h4]; exact (hearly l B h1 h2 h3).2
  let Γ' : Ctx := { blk := fun b => if b < M then Δ.blk b else Γ.blk b, dom := fun b => b < M ∨ Γ.dom b, ro := Δ.ro, inp := Δ.inp }
  have b1 : ∀ b, b < M → Γ'.blk b = Δ.blk b := fun b hb => by simp [Γ', hb]
  have b2 : ∀ b, ¬ b < M → Γ'.blk b = Γ.blk b := fun b hb => by simp [Γ', hb]
  have hle1 : Δ.le Γ' := ⟨fun b hb => .inl ((hΔ b).1 hb), fun b j hb hj => ⟨j, by rw [← b1 b ((hΔ b).1 hb)]; exact hj, .inl rfl⟩, fun _ _ _ hv => hv, rfl⟩
  have hle0 : Γ.le Γ' := by
    refine ⟨fun b hb => .inr hb, fun b j hb hj => ?_, fun c o v hv => hle.ro c o v hv, hle.inp⟩
    rcases hcase b hb with h1 | h1
    · rw [b1 b (by omega)] at hj
      exact hle.blk b j ⟨hb, h1⟩ hj
    · rw [b2 b (by omega)] at hj
      exact ⟨j, hj, .inl rfl⟩
  have hleK : ∀ K, (Γ.below K).le (Γ'.below K) := fun K => ⟨fun b hb => ⟨.inr hb.1, hb.2⟩, fun b j hb hj => hle0.blk b j hb.1 hj, hle0.ro, hle0.inp⟩
  -- a block of the later memory and one that is ahead of its place never share a cell
  have hdis : ∀ b j b' j', b < M → Δ.blk b = some j → ¬ b' < M → Γ.dom b' → Γ.blk b' = some j' → j.cb ≠ j'.cb := fun b j b' j' hb hj hb' hd' hj' e => by
    have hsz := h.early_size hd' hj'
    obtain ⟨c, k, hc, hk, hce⟩ := hst.own b j ((hΔ b).2 hb) hj (by omega)
    have hcN : c < N := hc.2
    have := h.inj c b' k j' hc.1 hd' hk hj' (hce.trans e)
    omega
  refine ⟨Γ', hle0, hle1, ⟨hle0, hst.os, hst.tape, hst.output, hst.size, fun k hk hn => hst.frame k hk fun b j hb hj => hn b j hb.1 hj, fun b j hb hj hsz => ?_, fun c o v hv => ?_⟩, ⟨fun k ok hk hhk => ?_, ?_, fun l B hl h2 h3 => ?_, fun b hb => ?_, fun b b' j j' hb hb' hj hj' he => ?_⟩⟩
  · by_cases hbM : b < M
    · rw [b1 b hbM] at hj
      obtain ⟨c, k, hc, hk, hce⟩ := hst.own b j ((hΔ b).2 hbM) hj hsz
      exact ⟨c, k, hc.1, hk, hce⟩
    · rw [b2 b hbM] at hj
      exact ⟨b, j, hb.resolve_left hbM, hj, rfl⟩
  · rcases hst.roNew c o v hv with h1 | h1 | ⟨b, j, h1, h2, h3⟩
    · exact .inl h1
    · exact .inr (.inl h1)
    · exact .inr (.inr ⟨b, j, h1.1, h2, h3⟩)
  · have h1 := h.hv k ok hk hhk
    constructor
    · rintro (rfl | hc)
      · omega
      · have := h1.1 hc; omega
    · intro hc
      by_cases e : posOf plan k = posOf plan i
      · exact .inl (hS.posInj hk ho e)
      · exact .inr (h1.2 (by omega))
  · rw [hM]
    refine hm.to (fun b => ?_) (fun b hb => b1 b ((hΔ b).1 hb)) rfl (fun _ _ => rfl)
    rw [hΔ b]
    exact ⟨fun hb => ⟨.inl hb, hb⟩, fun hb => hb.2⟩
  · have hl : T l := hl.resolve_left fun e => by
      subst e
      obtain ⟨ol, hol, hol2, _⟩ := h3
      rw [ho] at hol; cases hol
      rw [hh] at hol2; cases hol2
    have hge := (hearly l B hl (by omega) h3).2
    obtain ⟨hd, cb, cs', e1, e2, e3, e4⟩ := h.early l B hl (by omega) h3
    have hsz := h.early_size hd e1
    refine ⟨.inr hd, cb, cs', by rw [b2 _ (by omega)]; exact e1, ?_, e3.mono (hleK _), fun k => ?_⟩
    · rw [hst.frame cb hsz (fun b j hb hj e => ?_)]
      · exact e2
      · have hbN : b < N := hb.2
        have := h.inj b _ j _ hb.1 hd hj e1 e
        omega
    · refine Option.eq_none_iff_forall_not_mem.2 fun v hv => ?_
      · have hv : Δ.ro cb k = some v := hv
        rcases hst.roNew cb k v hv with h1 | h1 | ⟨b, j, h1, h2, h3⟩
        · have : Γ.ro cb k = some v := h1
          rw [e4 k] at this; cases this
        · simp at hsz; omega
        · have hbN : b < N := h1.2
          have := h.inj b _ j _ h1.1 hd h2 e1 h3
          omega
  · by_cases hbM : b < M
    · left; omega
    · rcases h.dom b (hb.resolve_left hbM) with h1 | ⟨l, B, h1, h2, h3, h4⟩
      · omega
      · exact .inr ⟨l, B, .inr h1, (hearly l B h1 h2 h3).1, h3, h4⟩
  · by_cases hbM : b < M <;> by_cases hbM' : b' < M
    · rw [b1 b hbM] at hj
      rw [b1 b' hbM'] at hj'
      exact hm.inj b b' j j' (by omega) (by omega) hj hj' he
    · rw [b1 b hbM] at hj
      rw [b2 b' hbM'] at hj'
      exact absurd he (hdis b j b' j' hbM hj hbM' (hb'.resolve_left hbM') hj')
    · rw [b2 b hbM] at hj
      rw [b1 b' hbM'] at hj'
      exact absurd he.symm (hdis b' j' b j hbM' hj' hbM (hb.resolve_left hbM) hj)
    · rw [b2 b hbM] at hj
      rw [b2 b' hbM'] at hj'
      exact h.inj b b' j j' (hb.resolve_left hbM) (hb'.resolve_left hbM') hj hj' he
end
end Go.V
