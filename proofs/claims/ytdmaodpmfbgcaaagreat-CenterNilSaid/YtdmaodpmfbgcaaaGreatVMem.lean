/-
  Memory that changes: a new block, a block written, a block grown.
-/
import Derived.Test.YtdmaodpmfbgcaaaGreatVLight3
import Derived.Laws.CopyRow
namespace Go.V

def Ctx.set (Γ : Ctx) (b : Nat) (i : BI) : Ctx := { Γ with blk := fun x => if x = b then some i else Γ.blk x, dom := fun x => x = b ∨ Γ.dom x }

section
variable {w w' : World} {Γ : Ctx} {m : Mem}

theorem MemR.lt (h : MemR Γ m w) {b : Nat} {i : BI} (hb : b < m.next) (hi : Γ.blk b = some i) : i.cb < w.heap.size := by
  cases hg : m.get b with
  | none => rw [h.gone b hg hb] at hi; cases hi
  | some B =>
    obtain ⟨_, cb, cs, h2, h3, _⟩ := h.blk b B hg
    rw [h2] at hi
    cases hi
    exact (Array.getElem?_eq_some_iff.1 h3).1

theorem MemR.ro_lt (h : MemR Γ m w) {b o : Nat} {v : Value} (hv : Γ.ro b o = some v) : b < w.heap.size := by
  have := h.ro b o v hv
  exact World.block_lt_of_cell? w ⟨b, o, none⟩ this

theorem get_add (m : Mem) (blk : Block) (hn : m.next < 65536) (b : Nat) : (m.add blk).get b = if b = m.next then some blk else m.get b := by
  unfold Mem.get Mem.add
  exact Hp.get_put _ _ _ _ (by omega)

theorem get_upd (m : Mem) (b : Nat) (blk : Block) (hn : b < 65536) (x : Nat) : (m.upd b blk).get x = if x = b then some blk else m.get x := by
  unfold Mem.get Mem.upd
  exact Hp.get_put _ _ _ _ (by omega)

/-- The cells of a block, said of a world. -/
def CellsR (Γ : Ctx) (cells : List AVal) (cs : Array Value) : Prop :=
  cells.length ≤ cs.size ∧ ∀ (i : Nat) (a : AVal), cells[i]? = some a → ∃ v : Value, cs[i]? = some v ∧ VR Γ a v ∧ v.oneCell' = true

theorem CellsR.of_VRs {cells : List AVal} {cs : Array Value} (h : VRs Γ cells cs.toList) (h1 : ∀ u ∈ cs.toList, u.oneCell' = true) : CellsR Γ cells cs := by
  refine ⟨by have := h.length; simp at this; omega, fun i a ha => ?_⟩
  obtain ⟨v, hv, hr⟩ := h.get ha
  exact ⟨v, by simpa using hv, hr, h1 v (List.mem_of_getElem? hv)⟩

theorem CellsR.mono {Δ : Ctx} (hl : Γ.le Δ) {cells : List AVal} {cs : Array Value} (h : CellsR Γ cells cs) : CellsR Δ cells cs :=
  ⟨h.1, fun i a ha => by obtain ⟨v, h1, h2, h3⟩ := h.2 i a ha; exact ⟨v, h1, VR.mono hl a v h2, h3⟩⟩

/-- The world moves, nothing that the abstract memory knows is touched. -/
theorem MemR.still (h : MemR Γ m w) (hh : w'.heap = w.heap) : MemR Γ m w' := by
  refine ⟨h.dom, h.small, h.gone, ?_, h.inj, ?_⟩
  · rw [hh]; exact h.blk
  · intro b o v hv
    have := h.ro b o v hv
    simpa [World.cell?, hh] using this

theorem Step.still (hh : w'.heap = w.heap) (ho : w'.os = w.os) (ht : w'.tape = w.tape) (hu : w'.output = w.output) : Step Γ w Γ w' :=
  ⟨.refl Γ, ho, ht, hu, by rw [hh]; exact Nat.le_refl _, fun _ _ _ => by rw [hh], fun b i hb hi _ => ⟨b, i, hb, hi, rfl⟩, fun _ _ _ h => .inl h⟩

theorem MemR.add (h : MemR Γ m w) (hn : m.next < 65536) {blk : Block} {cs : Array Value} (hr : CellsR Γ blk.cells cs) :
    Γ.le (Γ.set m.next ⟨blk.cells.length, w.heap.size, cs.size⟩) ∧
    MemR (Γ.set m.next ⟨blk.cells.length, w.heap.size, cs.size⟩) (m.add blk) (w.alloc (.cells cs blk.ty)) ∧
    Step Γ w (Γ.set m.next ⟨blk.cells.length, w.heap.size, cs.size⟩) (w.alloc (.cells cs blk.ty)) := by
  have hle : Γ.le (Γ.set m.next ⟨blk.cells.length, w.heap.size, cs.size⟩) := by
    refine ⟨fun b hb => .inr hb, fun b i hb hi => ?_, fun _ _ _ hv => hv, rfl⟩
    rw [h.dom] at hb
    simp only [Ctx.set] at hi
    rw [if_neg (by omega)] at hi
    exact ⟨i, hi, .inl rfl⟩
  have hold : ∀ k, k < w.heap.size → (w.alloc (.cells cs blk.ty)).heap[k]? = w.heap[k]? := fun k hk => Go.RowKit.Below.heap_alloc w _ k hk
  refine ⟨hle, ⟨fun b => by show b = m.next ∨ Γ.dom b ↔ b < m.next + 1; rw [h.dom]; omega, by show m.next + 1 ≤ _; omega, fun b hb hlt => ?_, fun b B hb => ?_, fun b b' i i' hb hb' hi hi' he => ?_, fun b o v hv => ?_⟩, ⟨hle, rfl, rfl, rfl, by simp, fun k hk _ => hold k hk, fun b i hb hi hlt => ?_, fun _ _ _ h => .inl h⟩⟩
  · rw [get_add m blk hn] at hb
    have hlt' : b < m.next + 1 := hlt
    split at hb
    · cases hb
    · rename_i hne
      simp only [Ctx.set]
      rw [if_neg hne]
      exact h.gone b hb (by omega)
  · rw [get_add m blk hn] at hb
    split at hb
    · rename_i he
      simp only [Option.some.injEq] at hb
      subst hb; subst he
      refine ⟨by show m.next < m.next + 1; omega, w.heap.size, cs, by simp [Ctx.set], heap_alloc_new w _, hr.1, (hr.mono hle).2, fun i _ => ?_⟩
      cases hv : Γ.ro w.heap.size i with
      | none => simpa [Ctx.set] using hv
      | some v => have := h.ro_lt hv; omega
    · rename_i hne
      obtain ⟨h1, cb, cs', h2, h3, h4, h5, h6⟩ := h.blk b B hb
      refine ⟨by show b < m.next + 1; omega, cb, cs', by simp only [Ctx.set]; rw [if_neg hne]; exact h2, by rw [hold cb (Array.getElem?_eq_some_iff.1 h3).1]; exact h3, h4, fun i a ha => ?_, h6⟩
      obtain ⟨v, k1, k2, k3⟩ := h5 i a ha
      exact ⟨v, k1, VR.mono hle a v k2, k3⟩
  · simp only [Ctx.set] at hi hi'
    have hb1 : b < m.next + 1 := hb
    have hb2 : b' < m.next + 1 := hb'
    split at hi <;> split at hi'
    · omega
    · rename_i e1 e2
      simp only [Option.some.injEq] at hi
      subst hi
      have := h.lt (by omega : b' < m.next) hi'
      simp at he; omega
    · rename_i e1 e2
      simp only [Option.some.injEq] at hi'
      subst hi'
      have := h.lt (by omega : b < m.next) hi
      simp at he; omega
    · rename_i e1 e2
      exact h.inj b b' i i' (by omega) (by omega) hi hi' he
  · have hv' : Γ.ro b o = some v := hv
    have hlt := h.ro_lt hv'
    have := h.ro b o v hv'
    simpa [World.cell?, hold b hlt] using this
  · simp only [Ctx.set] at hi hb
    split at hi
    · simp only [Option.some.injEq] at hi
      subst hi
      simp at hlt
    · rename_i hne
      exact ⟨b, i, hb.resolve_left hne, hi, rfl⟩

/-- A block is written, or grows, where it lies or elsewhere. -/
theorem MemR.change (h : MemR Γ m w) {b cb cb' : Nat} {B B' : Block} {cs cs' : Array Value} (hb : m.get b = some B) (hB : Γ.blk b = some ⟨B.cells.length, cb, cs.size⟩)
    (hw : w'.heap[cb']? = some (.cells cs' B'.ty (0, 0))) (others : ∀ k, k ≠ cb → k < w.heap.size → w'.heap[k]? = w.heap[k]?) (size : w.heap.size ≤ w'.heap.size)
    (at_ : cb' = cb ∨ w.heap.size ≤ cb') (ext : B.cells.length < B'.cells.length ∨ (B'.cells.length = B.cells.length ∧ cb' = cb ∧ cs'.size = cs.size))
    (cells : CellsR Γ B'.cells cs') (ro : ∀ i v, Γ.ro cb i = some v → w'.cell? ⟨cb, i, none⟩ = some v) (fz : ∀ i, B'.fz ≤ i → Γ.ro cb' i = none)
    (ho : w'.os = w.os) (ht : w'.tape = w.tape) (hu : w'.output = w.output) :
    Γ.le (Γ.set b ⟨B'.cells.length, cb', cs'.size⟩) ∧ MemR (Γ.set b ⟨B'.cells.length, cb', cs'.size⟩) (m.upd b B') w' ∧ Step Γ w (Γ.set b ⟨B'.cells.length, cb', cs'.size⟩) w' := by
  have hbn : b < m.next := (h.blk b B hb).1
  have hcb : cb < w.heap.size := h.lt hbn hB
  have hle : Γ.le (Γ.set b ⟨B'.cells.length, cb', cs'.size⟩) := by
    refine ⟨fun x hx => .inr hx, fun x i hx hi => ?_, fun _ _ _ hv => hv, rfl⟩
    simp only [Ctx.set] at hi
    split at hi
    · rename_i e
      subst e
      simp only [Option.some.injEq] at hi
      subst hi
      refine ⟨_, hB, ?_⟩
      rcases ext with e | ⟨e1, e2, e3⟩
      · exact .inr e
      · left; rw [e1, e2, e3]
    · exact ⟨i, hi, .inl rfl⟩
  have hnb : ∀ x i, x < m.next → Γ.blk x = some i → x ≠ b → i.cb ≠ cb := fun x i hx hi hne e => hne (h.inj x b i _ hx hbn hi hB e)
  refine ⟨hle, ⟨fun x => by show x = b ∨ Γ.dom x ↔ x < m.next; rw [h.dom]; omega, h.small, fun x hx hlt => ?_, fun x X hx => ?_, fun x y i j hx hy hi hj he => ?_, fun x o v hv => ?_⟩, ⟨hle, ho, ht, hu, size, fun k hk hn => others k (fun e => hn b _ ((h.dom b).2 hbn) hB e.symm) hk, fun x i hx hi hlt => ?_, fun _ _ _ h => .inl h⟩⟩
  · rw [get_upd m b B' (by have := h.small; omega)] at hx
    split at hx
    · cases hx
    · rename_i hne
      simp only [Ctx.set]
      rw [if_neg hne]
      exact h.gone x hx hlt
  · rw [get_upd m b B' (by have := h.small; omega)] at hx
    split at hx
    · rename_i e
      subst e
      simp only [Option.some.injEq] at hx
      subst hx
      exact ⟨hbn, cb', cs', by simp [Ctx.set], hw, cells.1, (cells.mono hle).2, fz⟩
    · rename_i hne
      obtain ⟨h1, c, cs2, h2, h3, h4, h5, h6⟩ := h.blk x X hx
      refine ⟨h1, c, cs2, by simp only [Ctx.set]; rw [if_neg hne]; exact h2, by rw [others c (hnb x _ h1 h2 hne) (Array.getElem?_eq_some_iff.1 h3).1]; exact h3, h4, fun i a ha => ?_, h6⟩
      obtain ⟨v, k1, k2, k3⟩ := h5 i a ha
      exact ⟨v, k1, VR.mono hle a v k2, k3⟩
  · simp only [Ctx.set] at hi hj
    have hx1 : x < m.next := hx
    have hy1 : y < m.next := hy
    split at hi <;> split at hj
    · omega
    · rename_i e1 e2
      simp only [Option.some.injEq] at hi
      subst hi
      have h1 := h.lt hy1 hj
      have h2 := hnb y j hy1 hj e2
      rcases at_ with e | e
      · exact absurd (he.symm.trans e) h2
      · simp at he; omega
    · rename_i e1 e2
      simp only [Option.some.injEq] at hj
      subst hj
      have h1 := h.lt hx1 hi
      have h2 := hnb x i hx1 hi e1
      rcases at_ with e | e
      · exact absurd (he.trans e) h2
      · simp at he; omega
    · exact h.inj x y i j hx1 hy1 hi hj he
  · have hv' : Γ.ro x o = some v := hv
    by_cases e : x = cb
    · subst e; exact ro o v hv'
    · have := h.ro x o v hv'
      simpa [World.cell?, others x e (h.ro_lt hv')] using this
  · simp only [Ctx.set] at hi hx
    split at hi
    · rename_i e
      simp only [Option.some.injEq] at hi
      subst hi
      rcases at_ with e' | e'
      · exact ⟨b, _, (h.dom b).2 hbn, hB, e'.symm⟩
      · simp at hlt; omega
    · rename_i hne
      exact ⟨x, i, hx.resolve_left hne, hi, rfl⟩

/-- Cells put into a row. -/
def rowPut (cs : Array Value) (off : Nat) (us : List Value) : Array Value := (cs.toList.take off ++ us ++ cs.toList.drop (off + us.length)).toArray

theorem rowPut_size (cs : Array Value) (off : Nat) (us : List Value) (h : off + us.length ≤ cs.size) : (rowPut cs off us).size = cs.size := by
  simp [rowPut]; omega

theorem rowPut_get (cs : Array Value) (off : Nat) (us : List Value) (h : off + us.length ≤ cs.size) (i : Nat) :
    (rowPut cs off us)[i]? = if off ≤ i ∧ i < off + us.length then us[i - off]? else cs[i]? := by
  have hl : (cs.toList.take off).length = off := by simp; omega
  simp only [rowPut, List.getElem?_toArray, List.getElem?_append, List.length_append, hl]
  by_cases h1 : i < off
  · rw [if_pos (by omega), if_pos h1, if_neg (by omega), List.getElem?_take_of_lt h1]; simp
  · by_cases h2 : i < off + us.length
    · rw [if_pos h2, if_neg h1, if_pos ⟨by omega, h2⟩]
    · rw [if_neg h2, if_neg (by omega), List.getElem?_drop]
      simp; congr 1; omega

theorem rowPut_rel {cells : List AVal} {cs : Array Value} (h : CellsR Γ cells cs) {off : Nat} {vs : List AVal} {us : List Value} (hr : VRs Γ vs us) (h1 : ∀ u ∈ us, u.oneCell' = true) (hl : off + vs.length ≤ cells.length) :
    CellsR Γ (lput cells off vs) (rowPut cs off us) := by
  have hlen := hr.length
  have hc := h.1
  refine ⟨by rw [lput_length, rowPut_size _ _ _ (by omega)]; exact h.1, fun i a ha => ?_⟩
  rw [lput_get _ _ _ _ hl] at ha
  rw [rowPut_get _ _ _ (by omega)]
  split at ha
  · rename_i hi
    rw [if_pos (by omega)]
    obtain ⟨v, k1, k2⟩ := hr.get ha
    exact ⟨v, k1, k2, h1 v (List.mem_of_getElem? k1)⟩
  · rename_i hi
    rw [if_neg (by omega)]
    exact h.2 i a ha

/-- Cells behind those that a block has. -/
theorem rowPut_grow {cells : List AVal} {cs : Array Value} (h : CellsR Γ cells cs) {vs : List AVal} {us : List Value} (hr : VRs Γ vs us) (h1 : ∀ u ∈ us, u.oneCell' = true) (hl : cells.length + us.length ≤ cs.size) :
    CellsR Γ (cells ++ vs) (rowPut cs cells.length us) := by
  have hlen := hr.length
  refine ⟨by rw [List.length_append, rowPut_size _ _ _ hl]; omega, fun i a ha => ?_⟩
  rw [rowPut_get _ _ _ hl]
  rw [List.getElem?_append] at ha
  split at ha
  · rename_i hi
    rw [if_neg (by omega)]
    exact h.2 i a ha
  · rename_i hi
    have hlt := (List.getElem?_eq_some_iff.1 ha).1
    rw [if_pos (by omega)]
    obtain ⟨v, k1, k2⟩ := hr.get ha
    exact ⟨v, k1, k2, h1 v (List.mem_of_getElem? k1)⟩

theorem MemR.cellsR (h : MemR Γ m w) {b : Nat} {B : Block} (hb : m.get b = some B) :
    b < m.next ∧ ∃ (cb : Nat) (cs : Array Value), Γ.blk b = some ⟨B.cells.length, cb, cs.size⟩ ∧ w.heap[cb]? = some (.cells cs B.ty (0, 0)) ∧ CellsR Γ B.cells cs ∧ ∀ i, B.fz ≤ i → Γ.ro cb i = none := by
  obtain ⟨h1, cb, cs, h2, h3, h4, h5, h6⟩ := h.blk b B hb
  exact ⟨h1, cb, cs, h2, h3, ⟨h4, h5⟩, h6⟩

/-- A write into a block that is known. -/
theorem MemR.write (h : MemR Γ m w) {b : Nat} {B : Block} (hb : m.get b = some B) {cb : Nat} {cs : Array Value} (hB : Γ.blk b = some ⟨B.cells.length, cb, cs.size⟩) (hw : w.heap[cb]? = some (.cells cs B.ty (0, 0)))
    {off : Nat} {vs : List AVal} {us : List Value} (hr : VRs Γ vs us) (h1 : ∀ u ∈ us, u.oneCell' = true) (hfz : B.fz ≤ off) (hl : off + vs.length ≤ B.cells.length) :
    ∃ Δ, Γ.le Δ ∧ MemR Δ (m.upd b { B with cells := lput B.cells off vs }) (w.setRow cb (rowPut cs off us)) ∧ Step Γ w Δ (w.setRow cb (rowPut cs off us)) := by
  obtain ⟨_, cb', cs', e1, e2, hc, hro⟩ := h.cellsR hb
  rw [e1] at hB
  simp only [Option.some.injEq, BI.mk.injEq] at hB
  obtain ⟨_, rfl, _⟩ := hB
  rw [e2] at hw
  simp only [Option.some.injEq, Obj.cells.injEq] at hw
  obtain ⟨rfl, _⟩ := hw
  have hlen := hr.length
  have hrel := rowPut_rel hc hr h1 hl
  have hcs := hc.1
  have hsz := rowPut_size cs' off us (by omega)
  refine ⟨_, h.change (B' := { B with cells := lput B.cells off vs }) (cs' := rowPut cs' off us) hb e1 (setRow_heap w cb' cs' _ _ _ e2) (fun k hk _ => setRow_other w cb' k _ hk) (by simp) (.inl rfl) (.inr ⟨lput_length _ _ _, rfl, hsz⟩) hrel (fun i v hv => ?_) hro rfl rfl rfl⟩
  have hv' := h.ro cb' i v hv
  rw [cell_of_heap e2] at hv'
  rw [cell_setRow_same w cb' i cs' _ _ _ e2, rowPut_get _ _ _ (by omega), if_neg, hv']
  intro hi
  rw [hro i (by omega)] at hv
  cases hv
end
end Go.V
