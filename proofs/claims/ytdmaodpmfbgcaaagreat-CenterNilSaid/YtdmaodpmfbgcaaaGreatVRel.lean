/-
  How the abstract machine's values and memory stand to the model's: the relations, and that they last.
-/
import Derived.Test.YtdmaodpmfbgcaaaGreatVTab
import Derived.Laws.Append
import Derived.Laws.AppendOwn
import Derived.Laws.StructEq
import Derived.WalkKit
namespace Go.V

/-! ### The map -/
theorem nbeq (a b : Nat) : Nat.beq a b = decide (a = b) := by
  by_cases h : a = b
  · subst h; simp
  · rw [decide_eq_false h]; exact Bool.eq_false_iff.2 (fun e => h (Nat.eq_of_beq_eq_true e))
theorem nble (a b : Nat) : Nat.ble a b = decide (a ≤ b) := by
  by_cases h : a ≤ b
  · rw [decide_eq_true h]; exact (Nat.ble_eq ▸ h : Nat.ble a b = true)
  · rw [decide_eq_false h]; exact Bool.eq_false_iff.2 (fun e => h (Nat.ble_eq ▸ e : a ≤ b))
theorem nblt (a b : Nat) : Nat.blt a b = decide (a < b) := by
  unfold Nat.blt
  rw [nble]
  simp [Nat.succ_le_iff]

section
variable {α : Type}

theorem T.get_node (l r : T α) (v : Option α) (n : Nat) : (T.node l v r).get n = if n = 0 then v else if n % 2 = 1 then l.get (n / 2) else r.get (n / 2 - 1) := by
  simp [T.get, nbeq, cond_eq_ite]
theorem T.get_nil (n : Nat) : (T.nil : T α).get n = none := rfl

theorem T.get_set (x : α) : ∀ (f : Nat) (t : T α) (n m : Nat), n + 1 < 2 ^ f → (T.set f t n x).get m = if m = n then some x else t.get m := by
  intro f
  induction f with
  | zero => intro t n m h; simp at h
  | succ f ih =>
    intro t n m h
    have hp : (2 : Nat) ^ (f + 1) = 2 * 2 ^ f := by rw [Nat.pow_succ]; omega
    have e1 : ∀ (l : T α) (k j : Nat), n % 2 = 1 → k = n / 2 → (T.set f l k x).get j = if j = n / 2 then some x else l.get j := fun l k j h1 hk => by
      subst hk; exact ih l _ j (by omega)
    have e2 : ∀ (l : T α) (k j : Nat), n ≠ 0 → n % 2 ≠ 1 → k = n / 2 - 1 → (T.set f l k x).get j = if j = n / 2 - 1 then some x else l.get j := fun l k j h0 h1 hk => by
      subst hk; exact ih l _ j (by omega)
    have key : ∀ (l r : T α) (v : Option α), (if n = 0 then T.node l (some x) r else if n % 2 = 1 then T.node (T.set f l (n / 2) x) v r else T.node l v (T.set f r (n / 2 - 1) x)).get m = if m = n then some x else (T.node l v r).get m := by
      intro l r v
      by_cases h0 : n = 0
      · rw [if_pos h0, T.get_node, T.get_node]
        subst h0
        by_cases hm : m = 0 <;> simp [hm]
      · rw [if_neg h0]
        by_cases h1 : n % 2 = 1
        · rw [if_pos h1, T.get_node, T.get_node, e1 l _ _ h1 rfl]
          by_cases hm : m = n
          · subst hm; rw [if_neg h0, if_pos h1, if_pos rfl, if_pos rfl]
          · rw [if_neg hm]
            by_cases hm0 : m = 0
            · rw [if_pos hm0, if_pos hm0]
            · rw [if_neg hm0, if_neg hm0]
              by_cases hm1 : m % 2 = 1
              · rw [if_pos hm1, if_pos hm1, if_neg (by omega)]
              · rw [if_neg hm1, if_neg hm1]
        · rw [if_neg h1, T.get_node, T.get_node, e2 r _ _ h0 h1 rfl]
          by_cases hm : m = n
          · subst hm; rw [if_neg h0, if_neg h1, if_pos rfl, if_pos rfl]
          · rw [if_neg hm]
            by_cases hm0 : m = 0
            · rw [if_pos hm0, if_pos hm0]
            · rw [if_neg hm0, if_neg hm0]
              by_cases hm1 : m % 2 = 1
              · rw [if_pos hm1, if_pos hm1]
              · rw [if_neg hm1, if_neg hm1, if_neg (by omega)]
    cases t with
    | nil =>
      have := key .nil .nil none
      rw [T.get_node, T.get_nil, T.get_nil] at this
      simp only [T.set, nbeq, cond_eq_ite, decide_eq_true_eq]
      rw [this, T.get_nil]
      by_cases hm : m = n
      · simp [hm]
      · rw [if_neg hm, if_neg hm]; split <;> simp
    | node l v r =>
      simp only [T.set, nbeq, cond_eq_ite, decide_eq_true_eq]
      exact key l r v

theorem T.get_put (t : T α) (n m : Nat) (x : α) (h : n < 500000000000) : (t.put n x).get m = if m = n then some x else t.get m :=
  T.get_set x 40 t n m (by omega)

theorem Q4.pick_upd (x : Q4 α) (f : α → α) : ∀ (i j : Nat), i < 4 → j < 4 → (x.upd f i).pick j = if j = i then f (x.pick j) else x.pick j := by
  intro i j hi hj
  have : ∀ i, i < 4 → i = 0 ∨ i = 1 ∨ i = 2 ∨ i = 3 := by omega
  rcases this i hi with rfl | rfl | rfl | rfl <;> rcases this j hj with rfl | rfl | rfl | rfl <;> rfl

theorem Lv.at_set (v : α) : ∀ (k : Nat) (x : Lv α k) (n m : Nat), n < 4 ^ k → m < 4 ^ k → Lv.at k (Lv.set v k x n) m = if m = n then v else Lv.at k x m
  | 0, x, n, m, hn, hm => by
    simp only [Nat.pow_zero] at hn hm
    rw [if_pos (by omega)]; rfl
  | k + 1, x, n, m, hn, hm => by
    have hp : 4 ^ (k + 1) = 4 * 4 ^ k := by rw [Nat.pow_succ, Nat.mul_comm]
    show Lv.at k (Q4.pick (α := Lv α k) (Q4.upd (α := Lv α k) x (fun y => Lv.set v k y (n / 4)) (n % 4)) (m % 4)) (m / 4) = if m = n then v else Lv.at k (Q4.pick (α := Lv α k) x (m % 4)) (m / 4)
    have hpu := Q4.pick_upd (α := Lv α k) x (fun y => Lv.set v k y (n / 4)) (n % 4) (m % 4) (Nat.mod_lt _ (by decide)) (Nat.mod_lt _ (by decide))
    rw [hpu]
    by_cases e : m % 4 = n % 4
    · rw [if_pos e, Lv.at_set v k _ _ _ (by omega) (by omega)]
      by_cases e' : m / 4 = n / 4
      · rw [if_pos e', if_pos (by omega)]
      · rw [if_neg e', if_neg (by intro h; exact e' (by rw [h]))]
    · rw [if_neg e, if_neg (by intro h; exact e (by rw [h]))]

theorem Lv.at_rep (v : α) : ∀ (k : Nat) (n : Nat), Lv.at k (Lv.rep v k) n = v
  | 0, _ => rfl
  | k + 1, n => by
    show Lv.at k (Q4.pick (α := Lv α k) ⟨Lv.rep v k, Lv.rep v k, Lv.rep v k, Lv.rep v k⟩ (n % 4)) (n / 4) = v
    have : ∀ i, Q4.pick (⟨Lv.rep v k, Lv.rep v k, Lv.rep v k, Lv.rep v k⟩ : Q4 (Lv α k)) i = Lv.rep v k := by
      intro i
      match i with
      | 0 => rfl
      | 1 => rfl
      | 2 => rfl
      | _ + 3 => rfl
    rw [this]; exact Lv.at_rep v k _

theorem Slots.get_put (t : Slots) (n m : Nat) (x : AVal) (h : n < 256) : Slots.get (Slots.put t n x) m = if m = n then some x else Slots.get t m := by
  unfold Slots.get Slots.put
  rw [nblt, cond_eq_ite, cond_eq_ite]
  by_cases hm : m < 256
  · simp only [hm, decide_true, if_true]
    rw [Lv.at_set x 4 t n m h hm]
    split <;> rfl
  · simp only [hm, decide_false, Bool.false_eq_true, if_false]
    rw [if_neg (by omega)]

theorem Slots.get_nil {n : Nat} {v : AVal} (h : Slots.get Slots.nil n = some v) : v = .any := by
  unfold Slots.get Slots.nil at h
  rw [nblt, cond_eq_ite] at h
  split at h
  · rw [Lv.at_rep] at h; cases h; rfl
  · cases h

theorem Hp.get_put (t : Hp) (n m : Nat) (x : Block) (h : n < 65536) : Hp.get (Hp.put t n x) m = if m = n then some x else Hp.get t m := by
  unfold Hp.get Hp.put
  rw [nblt, cond_eq_ite, cond_eq_ite]
  by_cases hm : m < 65536
  · simp only [hm, decide_true, if_true]
    rw [Lv.at_set (some x) 8 t n m h hm]
  · simp only [hm, decide_false, Bool.false_eq_true, if_false]
    rw [if_neg (by omega)]

theorem Hp.get_nil (n : Nat) : Hp.get Hp.nil n = none := by
  unfold Hp.get Hp.nil
  rw [Lv.at_rep]
  cases Nat.blt n 65536 <;> rfl

def T.allp (p : Nat → α → Bool) : Nat → Nat → T α → Bool
  | _, _, .nil => true
  | a, b, .node l v r => (match v with | some x => p b x | none => true) && T.allp p (2 * a) (a + b) l && T.allp p (2 * a) (2 * a + b) r

theorem T.allp_get (p : Nat → α → Bool) : ∀ (t : T α) (a b n : Nat) (x : α), T.allp p a b t = true → t.get n = some x → p (a * n + b) x = true
  | .nil, _, _, _, _, _, h => by simp [T.get] at h
  | .node l v r, a, b, n, x, hp, h => by
    simp only [T.allp, Bool.and_eq_true] at hp
    obtain ⟨⟨h1, h2⟩, h3⟩ := hp
    by_cases h0 : n = 0
    · subst h0
      rw [T.get_node, if_pos rfl] at h
      subst h
      simpa using h1
    · by_cases hm : n % 2 = 1
      · have hg : l.get (n / 2) = some x := by rw [T.get_node, if_neg h0, if_pos hm] at h; exact h
        have := T.allp_get p l (2 * a) (a + b) (n / 2) x h2 hg
        rw [show 2 * a * (n / 2) + (a + b) = a * n + b by
          have : n = 2 * (n / 2) + 1 := by omega
          generalize n / 2 = k at *
          subst this
          rw [Nat.mul_add, Nat.mul_one, ← Nat.mul_assoc, Nat.mul_comm a 2]; omega] at this
        exact this
      · have hg : r.get (n / 2 - 1) = some x := by rw [T.get_node, if_neg h0, if_neg hm] at h; exact h
        have := T.allp_get p r (2 * a) (2 * a + b) (n / 2 - 1) x h3 hg
        rw [show 2 * a * (n / 2 - 1) + (2 * a + b) = a * n + b by
          have : n = 2 * (n / 2 - 1) + 2 := by omega
          generalize n / 2 - 1 = k at *
          subst this
          rw [Nat.mul_add, ← Nat.mul_assoc, Nat.mul_comm a 2]; omega] at this
        exact this
end

/-! ### The relations -/
structure BI where
  ext : Nat
  cb : Nat
  tot : Nat

structure Ctx where
  blk : Nat → Option BI
  dom : Nat → Prop
  ro : Nat → Nat → Option Value
  inp : Nat → Value

mutual
def VR (Γ : Ctx) : AVal → Value → Prop
  | .any, _ => True
  | .bool b, v => v = .bool b
  | .int k n, v => v = .int k n
  | .str s, v => v = .string s
  | .nilp, v => v = .pointer none
  | .ptr b ext off, v => ∃ a, v = .pointer (some a) ∧ Γ.dom b ∧ ∀ i, Γ.blk b = some i → ext ≤ i.ext ∧ (ext = i.ext → a = ⟨i.cb, off, none⟩)
  | .iptr cells, v => ∃ a, v = .pointer (some a) ∧ a.spot = none ∧ roRel Γ cells a.block a.off
  | .nil s, v => ∃ a, v = .slice a 0 0 ∧ (s = true → a = none)
  | .ref b ext off n lo exact sz, v => ∃ a c, v = .slice (some a) n c ∧ n ≤ lo ∧ lo ≤ c ∧ (exact = true → c = lo) ∧ Γ.dom b ∧
      ∀ i, Γ.blk b = some i → ext ≤ i.ext ∧ (ext = i.ext → a = ⟨i.cb, off, none⟩ ∧ off + c * sz ≤ i.tot)
  | .imm cells n, v => ∃ a c, v = .slice a n c ∧ n ≤ c ∧ (cells ≠ [] → ∃ ad, a = some ad ∧ ad.spot = none ∧ roRel Γ cells ad.block ad.off)
  | .nilf, v => v = .nilFunc
  | .fn f xs ys, v => ∃ us vs, v = .func (.func f) us vs ∧ VRs Γ xs us.toList ∧ VRs Γ ys vs.toList
  | .agg cs, v => ∃ us, v = .agg us ∧ VRs Γ cs us.toList ∧ ∀ u ∈ us.toList, u.oneCell' = true
  | .tup vs, v => ∃ us, v = .tuple us ∧ VRs Γ vs us.toList
  | .opq k, v => v = Γ.inp k ∧ v.oneCell' = true
def VRs (Γ : Ctx) : List AVal → List Value → Prop
  | [], l => l = []
  | a :: as, l => ∃ v vs, l = v :: vs ∧ VR Γ a v ∧ VRs Γ as vs
def roRel (Γ : Ctx) : List AVal → Nat → Nat → Prop
  | [], _, _ => True
  | c :: cs, b, o => (∃ v, Γ.ro b o = some v ∧ VR Γ c v ∧ v.oneCell' = true) ∧ roRel Γ cs b (o + 1)
end

structure Ctx.le (Γ Δ : Ctx) : Prop where
  dom : ∀ b, Γ.dom b → Δ.dom b
  blk : ∀ b i, Γ.dom b → Δ.blk b = some i → ∃ j, Γ.blk b = some j ∧ (j = i ∨ j.ext < i.ext)
  ro : ∀ b o v, Γ.ro b o = some v → Δ.ro b o = some v
  inp : Δ.inp = Γ.inp

theorem Ctx.le.refl (Γ : Ctx) : Γ.le Γ := ⟨fun _ h => h, fun _ i _ h => ⟨i, h, .inl rfl⟩, fun _ _ _ h => h, rfl⟩

theorem Ctx.le.trans {Γ Δ Θ : Ctx} (h : Γ.le Δ) (k : Δ.le Θ) : Γ.le Θ := by
  refine ⟨fun b hb => k.dom b (h.dom b hb), fun b i hb hi => ?_, fun b o v hv => k.ro b o v (h.ro b o v hv), k.inp.trans h.inp⟩
  obtain ⟨j, hj, hji⟩ := k.blk b i (h.dom b hb) hi
  obtain ⟨l, hl, hlj⟩ := h.blk b j hb hj
  refine ⟨l, hl, ?_⟩
  rcases hji with rfl | hji
  · exact hlj
  · rcases hlj with rfl | hlj
    · exact .inr hji
    · exact .inr (Nat.lt_trans hlj hji)

mutual
theorem VR.mono {Γ Δ : Ctx} (h : Γ.le Δ) : ∀ (a : AVal) (v : Value), VR Γ a v → VR Δ a v
  | .any, _, _ => by simp [VR]
  | .bool b, v, hv => by simpa [VR] using hv
  | .int k n, v, hv => by simpa [VR] using hv
  | .str s, v, hv => by simpa [VR] using hv
  | .nilp, v, hv => by simpa [VR] using hv
  | .ptr b ext off, v, hv => by
    simp only [VR] at hv ⊢
    obtain ⟨a, rfl, hb, hk⟩ := hv
    refine ⟨a, rfl, h.dom b hb, fun i hi => ?_⟩
    obtain ⟨j, hj, hji⟩ := h.blk b i hb hi
    have := hk j hj
    rcases hji with rfl | hlt
    · exact this
    · exact ⟨by omega, fun he => by omega⟩
  | .iptr cells, v, hv => by
    simp only [VR] at hv ⊢
    obtain ⟨a, rfl, hs, hr⟩ := hv
    exact ⟨a, rfl, hs, roRel.mono h cells _ _ hr⟩
  | .nil s, v, hv => by simpa [VR] using hv
  | .ref b ext off n lo exact sz, v, hv => by
    simp only [VR] at hv ⊢
    obtain ⟨a, c, rfl, h1, h2, h3, hb, hk⟩ := hv
    refine ⟨a, c, rfl, h1, h2, h3, h.dom b hb, fun i hi => ?_⟩
    obtain ⟨j, hj, hji⟩ := h.blk b i hb hi
    have := hk j hj
    rcases hji with rfl | hlt
    · exact this
    · exact ⟨by omega, fun he => by omega⟩
  | .imm cells n, v, hv => by
    simp only [VR] at hv ⊢
    obtain ⟨a, c, rfl, h1, h2⟩ := hv
    refine ⟨a, c, rfl, h1, fun hc => ?_⟩
    obtain ⟨ad, ha, hs, hr⟩ := h2 hc
    exact ⟨ad, ha, hs, roRel.mono h cells _ _ hr⟩
  | .nilf, v, hv => by simpa [VR] using hv
  | .fn f xs ys, v, hv => by
    simp only [VR] at hv ⊢
    obtain ⟨us, vs, rfl, h1, h2⟩ := hv
    exact ⟨us, vs, rfl, VRs.mono h xs _ h1, VRs.mono h ys _ h2⟩
  | .agg cs, v, hv => by
    simp only [VR] at hv ⊢
    obtain ⟨us, rfl, h1, h2⟩ := hv
    exact ⟨us, rfl, VRs.mono h cs _ h1, h2⟩
  | .tup cs, v, hv => by
    simp only [VR] at hv ⊢
    obtain ⟨us, rfl, h1⟩ := hv
    exact ⟨us, rfl, VRs.mono h cs _ h1⟩
  | .opq u, v, hv => by simpa [VR, h.inp] using hv
theorem VRs.mono {Γ Δ : Ctx} (h : Γ.le Δ) : ∀ (as : List AVal) (vs : List Value), VRs Γ as vs → VRs Δ as vs
  | [], vs, hv => by simpa [VRs] using hv
  | a :: as, l, hv => by
    simp only [VRs] at hv ⊢
    obtain ⟨v, vs, rfl, h1, h2⟩ := hv
    exact ⟨v, vs, rfl, VR.mono h a v h1, VRs.mono h as vs h2⟩
theorem roRel.mono {Γ Δ : Ctx} (h : Γ.le Δ) : ∀ (cs : List AVal) (b o : Nat), roRel Γ cs b o → roRel Δ cs b o
  | [], _, _, _ => by simp [roRel]
  | c :: cs, b, o, hr => by
    simp only [roRel] at hr ⊢
    obtain ⟨⟨v, h1, h2, h3⟩, h4⟩ := hr
    exact ⟨⟨v, h.ro b o v h1, VR.mono h c v h2, h3⟩, roRel.mono h cs b (o + 1) h4⟩
end

/-- Memory: each block that is known lies in a block of its own; what is read-only stays as it is. -/
structure MemR (Γ : Ctx) (m : Mem) (w : World) : Prop where
  dom : ∀ b, Γ.dom b ↔ b < m.next
  small : m.next ≤ 65536
  gone : ∀ b, m.get b = none → b < m.next → Γ.blk b = none
  blk : ∀ b B, m.get b = some B → b < m.next ∧ ∃ (cb : Nat) (cs : Array Value), Γ.blk b = some ⟨B.cells.length, cb, cs.size⟩ ∧ w.heap[cb]? = some (.cells cs B.ty (0, 0)) ∧ B.cells.length ≤ cs.size ∧
    (∀ (i : Nat) (a : AVal), B.cells[i]? = some a → ∃ v : Value, cs[i]? = some v ∧ VR Γ a v ∧ v.oneCell' = true) ∧ ∀ i, B.fz ≤ i → Γ.ro cb i = none
  inj : ∀ b b' i i', b < m.next → b' < m.next → Γ.blk b = some i → Γ.blk b' = some i' → i.cb = i'.cb → b = b'
  ro : ∀ b o v, Γ.ro b o = some v → w.cell? ⟨b, o, none⟩ = some v

/-- What reading asks of memory. -/
structure MemV (Γ : Ctx) (m : Mem) (w : World) : Prop where
  blk : ∀ b B, Γ.dom b → m.get b = some B → ∃ (cb : Nat) (cs : Array Value), Γ.blk b = some ⟨B.cells.length, cb, cs.size⟩ ∧ w.heap[cb]? = some (.cells cs B.ty (0, 0)) ∧ B.cells.length ≤ cs.size ∧
    ∀ (i : Nat) (a : AVal), B.cells[i]? = some a → ∃ v : Value, cs[i]? = some v ∧ VR Γ a v ∧ v.oneCell' = true
  ro : ∀ b o v, Γ.ro b o = some v → w.cell? ⟨b, o, none⟩ = some v

theorem MemR.view {Γ : Ctx} {m : Mem} {w : World} (h : MemR Γ m w) : MemV Γ m w :=
  ⟨fun b B _ hb => by obtain ⟨_, cb, cs, h2, h3, h4, h5, _⟩ := h.blk b B hb; exact ⟨cb, cs, h2, h3, h4, h5⟩, h.ro⟩

/-- From one moment to a later one. -/
structure Step (Γ : Ctx) (w : World) (Δ : Ctx) (w' : World) : Prop where
  le : Γ.le Δ
  os : w'.os = w.os
  tape : w'.tape = w.tape
  output : w'.output = w.output
  size : w.heap.size ≤ w'.heap.size
  frame : ∀ k, k < w.heap.size → (∀ b i, Γ.dom b → Γ.blk b = some i → i.cb ≠ k) → w'.heap[k]? = w.heap[k]?
  own : ∀ b i, Δ.dom b → Δ.blk b = some i → i.cb < w.heap.size → ∃ b' i', Γ.dom b' ∧ Γ.blk b' = some i' ∧ i'.cb = i.cb
  roNew : ∀ c o v, Δ.ro c o = some v → Γ.ro c o = some v ∨ w.heap.size ≤ c ∨ ∃ b i, Γ.dom b ∧ Γ.blk b = some i ∧ i.cb = c

theorem Step.refl (Γ : Ctx) (w : World) : Step Γ w Γ w :=
  ⟨.refl Γ, rfl, rfl, rfl, Nat.le_refl _, fun _ _ _ => rfl, fun b i hb hi _ => ⟨b, i, hb, hi, rfl⟩, fun _ _ _ h => .inl h⟩

theorem Step.trans {Γ Δ Θ : Ctx} {w w1 w2 : World} (h : Step Γ w Δ w1) (k : Step Δ w1 Θ w2) : Step Γ w Θ w2 := by
  refine ⟨h.le.trans k.le, k.os.trans h.os, k.tape.trans h.tape, k.output.trans h.output, Nat.le_trans h.size k.size, fun c hc hn => ?_, fun b i hb hi hlt => ?_, fun c o v hv => ?_⟩
  · rw [k.frame c (Nat.lt_of_lt_of_le hc h.size) (fun b i hb hi he => ?_), h.frame c hc hn]
    obtain ⟨b', i', hb', hi', he'⟩ := h.own b i hb hi (by omega)
    exact hn b' i' hb' hi' (he'.trans he)
  · obtain ⟨b', i', hb', hi', he'⟩ := k.own b i hb hi (Nat.lt_of_lt_of_le hlt h.size)
    obtain ⟨b'', i'', hb'', hi'', he''⟩ := h.own b' i' hb' hi' (by omega)
    exact ⟨b'', i'', hb'', hi'', he''.trans he'⟩
  · rcases k.roNew c o v hv with h1 | h1 | ⟨b, i, h1, h2, h3⟩
    · exact h.roNew c o v h1
    · exact .inr (.inl (Nat.le_trans h.size h1))
    · by_cases hlt : c < w.heap.size
      · obtain ⟨b', i', e1, e2, e3⟩ := h.own b i h1 h2 (by omega)
        exact .inr (.inr ⟨b', i', e1, e2, e3.trans h3⟩)
      · exact .inr (.inl (by omega))

structure StR (Γ0 Γ : Ctx) (st : St) (a : Act) (w : World) : Prop where
  mem : MemR Γ st.mem w
  slots : ∀ d v, Slots.get st.slots d = some v → VR Γ v (a.tmps.getD d undef)
  nt : a.tmps.size = st.nt
  small : st.nt ≤ 256
  defers : a.defers = []
  base : Γ0.le Γ

theorem StR.slot {Γ0 Γ : Ctx} {st : St} {a : Act} {w : World} (h : StR Γ0 Γ st a w) (d : Nat) : VR Γ (st.slot d) (a.tmps.getD d undef) := by
  unfold St.slot
  cases hg : Slots.get st.slots d with
  | none => simp [VR]
  | some v => exact h.slots d v hg

theorem VR_ofConst1 (Γ : Ctx) (v : Value) : VR Γ (ofConst1 v) v := by
  unfold ofConst1
  split <;> simp [VR]

theorem VRs_ofConst1 (Γ : Ctx) : ∀ (l : List Value), VRs Γ (l.map ofConst1) l
  | [] => by simp [VRs]
  | v :: l => by simp only [List.map_cons, VRs]; exact ⟨v, l, rfl, VR_ofConst1 Γ v, VRs_ofConst1 Γ l⟩

theorem VR_ofConst (Γ : Ctx) (v : Value) : VR Γ (ofConst v) v := by
  unfold ofConst
  split
  · rename_i cs
    cases h : cs.toList.all (·.oneCell') with
    | true =>
      simp only [cond_true, VR]
      exact ⟨cs, rfl, VRs_ofConst1 Γ _, fun u hu => List.all_eq_true.1 h u hu⟩
    | false => simp [VR]
  · exact VR_ofConst1 Γ v

end Go.V
