/-
  What reads as data is held by the abstract machine's values: slices, trees, bundles, messages.
-/
import Derived.Test.YtdmaodpmfbgcaaaGreatSmall
import Derived.Test.YtdmaodpmfbgcaaaGreatSess
import Derived.ProofKit
import Derived.SizedLaws
set_option maxRecDepth 100000
namespace Go.Proofs.Tryz
open Go Go.V

section
variable {H : Type} {enc : TypeId × Value → H} {W : World} {Γ : Ctx}

theorem list_of {P : Nat → List AVal → Prop} : ∀ (n : Nat), (∀ i, i < n → ∃ x, P i x) → ∃ l : List (List AVal), l.length = n ∧ ∀ i x, l[i]? = some x → P i x
  | 0, _ => ⟨[], rfl, fun i x h => by cases h⟩
  | n + 1, h => by
    obtain ⟨l, hl, hp⟩ := list_of n (fun i hi => h i (by omega))
    obtain ⟨x, hx⟩ := h n (by omega)
    refine ⟨l ++ [x], by simp [hl], fun i y hy => ?_⟩
    by_cases hi : i < n
    · rw [List.getElem?_append_left (by omega)] at hy; exact hp i y hy
    · rw [List.getElem?_append_right (by omega)] at hy
      have : i = n := by
        have := (List.getElem?_eq_some_iff.1 hy).1
        simp at this; omega
      subst this
      rw [hl] at hy; simp at hy; subst hy; exact hx

theorem roRel_append : ∀ (xs ys : List AVal) (b o : Nat), roRel Γ xs b o → roRel Γ ys b (o + xs.length) → roRel Γ (xs ++ ys) b o
  | [], ys, b, o, _, h => by simpa using h
  | x :: xs, ys, b, o, h1, h2 => by
    simp only [List.cons_append, roRel] at h1 ⊢
    exact ⟨h1.1, roRel_append xs ys b (o + 1) h1.2 (by rw [List.length_cons] at h2; rw [show o + 1 + xs.length = o + (xs.length + 1) by omega]; exact h2)⟩

theorem roRel_flatten {sz b : Nat} : ∀ (l : List (List AVal)) (o : Nat), (∀ i x, l[i]? = some x → x.length = sz ∧ roRel Γ x b (o + i * sz)) → roRel Γ l.flatten b o
  | [], _, _ => by simp only [List.flatten_nil, roRel]
  | x :: l, o, h => by
    rw [List.flatten_cons]
    obtain ⟨h1, h2⟩ := h 0 x rfl
    refine roRel_append x l.flatten b o (by simpa using h2) (roRel_flatten (sz := sz) l _ fun i y hy => ?_)
    obtain ⟨h3, h4⟩ := h (i + 1) y (by simpa using hy)
    refine ⟨h3, ?_⟩
    rw [h1, show o + sz + i * sz = o + (i + 1) * sz by rw [Nat.add_mul]; omega]
    exact h4

theorem roRel_cells : ∀ (xs : List AVal) (cs : List Value) (b o : Nat), VRs Γ xs cs → (∀ c ∈ cs, c.oneCell' = true) → (∀ j, j < cs.length → Γ.ro b (o + j) = cs[j]?) → roRel Γ xs b o
  | [], _, _, _, _, _, _ => by simp only [roRel]
  | x :: xs, cs, b, o, h, h1, h2 => by
    simp only [VRs] at h
    obtain ⟨v, vs, rfl, hv, hvs⟩ := h
    simp only [roRel]
    refine ⟨⟨v, by simpa using h2 0 (by simp), hv, h1 v (List.mem_cons_self ..)⟩, roRel_cells xs vs b (o + 1) hvs (fun c hc => h1 c (List.mem_cons_of_mem _ hc)) fun j hj => ?_⟩
    rw [show o + 1 + j = o + (j + 1) by omega, h2 (j + 1) (by simpa using hj)]; simp

/-- A trod of all memory. -/
abbrev TR (enc : TypeId × Value → H) (W : World) (fuel : Nat) (t : TypeId) (cs : List Value) (x : DataW H × List MemPlace) : Prop := DataW.trod enc prog W 0 (fun _ => true) true fuel t cs = some x

theorem spot_none {w : World} {a : Addr} {v : Value} (h : w.cell? a = some v) : a.spot = none := by
  cases hs : a.spot with
  | none => rfl
  | some q =>
    unfold World.cell? at h
    rw [hs] at h
    split at h
    · simp at h
    · cases h

theorem add_eq {a : Addr} (h : a.spot = none) (n : Nat) : a.add n = ⟨a.block, a.off + n, none⟩ := by
  unfold Addr.add
  by_cases h0 : n = 0
  · subst h0; rw [if_pos rfl]; obtain ⟨b, o, s⟩ := a; simp only at h; subst h; rfl
  · rw [if_neg h0]

/-- All that a datum holds lies within the reach. -/
def Fit (t : TypeId) (d : DataW H) : Prop := ∀ n ∈ d.weights prog t, n ≤ reachBytes

theorem weights_all {e : TypeId} : ∀ {ds : List (DataW H)} {d : DataW H}, d ∈ ds → ∀ n ∈ d.weights prog e, n ∈ DataW.weightsAll prog e ds
  | [], d, h => by cases h
  | x :: ds, d, h => by
    intro n hn
    simp only [DataW.weightsAll, List.mem_append]
    rcases List.mem_cons.1 h with rfl | h
    · exact .inl hn
    · exact .inr (weights_all h n hn)

/-- A slice that reads as data. -/
theorem slice_read {fuel : Nat} {t e : TypeId} {sz : Nat} {cs : List Value} {x : DataW H × List MemPlace} (ht : prog.underlying t = some (.slice e)) (hsz : prog.cellsOf e = sz) (hpos : 0 < sz) (hb : 0 < prog.bytesOf e) (h : TR enc W fuel t cs x) (hf : Fit t x.1) :
    ∃ (v : Value) (len n : Nat) (el : Nat → List Value) (b o : Nat), cs = [v] ∧ v.oneCell' = true ∧ len ≤ reachBytes ∧ n < fuel ∧ (∀ i, i < len → (el i).length = sz ∧ (∃ y, TR enc W n e (el i) y ∧ Fit e y.1) ∧ ∀ j, j < sz → W.cell? ⟨b, o + i * sz + j, none⟩ = (el i)[j]?) ∧
      (∃ a c, v = .slice a len c ∧ len ≤ c ∧ (0 < len → a = some ⟨b, o, none⟩)) := by
  rcases DataW.trod_slice ht h with ⟨rfl, _⟩ | ⟨a, len, cap, elems, rest, n, rfl, rfl, rfl, _, hl, hm, hlen, hel, _, _⟩
  · cases fuel with
    | zero => simp [TR, DataW.trod] at h
    | succ n => exact ⟨_, 0, n, fun _ => [], 0, 0, rfl, rfl, Nat.zero_le _, by omega, fun i hi => by omega, none, 0, rfl, Nat.le_refl _, fun h => by omega⟩
  · have hw : ∀ k ∈ ((elems.map (·.1)).length + (rest.map (·.1)).length) * prog.bytesOf e :: (DataW.weightsAll prog e (elems.map (·.1)) ++ DataW.weightsAll prog e (rest.map (·.1))), k ≤ reachBytes := by
      intro k hk
      refine hf k ?_
      show k ∈ DataW.weights prog t (.slice (elems.map (·.1)) (rest.map (·.1)))
      rw [DataW.weights, ht]
      exact hk
    have hreach : len ≤ reachBytes := by
      have h1 := hw _ (List.mem_cons_self ..)
      rw [List.length_map, hlen] at h1
      refine Nat.le_trans ?_ h1
      calc len ≤ len * prog.bytesOf e := Nat.le_mul_of_pos_right _ hb
        _ ≤ _ := Nat.mul_le_mul_right _ (Nat.le_add_right _ _)
    have each : ∀ i, i < len → ∃ cs, W.cells? 0 (a.add (i * sz)) sz = some cs ∧ ∃ y, TR enc W n e cs y ∧ Fit e y.1 := by
      intro i hi
      have := hel i hi
      rw [List.getElem?_eq_getElem (by omega), hsz] at this
      simp only [Option.bind_eq_some_iff] at this
      obtain ⟨cs, h1, h2⟩ := this
      refine ⟨cs, h1, _, h2, fun k hk => hw k (List.mem_cons_of_mem _ (List.mem_append_left _ (weights_all (List.mem_map.2 ⟨_, List.getElem_mem (by omega), rfl⟩) k hk)))⟩
    have spot : 0 < len → a.spot = none := by
      intro h0
      obtain ⟨cs, h1, _⟩ := each 0 h0
      obtain ⟨_, h2, h3⟩ := World.cells?_some h1
      have h4 := h3 0 hpos
      rw [List.getElem?_eq_getElem (by omega)] at h4
      simp only [Nat.zero_mul] at h4
      exact spot_none (show W.cell? a = some _ from h4)
    refine ⟨_, len, n, fun i => (W.cells? 0 (a.add (i * sz)) sz).getD [], a.block, a.off, rfl, rfl, hreach, by omega, fun i hi => ?_, some a, cap, rfl, hl, fun h0 => by have := spot h0; obtain ⟨b, o, s⟩ := a; simp only at this; subst this; rfl⟩
    obtain ⟨cs, h1, y, h2⟩ := each i hi
    have hs := spot (by omega)
    simp only [h1, Option.getD_some]
    obtain ⟨_, h3, h4⟩ := World.cells?_some h1
    refine ⟨h3, ⟨y, h2⟩, fun j hj => ?_⟩
    have := h4 j hj
    rw [add_eq hs, add_eq rfl] at this
    exact this

theorem imm_len (Γ : Ctx) {v : Value} {len : Nat} (h : ∃ a c, v = .slice a len c ∧ len ≤ c) : VR Γ (.imm [] len) v := by
  obtain ⟨a, c, rfl, hl⟩ := h
  simp only [VR]
  exact ⟨a, c, rfl, hl, fun h => absurd rfl h⟩

/-- A slice, its elements too. -/
theorem slice_deep {fuel : Nat} {t e : TypeId} {sz : Nat} {cs : List Value} {x : DataW H × List MemPlace} (ht : prog.underlying t = some (.slice e)) (hsz : prog.cellsOf e = sz) (hpos : 0 < sz) (hb : 0 < prog.bytesOf e) (h : TR enc W fuel t cs x) (hf : Fit t x.1) (hΓ : ∀ b o, Γ.ro b o = W.cell? ⟨b, o, none⟩)
    {R : List AVal → Prop} (hR : ∀ n el y, n < fuel → TR enc W n e el y → Fit e y.1 → el.length = sz → ∃ xs, R xs ∧ xs.length = sz ∧ VRs Γ xs el ∧ ∀ c ∈ el, c.oneCell' = true) :
    ∃ (v : Value) (l : List (List AVal)), cs = [v] ∧ v.oneCell' = true ∧ l.length ≤ reachBytes ∧ (∀ xs ∈ l, R xs) ∧ VR Γ (.imm l.flatten l.length) v := by
  obtain ⟨v, len, n, el, b, o, rfl, ho, hm, hn, hel, a, c, rfl, hc, ha⟩ := slice_read ht hsz hpos hb h hf
  obtain ⟨l, hl, hp⟩ := list_of (P := fun i xs => R xs ∧ xs.length = sz ∧ VRs Γ xs (el i) ∧ ∀ c ∈ el i, c.oneCell' = true) len fun i hi => by
    obtain ⟨h1, ⟨y, h2, h3⟩, _⟩ := hel i hi
    exact hR n (el i) y hn h2 h3 h1
  refine ⟨_, l, rfl, ho, by omega, fun xs hx => ?_, ?_⟩
  · obtain ⟨i, hi⟩ := List.getElem?_of_mem hx
    exact (hp i xs hi).1
  · simp only [VR]
    refine ⟨a, c, by rw [hl], by omega, fun hne => ?_⟩
    have h0 : 0 < len := by
      cases l with
      | nil => simp at hne
      | cons _ _ => simp at hl; omega
    refine ⟨⟨b, o, none⟩, ha h0, rfl, roRel_flatten (sz := sz) l o fun i xs hi => ?_⟩
    obtain ⟨_, h2, h3, h4⟩ := hp i xs hi
    have hi' : i < len := by rw [← hl]; exact (List.getElem?_eq_some_iff.1 hi).1
    obtain ⟨h5, _, h6⟩ := hel i hi'
    refine ⟨h2, roRel_cells xs (el i) b _ h3 h4 fun j hj => ?_⟩
    rw [hΓ]; exact h6 j (by omega)

theorem trod_field {fuel : Nat} {t : TypeId} {fs : Array Field} {cs : List Value} {x : DataW H × List MemPlace} (ht : prog.underlying t = some (.struct fs)) (h : TR enc W fuel t cs x) (hf : Fit t x.1) :
    ∃ n, fuel = n + 1 ∧ cs.length = prog.cellsOf t ∧ ∀ (i : Nat) (f : Field), fs[i]? = some f → ∃ y, TR enc W n f.type ((cs.drop f.offset).take (prog.cellsOf f.type)) y ∧ Fit f.type y.1 := by
  obtain ⟨xs, n, h1, rfl, h3, h4, h5⟩ := DataW.trod_struct ht h
  refine ⟨n, h1, h3, fun i f hfi => ?_⟩
  have := h5 i f hfi
  have hi : i < xs.length := by rw [h4]; exact (Array.getElem?_eq_some_iff.1 hfi).1
  rw [List.getElem?_eq_getElem hi] at this
  refine ⟨_, this, fun k hk => hf k ?_⟩
  show k ∈ DataW.weights prog t (.agg (xs.map (·.1)))
  rw [DataW.weights, ht]
  exact DataW.weights_mem_each (j := i) (t := f.type) (d := (xs[i]).1) (by simp [hfi]) (by simp [hi]) k hk

theorem int_read {fuel : Nat} {t : TypeId} {k : IntKind} {cs : List Value} {x : DataW H × List MemPlace} (ht : prog.underlying t = some (.int k)) (h : TR enc W fuel t cs x) : ∃ n, cs = [.int k n] := by
  obtain ⟨n, h1, _⟩ := DataW.trod_int ht h
  exact ⟨n, h1⟩
theorem str_read {fuel : Nat} {t : TypeId} {cs : List Value} {x : DataW H × List MemPlace} (ht : prog.underlying t = some .string) (h : TR enc W fuel t cs x) : ∃ s, cs = [.string s] := by
  obtain ⟨n, h1, _⟩ := DataW.trod_string ht h
  exact ⟨n, h1⟩

theorem cells40 : prog.cellsOf 40 = 2 := by kernel_rfl
theorem cells301 : prog.cellsOf 301 = 3 := by kernel_rfl
theorem cells346 : prog.cellsOf 346 = 4 := by kernel_rfl
theorem cells37 : prog.cellsOf 37 = 1 := by kernel_rfl
theorem cells38 : prog.cellsOf 38 = 1 := by kernel_rfl
theorem vcells9 : prog.cellsOf 9 = 1 := by kernel_rfl

/-- A slice of which only the length is asked. -/
theorem slice_len {fuel : Nat} {t e : TypeId} {sz : Nat} {cs : List Value} {x : DataW H × List MemPlace} (ht : prog.underlying t = some (.slice e)) (hsz : prog.cellsOf e = sz) (hpos : 0 < sz) (hb : 0 < prog.bytesOf e) (h : TR enc W fuel t cs x) (hf : Fit t x.1) :
    ∃ v n, cs = [v] ∧ v.oneCell' = true ∧ n ≤ 140737488355328 ∧ VR Γ (.imm [] n) v := by
  obtain ⟨v, len, n, el, b, o, rfl, ho, hm, hn, hel, a, c, rfl, hc, ha⟩ := slice_read ht hsz hpos hb h hf
  exact ⟨_, len, rfl, ho, Nat.le_trans hm (by decide), imm_len Γ ⟨a, c, rfl, hc⟩⟩

theorem bytes301 : 0 < prog.bytesOf 301 := of_decide_eq_true (by kernel_rfl)
theorem bytes346 : 0 < prog.bytesOf 346 := of_decide_eq_true (by kernel_rfl)

theorem tree_read (hΓ : ∀ b o, Γ.ro b o = W.cell? ⟨b, o, none⟩) : ∀ (fuel : Nat) (cs : List Value) (x : DataW H × List MemPlace), TR enc W fuel 40 cs x → Fit 40 x.1 →
    ∃ e s n kss, cs = [e, s] ∧ e.oneCell' = true ∧ s.oneCell' = true ∧ TreeR n kss ∧ VR Γ (.imm [] n) e ∧ VR Γ (.imm kss.flatten kss.length) s := by
  intro fuel
  induction fuel using Nat.strongRecOn with
  | _ fuel ih =>
    intro cs x h hF
    obtain ⟨n2, rfl, hl, hg⟩ := trod_field underlying40 h hF
    rw [cells40] at hl
    obtain ⟨e, s, rfl⟩ : ∃ e s, cs = [e, s] := by
      match cs, hl with
      | [e, s], _ => exact ⟨e, s, rfl⟩
    obtain ⟨z0, hz0, f0⟩ := hg 0 _ rfl
    obtain ⟨z1, hz1, f1⟩ := hg 1 _ rfl
    have hz0' : TR enc W n2 37 [e] z0 := by simpa [cells37] using hz0
    have hz1' : TR enc W n2 38 [s] z1 := by simpa [cells38] using hz1
    obtain ⟨ve, ne, e1, oe, be, re⟩ := slice_len (Γ := Γ) underlying37 cells346 (by decide) bytes346 hz0' f0
    cases e1
    obtain ⟨vs, l, e2, os, bs, hk, rs⟩ := slice_deep (Γ := Γ) (R := KidR) underlying38 cells301 (by decide) bytes301 hz1' f1 hΓ fun n el y hn hy hfy hl => by
      obtain ⟨n1, rfl, _, hf⟩ := trod_field underlying301 hy hfy
      obtain ⟨k, e, s, rfl⟩ : ∃ k e s, el = [k, e, s] := by
        match el, hl with
        | [k, e, s], _ => exact ⟨k, e, s, rfl⟩
      obtain ⟨y0, hy0, _⟩ := hf 0 _ rfl
      obtain ⟨y1, hy1, g1⟩ := hf 1 _ rfl
      have hy0' : TR enc W n1 9 [k] y0 := by simpa [vcells9] using hy0
      have hy1' : TR enc W n1 40 [e, s] y1 := by simpa [cells40] using hy1
      obtain ⟨st, hst⟩ := str_read underlying9 hy0'
      cases hst
      obtain ⟨e', s', n', kss', hes, o1, o2, hT, r1, r2⟩ := ih n1 (by omega) _ _ hy1' g1
      cases hes
      refine ⟨_, KidR.mk n' kss' hT.1 hT.2.1 hT.2.2, rfl, ?_, ?_⟩
      · simp only [VRs]
        exact ⟨_, _, rfl, by simp only [VR], _, _, rfl, r1, _, _, rfl, r2, rfl⟩
      · intro c hc
        simp only [List.mem_cons, List.not_mem_nil, or_false] at hc
        rcases hc with rfl | rfl | rfl
        · rfl
        · exact o1
        · exact o2
    cases e2
    exact ⟨e, s, ne, l, rfl, oe, os, ⟨be, Nat.le_trans bs (by decide), hk⟩, re, rs⟩
end
end Go.Proofs.Tryz
