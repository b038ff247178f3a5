/-
  What reads as data is held by the abstract machine's values: slices, texts, steps, scripts.
-/
import Derived.Test.YtdmaodpmfbgcaaaGreatSLaw7
import Derived.ProofKit
import Derived.SizedLaws
set_option maxRecDepth 100000
namespace Go.Proofs.Tryz
open Go Go.V Go.SC

section
variable {H : Type} {enc : TypeId × Value → H} {W : World} {Γ : Ctx}

theorem list_of {P : Nat → List AVal → Prop} : ∀ (n : Nat), (∀ i, i < n → ∃ x, P i x) → ∃ l : List (List AVal), l.length = n ∧ ∀ i x, l[i]? = some x → P i x
  | 0, _ => ⟨[], rfl, fun i x h => by cases h⟩
  | n + 1, h => by
    obtain ⟨l, hl, hp⟩ := list_of n (fun i hi => h i (by omega))
    obtain ⟨x, hx⟩ := h n (by omega)
    refine ⟨l ++ [x], by simp [hl], fun i y hy => ?_⟩
    by_cases hi : i < n
    · rw [List.getElem?_append_left (by omega)] at hy; exact hp i y hy
    · rw [List.getElem?_append_right (by omega)] at hy
      have : i = n := by
        have := (List.getElem?_eq_some_iff.1 hy).1
        simp at this; omega
      subst this
      rw [hl] at hy; simp at hy; subst hy; exact hx

theorem roRel_append : ∀ (xs ys : List AVal) (b o : Nat), roRel Γ xs b o → roRel Γ ys b (o + xs.length) → roRel Γ (xs ++ ys) b o
  | [], ys, b, o, _, h => by simpa using h
  | x :: xs, ys, b, o, h1, h2 => by
    simp only [List.cons_append, roRel] at h1 ⊢
    exact ⟨h1.1, roRel_append xs ys b (o + 1) h1.2 (by rw [List.length_cons] at h2; rw [show o + 1 + xs.length = o + (xs.length + 1) by omega]; exact h2)⟩

theorem roRel_flatten {sz b : Nat} : ∀ (l : List (List AVal)) (o : Nat), (∀ i x, l[i]? = some x → x.length = sz ∧ roRel Γ x b (o + i * sz)) → roRel Γ l.flatten b o
  | [], _, _ => by simp only [List.flatten_nil, roRel]
  | x :: l, o, h => by
    rw [List.flatten_cons]
    obtain ⟨h1, h2⟩ := h 0 x rfl
    refine roRel_append x l.flatten b o (by simpa using h2) (roRel_flatten (sz := sz) l _ fun i y hy => ?_)
    obtain ⟨h3, h4⟩ := h (i + 1) y (by simpa using hy)
    refine ⟨h3, ?_⟩
    rw [h1, show o + sz + i * sz = o + (i + 1) * sz by rw [Nat.add_mul]; omega]
    exact h4

theorem roRel_cells : ∀ (xs : List AVal) (cs : List Value) (b o : Nat), VRs Γ xs cs → (∀ c ∈ cs, c.oneCell' = true) → (∀ j, j < cs.length → Γ.ro b (o + j) = cs[j]?) → roRel Γ xs b o
  | [], _, _, _, _, _, _ => by simp only [roRel]
  | x :: xs, cs, b, o, h, h1, h2 => by
    simp only [VRs] at h
    obtain ⟨v, vs, rfl, hv, hvs⟩ := h
    simp only [roRel]
    refine ⟨⟨v, by simpa using h2 0 (by simp), hv, h1 v (List.mem_cons_self ..)⟩, roRel_cells xs vs b (o + 1) hvs (fun c hc => h1 c (List.mem_cons_of_mem _ hc)) fun j hj => ?_⟩
    rw [show o + 1 + j = o + (j + 1) by omega, h2 (j + 1) (by simpa using hj)]; simp

/-- A trod of all memory. -/
abbrev TR (enc : TypeId × Value → H) (W : World) (fuel : Nat) (t : TypeId) (cs : List Value) (x : DataW H × List MemPlace) : Prop := DataW.trod enc prog W 0 (fun _ => true) true fuel t cs = some x

theorem spot_none {w : World} {a : Addr} {v : Value} (h : w.cell? a = some v) : a.spot = none := by
  cases hs : a.spot with
  | none => rfl
  | some q =>
    unfold World.cell? at h
    rw [hs] at h
    split at h
    · simp at h
    · cases h

theorem add_eq {a : Addr} (h : a.spot = none) (n : Nat) : a.add n = ⟨a.block, a.off + n, none⟩ := by
  unfold Addr.add
  by_cases h0 : n = 0
  · subst h0; rw [if_pos rfl]; obtain ⟨b, o, s⟩ := a; simp only at h; subst h; rfl
  · rw [if_neg h0]

/-- All that a datum holds lies within the reach. -/
def Fit (t : TypeId) (d : DataW H) : Prop := ∀ n ∈ d.weights prog t, n ≤ reachBytes

theorem weights_all {e : TypeId} : ∀ {ds : List (DataW H)} {d : DataW H}, d ∈ ds → ∀ n ∈ d.weights prog e, n ∈ DataW.weightsAll prog e ds
  | [], d, h => by cases h
  | x :: ds, d, h => by
    intro n hn
    simp only [DataW.weightsAll, List.mem_append]
    rcases List.mem_cons.1 h with rfl | h
    · exact .inl hn
    · exact .inr (weights_all h n hn)

/-- A slice that reads as data. -/
theorem slice_read {fuel : Nat} {t e : TypeId} {sz : Nat} {cs : List Value} {x : DataW H × List MemPlace} (ht : prog.underlying t = some (.slice e)) (hsz : prog.cellsOf e = sz) (hpos : 0 < sz) (hb : 0 < prog.bytesOf e) (h : TR enc W fuel t cs x) (hf : Fit t x.1) :
    ∃ (v : Value) (len n : Nat) (el : Nat → List Value) (b o : Nat), cs = [v] ∧ v.oneCell' = true ∧ len ≤ reachBytes ∧ n < fuel ∧ (∀ i, i < len → (el i).length = sz ∧ (∃ y, TR enc W n e (el i) y ∧ Fit e y.1) ∧ ∀ j, j < sz → W.cell? ⟨b, o + i * sz + j, none⟩ = (el i)[j]?) ∧
      (∃ a c, v = .slice a len c ∧ len ≤ c ∧ (0 < len → a = some ⟨b, o, none⟩)) := by
  rcases DataW.trod_slice ht h with ⟨rfl, _⟩ | ⟨a, len, cap, elems, rest, n, rfl, rfl, rfl, _, hl, hm, hlen, hel, _, _⟩
  · cases fuel with
    | zero => simp [TR, DataW.trod] at h
    | succ n => exact ⟨_, 0, n, fun _ => [], 0, 0, rfl, rfl, Nat.zero_le _, by omega, fun i hi => by omega, none, 0, rfl, Nat.le_refl _, fun h => by omega⟩
  · have hw : ∀ k ∈ ((elems.map (·.1)).length + (rest.map (·.1)).length) * prog.bytesOf e :: (DataW.weightsAll prog e (elems.map (·.1)) ++ DataW.weightsAll prog e (rest.map (·.1))), k ≤ reachBytes := by
      intro k hk
      refine hf k ?_
      show k ∈ DataW.weights prog t (.slice (elems.map (·.1)) (rest.map (·.1)))
      rw [DataW.weights, ht]
      exact hk
    have hreach : len ≤ reachBytes := by
      have h1 := hw _ (List.mem_cons_self ..)
      rw [List.length_map, hlen] at h1
      refine Nat.le_trans ?_ h1
      calc len ≤ len * prog.bytesOf e := Nat.le_mul_of_pos_right _ hb
        _ ≤ _ := Nat.mul_le_mul_right _ (Nat.le_add_right _ _)
    have each : ∀ i, i < len → ∃ cs, W.cells? 0 (a.add (i * sz)) sz = some cs ∧ ∃ y, TR enc W n e cs y ∧ Fit e y.1 := by
      intro i hi
      have := hel i hi
      rw [List.getElem?_eq_getElem (by omega), hsz] at this
      simp only [Option.bind_eq_some_iff] at this
      obtain ⟨cs, h1, h2⟩ := this
      refine ⟨cs, h1, _, h2, fun k hk => hw k (List.mem_cons_of_mem _ (List.mem_append_left _ (weights_all (List.mem_map.2 ⟨_, List.getElem_mem (by omega), rfl⟩) k hk)))⟩
    have spot : 0 < len → a.spot = none := by
      intro h0
      obtain ⟨cs, h1, _⟩ := each 0 h0
      obtain ⟨_, h2, h3⟩ := World.cells?_some h1
      have h4 := h3 0 hpos
      rw [List.getElem?_eq_getElem (by omega)] at h4
      simp only [Nat.zero_mul] at h4
      exact spot_none (show W.cell? a = some _ from h4)
    refine ⟨_, len, n, fun i => (W.cells? 0 (a.add (i * sz)) sz).getD [], a.block, a.off, rfl, rfl, hreach, by omega, fun i hi => ?_, some a, cap, rfl, hl, fun h0 => by have := spot h0; obtain ⟨b, o, s⟩ := a; simp only at this; subst this; rfl⟩
    obtain ⟨cs, h1, y, h2⟩ := each i hi
    have hs := spot (by omega)
    simp only [h1, Option.getD_some]
    obtain ⟨_, h3, h4⟩ := World.cells?_some h1
    refine ⟨h3, ⟨y, h2⟩, fun j hj => ?_⟩
    have := h4 j hj
    rw [add_eq hs, add_eq rfl] at this
    exact this

theorem imm_len (Γ : Ctx) {v : Value} {len : Nat} (h : ∃ a c, v = .slice a len c ∧ len ≤ c) : VR Γ (.imm [] len) v := by
  obtain ⟨a, c, rfl, hl⟩ := h
  simp only [VR]
  exact ⟨a, c, rfl, hl, fun h => absurd rfl h⟩

/-- A slice, its elements too. -/
theorem slice_deep {fuel : Nat} {t e : TypeId} {sz : Nat} {cs : List Value} {x : DataW H × List MemPlace} (ht : prog.underlying t = some (.slice e)) (hsz : prog.cellsOf e = sz) (hpos : 0 < sz) (hb : 0 < prog.bytesOf e) (h : TR enc W fuel t cs x) (hf : Fit t x.1) (hΓ : ∀ b o, Γ.ro b o = W.cell? ⟨b, o, none⟩)
    {R : List AVal → Prop} (hR : ∀ n el y, n < fuel → TR enc W n e el y → Fit e y.1 → el.length = sz → ∃ xs, R xs ∧ xs.length = sz ∧ VRs Γ xs el ∧ ∀ c ∈ el, c.oneCell' = true) :
    ∃ (v : Value) (l : List (List AVal)), cs = [v] ∧ v.oneCell' = true ∧ l.length ≤ reachBytes ∧ (∀ xs ∈ l, R xs) ∧ VR Γ (.imm l.flatten l.length) v := by
  obtain ⟨v, len, n, el, b, o, rfl, ho, hm, hn, hel, a, c, rfl, hc, ha⟩ := slice_read ht hsz hpos hb h hf
  obtain ⟨l, hl, hp⟩ := list_of (P := fun i xs => R xs ∧ xs.length = sz ∧ VRs Γ xs (el i) ∧ ∀ c ∈ el i, c.oneCell' = true) len fun i hi => by
    obtain ⟨h1, ⟨y, h2, h3⟩, _⟩ := hel i hi
    exact hR n (el i) y hn h2 h3 h1
  refine ⟨_, l, rfl, ho, by omega, fun xs hx => ?_, ?_⟩
  · obtain ⟨i, hi⟩ := List.getElem?_of_mem hx
    exact (hp i xs hi).1
  · simp only [VR]
    refine ⟨a, c, by rw [hl], by omega, fun hne => ?_⟩
    have h0 : 0 < len := by
      cases l with
      | nil => simp at hne
      | cons _ _ => simp at hl; omega
    refine ⟨⟨b, o, none⟩, ha h0, rfl, roRel_flatten (sz := sz) l o fun i xs hi => ?_⟩
    obtain ⟨_, h2, h3, h4⟩ := hp i xs hi
    have hi' : i < len := by rw [← hl]; exact (List.getElem?_eq_some_iff.1 hi).1
    obtain ⟨h5, _, h6⟩ := hel i hi'
    refine ⟨h2, roRel_cells xs (el i) b _ h3 h4 fun j hj => ?_⟩
    rw [hΓ]; exact h6 j (by omega)

theorem trod_field {fuel : Nat} {t : TypeId} {fs : Array Field} {cs : List Value} {x : DataW H × List MemPlace} (ht : prog.underlying t = some (.struct fs)) (h : TR enc W fuel t cs x) (hf : Fit t x.1) :
    ∃ n, fuel = n + 1 ∧ cs.length = prog.cellsOf t ∧ ∀ (i : Nat) (f : Field), fs[i]? = some f → ∃ y, TR enc W n f.type ((cs.drop f.offset).take (prog.cellsOf f.type)) y ∧ Fit f.type y.1 := by
  obtain ⟨xs, n, h1, rfl, h3, h4, h5⟩ := DataW.trod_struct ht h
  refine ⟨n, h1, h3, fun i f hfi => ?_⟩
  have := h5 i f hfi
  have hi : i < xs.length := by rw [h4]; exact (Array.getElem?_eq_some_iff.1 hfi).1
  rw [List.getElem?_eq_getElem hi] at this
  refine ⟨_, this, fun k hk => hf k ?_⟩
  show k ∈ DataW.weights prog t (.agg (xs.map (·.1)))
  rw [DataW.weights, ht]
  exact DataW.weights_mem_each (j := i) (t := f.type) (d := (xs[i]).1) (by simp [hfi]) (by simp [hi]) k hk

theorem int_read {fuel : Nat} {t : TypeId} {k : IntKind} {cs : List Value} {x : DataW H × List MemPlace} (ht : prog.underlying t = some (.int k)) (h : TR enc W fuel t cs x) : ∃ n, cs = [.int k n] := by
  obtain ⟨n, h1, _⟩ := DataW.trod_int ht h
  exact ⟨n, h1⟩
theorem str_read {fuel : Nat} {t : TypeId} {cs : List Value} {x : DataW H × List MemPlace} (ht : prog.underlying t = some .string) (h : TR enc W fuel t cs x) : ∃ s, cs = [.string s] := by
  obtain ⟨n, h1, _⟩ := DataW.trod_string ht h
  exact ⟨n, h1⟩


theorem sc9 : prog.cellsOf 9 = 1 := by kernel_rfl
theorem sc3 : prog.cellsOf 3 = 1 := by kernel_rfl
theorem sc2 : prog.cellsOf 2 = 1 := by kernel_rfl
theorem sc5 : prog.cellsOf 5 = 1 := by kernel_rfl
theorem sc63 : prog.cellsOf 63 = 1 := by kernel_rfl
theorem sc65 : prog.cellsOf 65 = 4 := by kernel_rfl
theorem sc115 : prog.cellsOf 115 = 9 := by kernel_rfl
theorem sc125 : prog.cellsOf 125 = 1 := by kernel_rfl
theorem sc127 : prog.cellsOf 127 = 4 := by kernel_rfl
theorem sb9 : 0 < prog.bytesOf 9 := of_decide_eq_true (by kernel_rfl)
theorem sb115 : 0 < prog.bytesOf 115 := of_decide_eq_true (by kernel_rfl)

theorem strs_of : ∀ (l : List (List AVal)), (∀ xs ∈ l, ∃ t : List UInt8, xs = [.str (mkS t)]) → ∃ ts, l = strE ts
  | [], _ => ⟨[], rfl⟩
  | xs :: l, h => by
    obtain ⟨t, rfl⟩ := h _ (List.mem_cons_self ..)
    obtain ⟨ts, rfl⟩ := strs_of l fun y hy => h y (List.mem_cons_of_mem _ hy)
    exact ⟨t :: ts, rfl⟩
theorem steps_of : ∀ (l : List (List AVal)), (∀ xs ∈ l, ∃ y, ∀ m, StepR m xs y) → ∃ ys : List LStep, l.length = ys.length ∧ ∀ (i : Nat) (y : LStep), ys[i]? = some y → ∃ cs, l[i]? = some cs ∧ ∀ m, StepR m cs y
  | [], _ => ⟨[], rfl, fun i y h => by cases h⟩
  | xs :: l, h => by
    obtain ⟨y0, hy0⟩ := h _ (List.mem_cons_self ..)
    obtain ⟨ys, h1, h2⟩ := steps_of l fun y hy => h y (List.mem_cons_of_mem _ hy)
    refine ⟨y0 :: ys, by simp [h1], fun i y hi => ?_⟩
    cases i with
    | zero => simp only [List.getElem?_cons_zero, Option.some.injEq] at hi; subst hi; exact ⟨xs, rfl, hy0⟩
    | succ i => simp only [List.getElem?_cons_succ] at hi ⊢; exact h2 i y hi

/-- A slice of texts. -/
theorem path_read (hΓ : ∀ b o, Γ.ro b o = W.cell? ⟨b, o, none⟩) {fuel : Nat} {cs : List Value} {x : DataW H × List MemPlace} (h : TR enc W fuel 63 cs x) (hF : Fit 63 x.1) :
    ∃ (v : Value) (ts : List (List UInt8)) (p : AVal), cs = [v] ∧ v.oneCell' = true ∧ VR Γ p v ∧ ∀ m, SlV m 9 1 p (strE ts) := by
  obtain ⟨v, l, e, ov, _, hR, hv⟩ := slice_deep (Γ := Γ) (R := fun xs => ∃ t : List UInt8, xs = [.str (mkS t)]) underlying63 sc9 (by decide) sb9 h hF hΓ fun n el y hn hy hfy hl => by
    obtain ⟨s, rfl⟩ := str_read underlying9 hy
    refine ⟨[.str (mkS s.data.toList)], ⟨_, rfl⟩, rfl, ?_, ?_⟩
    · rw [mkS_of]; simp only [VRs]; exact ⟨_, [], rfl, by simp only [VR], rfl⟩
    · intro c hc; rw [List.mem_singleton] at hc; subst hc; rfl
  obtain ⟨ts, rfl⟩ := strs_of l hR
  exact ⟨v, ts, _, e, ov, hv, fun m => .imm (strE ts) (strE_one ts)⟩

/-- A step. -/
theorem step_read (hΓ : ∀ b o, Γ.ro b o = W.cell? ⟨b, o, none⟩) {fuel : Nat} {cs : List Value} {x : DataW H × List MemPlace} (h : TR enc W fuel 115 cs x) (hF : Fit 115 x.1) :
    ∃ (y : LStep) (xs : List AVal), xs.length = 9 ∧ VRs Γ xs cs ∧ (∀ c ∈ cs, c.oneCell' = true) ∧ ∀ m, StepR m xs y := by
  obtain ⟨n2, rfl, hl, hg⟩ := trod_field underlying115 h hF
  rw [sc115] at hl
  obtain ⟨c0, c1, c2, c3, c4, c5, c6, c7, c8, rfl⟩ : ∃ c0 c1 c2 c3 c4 c5 c6 c7 c8, cs = [c0, c1, c2, c3, c4, c5, c6, c7, c8] := by
    match cs, hl with
    | [c0, c1, c2, c3, c4, c5, c6, c7, c8], _ => exact ⟨_, _, _, _, _, _, _, _, _, rfl⟩
  obtain ⟨z0, hz0, _⟩ := hg 0 _ rfl
  obtain ⟨z1, hz1, _⟩ := hg 1 _ rfl
  obtain ⟨z2, hz2, _⟩ := hg 2 _ rfl
  obtain ⟨z3, hz3, _⟩ := hg 3 _ rfl
  obtain ⟨z4, hz4, _⟩ := hg 4 _ rfl
  obtain ⟨z5, hz5, f5⟩ := hg 5 _ rfl
  obtain ⟨i0, e0⟩ := int_read underlying3 (show TR enc W n2 3 [c0] z0 by simpa [sc3] using hz0)
  obtain ⟨i1, e1⟩ := int_read underlying3 (show TR enc W n2 3 [c1] z1 by simpa [sc3] using hz1)
  obtain ⟨i2, e2⟩ := int_read underlying3 (show TR enc W n2 3 [c2] z2 by simpa [sc3] using hz2)
  obtain ⟨i3, e3⟩ := int_read underlying3 (show TR enc W n2 3 [c3] z3 by simpa [sc3] using hz3)
  obtain ⟨i4, e4, _, w4⟩ := DataW.trod_int underlying5 (show TR enc W n2 5 [c4] z4 by simpa [sc5] using hz4)
  cases e0; cases e1; cases e2; cases e3; cases e4
  obtain ⟨n3, rfl, hl5, hg5⟩ := trod_field underlying65 (show TR enc W n2 65 [c5, c6, c7, c8] z5 by simpa [sc65] using hz5) f5
  obtain ⟨y0, hy0, g0⟩ := hg5 0 _ rfl
  obtain ⟨y1, hy1, _⟩ := hg5 1 _ rfl
  obtain ⟨y2, hy2, _⟩ := hg5 2 _ rfl
  obtain ⟨y3, hy3, _⟩ := hg5 3 _ rfl
  obtain ⟨v, ts, p, ep, ov, hv, hp⟩ := path_read (Γ := Γ) hΓ (show TR enc W n3 63 [c5] y0 by simpa [sc63] using hy0) g0
  obtain ⟨i6, e6⟩ := int_read underlying3 (show TR enc W n3 3 [c6] y1 by simpa [sc3] using hy1)
  obtain ⟨s7, e7⟩ := str_read underlying9 (show TR enc W n3 9 [c7] y2 by simpa [sc9] using hy2)
  obtain ⟨i8, e8⟩ := int_read underlying2 (show TR enc W n3 2 [c8] y3 by simpa [sc2] using hy3)
  cases ep; cases e6; cases e7; cases e8
  have hw : 0 ≤ i4 ∧ i4 < 256 := by
    simp only [Lit.wf, Bool.and_eq_true, decide_eq_true_eq] at w4
    have a : IntKind.u8.min = 0 := rfl
    have b : IntKind.u8.max = 255 := rfl
    omega
  obtain ⟨n4, rfl⟩ := Int.eq_ofNat_of_zero_le hw.1
  have h4 : (UInt8.ofNat n4).toNat = n4 := toNat_ofNat (by omega)
  refine ⟨⟨i0, i1, i2, i3, UInt8.ofNat n4, ts, i6, s7.data.toList, i8⟩, stepC ⟨i0, i1, i2, i3, UInt8.ofNat n4, ts, i6, s7.data.toList, i8⟩ p, rfl, ?_, ?_, fun m => ⟨p, rfl, hp m⟩⟩
  · simp only [stepC, VRs, VR, mkS_of, h4]
    exact ⟨_, _, rfl, rfl, _, _, rfl, rfl, _, _, rfl, rfl, _, _, rfl, rfl, _, _, rfl, rfl, _, _, rfl, hv, _, _, rfl, rfl, _, _, rfl, rfl, _, _, rfl, rfl, rfl⟩
  · intro c hc
    simp only [List.mem_cons, List.not_mem_nil, or_false] at hc
    rcases hc with rfl | rfl | rfl | rfl | rfl | rfl | rfl | rfl | rfl <;> first | rfl | exact ov

/-- A script. -/
theorem script_read (hΓ : ∀ b o, Γ.ro b o = W.cell? ⟨b, o, none⟩) {fuel : Nat} {cs : List Value} {x : DataW H × List MemPlace} (h : TR enc W fuel 127 cs x) (hF : Fit 127 x.1) :
    ∃ (y : LScript) (xs : List AVal), VRs Γ xs cs ∧ (∀ c ∈ cs, c.oneCell' = true) ∧ ∀ m, ScrR m 115 xs y := by
  obtain ⟨n2, rfl, hl, hg⟩ := trod_field underlying127 h hF
  rw [sc127] at hl
  obtain ⟨c0, c1, c2, c3, rfl⟩ : ∃ c0 c1 c2 c3, cs = [c0, c1, c2, c3] := by
    match cs, hl with
    | [c0, c1, c2, c3], _ => exact ⟨_, _, _, _, rfl⟩
  obtain ⟨z0, hz0, _⟩ := hg 0 _ rfl
  obtain ⟨z1, hz1, _⟩ := hg 1 _ rfl
  obtain ⟨z2, hz2, _⟩ := hg 2 _ rfl
  obtain ⟨z3, hz3, f3⟩ := hg 3 _ rfl
  obtain ⟨i0, e0⟩ := int_read underlying3 (show TR enc W n2 3 [c0] z0 by simpa [sc3] using hz0)
  obtain ⟨i1, e1⟩ := int_read underlying3 (show TR enc W n2 3 [c1] z1 by simpa [sc3] using hz1)
  obtain ⟨i2, e2⟩ := int_read underlying3 (show TR enc W n2 3 [c2] z2 by simpa [sc3] using hz2)
  cases e0; cases e1; cases e2
  obtain ⟨v, l, ev, ov, _, hR, hv⟩ := slice_deep (Γ := Γ) (R := fun xs => ∃ y, ∀ m, StepR m xs y) underlying125 sc115 (by decide) sb115 (show TR enc W n2 125 [c3] z3 by simpa [sc125] using hz3) f3 hΓ fun n el y hn hy hfy hl => by
    obtain ⟨y, xs, h1, h2, h3, h4⟩ := step_read (Γ := Γ) hΓ hy hfy
    exact ⟨xs, ⟨y, h4⟩, h1, h2, h3⟩
  cases ev
  obtain ⟨ys, hlen, hys⟩ := steps_of l hR
  have h9 : ∀ x ∈ l, x.length = 9 := fun x hx => by
    obtain ⟨y, hy⟩ := hR x hx
    obtain ⟨p, rfl, _⟩ := hy Mem.nil
    rfl
  refine ⟨⟨i0, i1, i2, ys⟩, [.int .i64 i0, .int .i64 i1, .int .i64 i2, .imm l.flatten l.length], ?_, ?_, fun m => ⟨_, rfl, l, .imm l h9, hlen, fun i y hi => ?_⟩⟩
  · simp only [VRs, VR]
    refine ⟨_, _, rfl, rfl, _, _, rfl, rfl, _, _, rfl, rfl, _, _, rfl, ?_, rfl⟩
    simpa only [VR] using hv
  · intro c hc
    simp only [List.mem_cons, List.not_mem_nil, or_false] at hc
    rcases hc with rfl | rfl | rfl | rfl <;> first | rfl | exact ov
  · obtain ⟨cs, e1, e2⟩ := hys i y hi
    exact ⟨cs, e1, e2 m⟩
end
end Go.Proofs.Tryz
