/-
  A message that reads as data, as the abstract machine's values: deep, and as tags.
-/
import Derived.Test.YtdmaodpmfbgcaaaGreatRead
import Derived.Test.YtdmaodpmfbgcaaaGreatCNilRun
import Derived.OpenShut
set_option maxRecDepth 100000
namespace Go.Proofs.Tryz
open Go Go.V

section
variable {H : Type} {enc : TypeId × Value → H} {W : World} {Γ : Ctx}

theorem cells2 : prog.cellsOf 2 = 1 := by kernel_rfl
theorem cells3 : prog.cellsOf 3 = 1 := by kernel_rfl
theorem cells50 : prog.cellsOf 50 = 4 := by kernel_rfl
theorem cells44 : prog.cellsOf 44 = 3 := by kernel_rfl
theorem cells42 : prog.cellsOf 42 = 1 := by kernel_rfl
theorem cells45 : prog.cellsOf 45 = 1 := by kernel_rfl
theorem cells197 : prog.cellsOf 197 = 10 := by kernel_rfl
theorem cells298 : prog.cellsOf 298 = 3 := by kernel_rfl
theorem cells89 : prog.cellsOf 89 = 11 := by kernel_rfl
theorem bytes298 : 0 < prog.bytesOf 298 := of_decide_eq_true (by kernel_rfl)
theorem bytes197 : 0 < prog.bytesOf 197 := of_decide_eq_true (by kernel_rfl)

theorem vec_read {fuel : Nat} {cs : List Value} {x : DataW H × List MemPlace} (h : TR enc W fuel 50 cs x) : ∃ a b c d, cs = [.int .i64 a, .int .i64 b, .int .i64 c, .int .i64 d] := by
  obtain ⟨xs, m, rfl, _, hl, hx, hg⟩ := DataW.trod_array underlying50 h
  rw [cells50] at hl
  obtain ⟨c0, c1, c2, c3, rfl⟩ : ∃ c0 c1 c2 c3, cs = [c0, c1, c2, c3] := by
    match cs, hl with
    | [c0, c1, c2, c3], _ => exact ⟨_, _, _, _, rfl⟩
  have one : ∀ i, i < 4 → ∃ y, TR enc W m 2 (([c0, c1, c2, c3].drop (i * prog.cellsOf 2)).take (prog.cellsOf 2)) y := fun i hi => by
    have := hg i hi
    rw [List.getElem?_eq_getElem (by omega)] at this
    exact ⟨_, this⟩
  obtain ⟨y0, h0⟩ := one 0 (by decide)
  obtain ⟨y1, h1⟩ := one 1 (by decide)
  obtain ⟨y2, h2⟩ := one 2 (by decide)
  obtain ⟨y3, h3⟩ := one 3 (by decide)
  rw [cells2] at h0 h1 h2 h3
  obtain ⟨i0, e0⟩ := int_read underlying2 (show TR enc W m 2 [c0] y0 from h0)
  obtain ⟨i1, e1⟩ := int_read underlying2 (show TR enc W m 2 [c1] y1 from h1)
  obtain ⟨i2, e2⟩ := int_read underlying2 (show TR enc W m 2 [c2] y2 from h2)
  obtain ⟨i3, e3⟩ := int_read underlying2 (show TR enc W m 2 [c3] y3 from h3)
  cases e0; cases e1; cases e2; cases e3
  exact ⟨_, _, _, _, rfl⟩

theorem cau_read (hΓ : ∀ b o, Γ.ro b o = W.cell? ⟨b, o, none⟩) {fuel : Nat} {cs : List Value} {x : DataW H × List MemPlace} (h : TR enc W fuel 44 cs x) (hF : Fit 44 x.1) :
    ∃ e s k n kss c, cs = [e, s, k] ∧ e.oneCell' = true ∧ s.oneCell' = true ∧ k.oneCell' = true ∧ TreeR n kss ∧ VR Γ (.imm [] n) e ∧ VR Γ (.imm kss.flatten kss.length) s ∧ VR Γ (.imm [] c) k := by
  obtain ⟨n2, rfl, hl, hg⟩ := trod_field underlying44 h hF
  rw [cells44] at hl
  obtain ⟨e, s, k, rfl⟩ : ∃ e s k, cs = [e, s, k] := by
    match cs, hl with
    | [e, s, k], _ => exact ⟨e, s, k, rfl⟩
  obtain ⟨z0, hz0, f0⟩ := hg 0 _ rfl
  obtain ⟨z1, hz1, f1⟩ := hg 1 _ rfl
  have hz0' : TR enc W n2 40 [e, s] z0 := by simpa [cells40] using hz0
  have hz1' : TR enc W n2 42 [k] z1 := by simpa [cells42] using hz1
  obtain ⟨e', s', n, kss, h1, o1, o2, hT, r1, r2⟩ := tree_read hΓ n2 _ _ hz0' f0
  cases h1
  obtain ⟨k', c, h2, o3, _, r3⟩ := slice_len (Γ := Γ) underlying42 cells298 (by decide) bytes298 hz1' f1
  cases h2
  exact ⟨_, _, _, n, kss, c, rfl, o1, o2, o3, hT, r1, r2, r3⟩

theorem bun_read (hΓ : ∀ b o, Γ.ro b o = W.cell? ⟨b, o, none⟩) {fuel : Nat} {cs : List Value} {x : DataW H × List MemPlace} (h : TR enc W fuel 197 cs x) (hF : Fit 197 x.1) :
    ∃ xs, BunR xs ∧ xs.length = 10 ∧ VRs Γ xs cs ∧ ∀ c ∈ cs, c.oneCell' = true := by
  obtain ⟨n2, rfl, hl, hg⟩ := trod_field underlying197 h hF
  rw [cells197] at hl
  obtain ⟨c0, c1, c2, c3, c4, c5, c6, c7, c8, c9, rfl⟩ : ∃ c0 c1 c2 c3 c4 c5 c6 c7 c8 c9, cs = [c0, c1, c2, c3, c4, c5, c6, c7, c8, c9] := by
    match cs, hl with
    | [c0, c1, c2, c3, c4, c5, c6, c7, c8, c9], _ => exact ⟨_, _, _, _, _, _, _, _, _, _, rfl⟩
  obtain ⟨z0, hz0, f0⟩ := hg 0 _ rfl
  obtain ⟨z1, hz1, f1⟩ := hg 1 _ rfl
  obtain ⟨z2, hz2, f2⟩ := hg 2 _ rfl
  obtain ⟨z3, hz3, f3⟩ := hg 3 _ rfl
  obtain ⟨z4, hz4, f4⟩ := hg 4 _ rfl
  obtain ⟨i0, h0⟩ := int_read underlying3 (show TR enc W n2 3 [c0] z0 by simpa [cells3] using hz0)
  obtain ⟨i1, h1⟩ := int_read underlying2 (show TR enc W n2 2 [c1] z1 by simpa [cells2] using hz1)
  obtain ⟨i2, h2⟩ := int_read underlying2 (show TR enc W n2 2 [c2] z2 by simpa [cells2] using hz2)
  obtain ⟨a, b, c, d, h3⟩ := vec_read (show TR enc W n2 50 [c3, c4, c5, c6] z3 by simpa [cells50] using hz3)
  obtain ⟨e, s, k, n, kss, c', h4, o1, o2, o3, hT, r1, r2, r3⟩ := cau_read hΓ (show TR enc W n2 44 [c7, c8, c9] z4 by simpa [cells44] using hz4) f4
  cases h0; cases h1; cases h2; cases h3; cases h4
  refine ⟨_, ⟨n, kss, c', hT, rfl⟩, rfl, ?_, ?_⟩
  · simp only [VRs]
    exact ⟨_, _, rfl, by simp only [VR], _, _, rfl, by simp only [VR], _, _, rfl, by simp only [VR], _, _, rfl, by simp only [VR], _, _, rfl, by simp only [VR], _, _, rfl, by simp only [VR], _, _, rfl, by simp only [VR], _, _, rfl, r1, _, _, rfl, r2, _, _, rfl, r3, rfl⟩
  · intro c hc
    simp only [List.mem_cons, List.not_mem_nil, or_false] at hc
    rcases hc with rfl | rfl | rfl | rfl | rfl | rfl | rfl | rfl | rfl | rfl <;> first | rfl | assumption

/-- The context of CenterNil's run: the first world is only read; the tags: the arguments' cells, and (from 100 on) the bundles' cells. -/
def ctxM (W : World) (cs : List Value) (b o : Nat) : Ctx := Ctx.still (fun b o => W.cell? ⟨b, o, none⟩) (fun k => if k < 100 then cs.getD k undef else (W.cell? ⟨b, o + (k - 100), none⟩).getD undef)

theorem ctags_get : ∀ (n k i : Nat), i < n → (ctags k n)[i]? = some (.opq (k + i))
  | 0, _, _, h => by omega
  | n + 1, k, 0, _ => rfl
  | n + 1, k, i + 1, h => by
    rw [ctags, List.getElem?_cons_succ, ctags_get n (k + 1) i (by omega), show k + 1 + i = k + (i + 1) by omega]
theorem ctags_len : ∀ (n k : Nat), (ctags k n).length = n
  | 0, _ => rfl
  | n + 1, k => by rw [ctags, List.length_cons, ctags_len n]

/-- What a message in memory gives. -/
theorem msg_read {fuel : Nat} {cs : List Value} {x : DataW H × List MemPlace} (h : TR enc W fuel 89 cs x) (hF : Fit 89 x.1) :
    ∃ (b o : Nat), cs.length = 11 ∧ (∀ c ∈ cs, c.oneCell' = true) ∧
      ∀ Γ : Ctx, (∀ b o, Γ.ro b o = W.cell? ⟨b, o, none⟩) → (∀ i, i < 11 → Γ.inp (4 + i) = cs.getD i undef) → (∀ q, Γ.inp (100 + q) = (W.cell? ⟨b, o + q, none⟩).getD undef) →
        ∃ (bss : List (List AVal)) (n : Nat) (kss : List (List AVal)) (c : Nat), (∀ x ∈ bss, BunR x) ∧ TreeR n kss ∧ VRs Γ (msgC bss n kss c) cs ∧ VRs Γ (msgTags bss.length) cs := by
  obtain ⟨n2, rfl, hl, hg⟩ := trod_field underlying89 h hF
  rw [cells89] at hl
  obtain ⟨c0, c1, c2, c3, c4, c5, c6, c7, c8, c9, c10, rfl⟩ : ∃ c0 c1 c2 c3 c4 c5 c6 c7 c8 c9 c10, cs = [c0, c1, c2, c3, c4, c5, c6, c7, c8, c9, c10] := by
    match cs, hl with
    | [c0, c1, c2, c3, c4, c5, c6, c7, c8, c9, c10], _ => exact ⟨_, _, _, _, _, _, _, _, _, _, _, rfl⟩
  obtain ⟨z0, hz0, f0⟩ := hg 0 _ rfl
  obtain ⟨z1, hz1, f1⟩ := hg 1 _ rfl
  obtain ⟨z2, hz2, f2⟩ := hg 2 _ rfl
  obtain ⟨z3, hz3, f3⟩ := hg 3 _ rfl
  obtain ⟨z4, hz4, f4⟩ := hg 4 _ rfl
  obtain ⟨z5, hz5, f5⟩ := hg 5 _ rfl
  obtain ⟨i0, h0⟩ := int_read underlying3 (show TR enc W n2 3 [c0] z0 by simpa [cells3] using hz0)
  obtain ⟨i1, h1⟩ := int_read underlying3 (show TR enc W n2 3 [c1] z1 by simpa [cells3] using hz1)
  obtain ⟨i2, h2⟩ := int_read underlying3 (show TR enc W n2 3 [c2] z2 by simpa [cells3] using hz2)
  obtain ⟨a, b', c', d, h3⟩ := vec_read (show TR enc W n2 50 [c3, c4, c5, c6] z3 by simpa [cells50] using hz3)
  have hs : TR enc W n2 45 [c7] z4 := by simpa [cells45] using hz4
  have hc : TR enc W n2 44 [c8, c9, c10] z5 := by simpa [cells44] using hz5
  obtain ⟨v, len, n3, el, b, o, e7, o7, _, _, hel, ad, cp, rfl, hcp, had⟩ := slice_read underlying45 cells197 (by decide) bytes197 hs f4
  obtain ⟨_, _, _, _, _, _, h4, o1, o2, o3, _⟩ := cau_read (Γ := Ctx.still (fun b o => W.cell? ⟨b, o, none⟩) (fun _ => undef)) (fun _ _ => rfl) hc f5
  cases h0; cases h1; cases h2; cases h3; cases e7; cases h4
  have hone : ∀ c ∈ [Value.int .i64 i0, .int .i64 i1, .int .i64 i2, .int .i64 a, .int .i64 b', .int .i64 c', .int .i64 d, .slice ad len cp, c8, c9, c10], c.oneCell' = true := by
    intro c hc
    simp only [List.mem_cons, List.not_mem_nil, or_false] at hc
    rcases hc with rfl | rfl | rfl | rfl | rfl | rfl | rfl | rfl | rfl | rfl | rfl <;> first | rfl | assumption
  refine ⟨b, o, rfl, hone, fun Γ hΓ hin hbn => ?_⟩
  obtain ⟨v', bss, e7', _, _, hb, r7⟩ := slice_deep (Γ := Γ) (R := BunR) underlying45 cells197 (by decide) bytes197 hs f4 hΓ fun n el y _ hy hf hl => bun_read hΓ hy hf
  cases e7'
  obtain ⟨e, s, k, n, kss, c, h4, _, _, _, hT, r8, r9, r10⟩ := cau_read (Γ := Γ) hΓ hc f5
  cases h4
  have hlen : bss.length = len := by
    simp only [VR] at r7
    obtain ⟨_, _, h, _⟩ := r7
    injection h with _ h _
    exact h.symm
  refine ⟨bss, n, kss, c, hb, hT, ?_, ?_⟩
  · simp only [VRs]
    exact ⟨_, _, rfl, by simp only [VR], _, _, rfl, by simp only [VR], _, _, rfl, by simp only [VR], _, _, rfl, by simp only [VR], _, _, rfl, by simp only [VR], _, _, rfl, by simp only [VR], _, _, rfl, by simp only [VR], _, _, rfl, r7, _, _, rfl, r8, _, _, rfl, r9, _, _, rfl, r10, rfl⟩
  · have tag : ∀ (i : Nat) (v : Value), i < 11 → ([Value.int .i64 i0, .int .i64 i1, .int .i64 i2, .int .i64 a, .int .i64 b', .int .i64 c', .int .i64 d, .slice ad len cp, c8, c9, c10])[i]? = some v → VR Γ (.opq (4 + i)) v := by
      intro i v hi hv
      simp only [VR]
      refine ⟨?_, hone v (List.mem_of_getElem? hv)⟩
      rw [hin i hi, List.getD_eq_getElem?_getD, hv]; rfl
    have imm : VR Γ (.imm (ctags 100 (bss.length * 10)) bss.length) (.slice ad len cp) := by
      simp only [VR]
      refine ⟨ad, cp, by rw [hlen], by omega, fun hne => ?_⟩
      have h0 : 0 < len := by
        rcases Nat.eq_zero_or_pos len with h | h
        · rw [hlen, h] at hne; exact absurd rfl hne
        · exact h
      refine ⟨⟨b, o, none⟩, had h0, rfl, roRel_of _ _ _ fun q x hx => ?_⟩
      have hq : q < len * 10 := by
        have := (List.getElem?_eq_some_iff.1 hx).1
        rw [ctags_len, hlen] at this; exact this
      rw [ctags_get _ _ _ (by rw [hlen]; exact hq)] at hx
      cases hx
      obtain ⟨l1, ⟨y, hy, hf⟩, l3⟩ := hel (q / 10) (by omega)
      have hcell := l3 (q % 10) (by omega)
      rw [show o + q / 10 * 10 + q % 10 = o + q by omega, List.getElem?_eq_getElem (by omega)] at hcell
      obtain ⟨xs, _, _, _, hone'⟩ := bun_read (Γ := Γ) hΓ hy hf
      refine ⟨_, by rw [hΓ]; exact hcell, ?_, hone' _ (List.getElem_mem _)⟩
      simp only [VR]
      exact ⟨by rw [hbn, hcell]; rfl, hone' _ (List.getElem_mem _)⟩
    simp only [msgTags, ctags, List.cons_append, List.nil_append, VRs]
    exact ⟨_, _, rfl, tag 0 _ (by decide) rfl, _, _, rfl, tag 1 _ (by decide) rfl, _, _, rfl, tag 2 _ (by decide) rfl, _, _, rfl, tag 3 _ (by decide) rfl, _, _, rfl, tag 4 _ (by decide) rfl, _, _, rfl, tag 5 _ (by decide) rfl, _, _, rfl, tag 6 _ (by decide) rfl, _, _, rfl, imm, _, _, rfl, tag 8 _ (by decide) rfl, _, _, rfl, tag 9 _ (by decide) rfl, _, _, rfl, tag 10 _ (by decide) rfl, rfl⟩
end
end Go.Proofs.Tryz
