/-
  Slices, composites, lengths.
-/
import Derived.Test.YtdmaodpmfbgcaaaGreatVLight
namespace Go.V
section
variable {E : Env} {w : World} {Γ : Ctx} {m : Mem} {ρ : Operand → AVal} {σ : Operand → Value}

/-- A bound of a slice expression, and its value. -/
def BRel (x : Option Nat) (v : Option Value) : Prop :=
  match x with
  | none => v = none
  | some n => ∃ k, v = some (.int k n)

theorem optNat_ok {x : Option Operand} {r : Option Nat} (hρ : ∀ x, VR Γ (ρ x) (σ x)) (h : optNat ρ x = some r) : BRel r (x.map σ) := by
  cases x with
  | none => simp [optNat] at h; subst h; rfl
  | some x =>
    simp only [optNat, Option.map_eq_some_iff] at h
    obtain ⟨n, hn, rfl⟩ := h
    obtain ⟨k, hk⟩ := natOf_ok hn (hρ x)
    exact ⟨k, by simp [hk]⟩

theorem run_sliceBound {P : Program} (k : IntKind) (n y : Nat) (code : BoundsCode) (h : n ≤ y) : (Instr.sliceBound (.int k n) y code).run P w = .ok n w := by
  simp [Instr.sliceBound, asIntOf, h]

theorem run_sliceBounds {P : Program} {b : Bool} {len cap : Nat} {lo hi mx : Option Nat} {vl vh vm : Option Value} (h1 : BRel lo vl) (h2 : BRel hi vh) (h3 : BRel mx vm)
    (hh : mx.isSome = true → hi.isSome = true) (a : lo.getD 0 ≤ hi.getD len) (c : hi.getD len ≤ mx.getD cap) (e : mx.getD cap ≤ cap) :
    (Instr.sliceBounds b len cap vl vh vm).run P w = .ok (lo.getD 0, hi.getD len, mx.getD cap) w := by
  cases mx with
  | none =>
    simp only [BRel] at h3; subst h3
    cases hi with
    | none =>
      simp only [BRel] at h2; subst h2
      cases lo with
      | none => simp only [BRel] at h1; subst h1; simp [Instr.sliceBounds]
      | some l =>
        obtain ⟨k, rfl⟩ := h1
        simp at a
        simp [Instr.sliceBounds, run_sliceBound _ _ _ _ a]
    | some hv =>
      obtain ⟨k2, rfl⟩ := h2
      simp at a c
      cases lo with
      | none => simp only [BRel] at h1; subst h1; simp [Instr.sliceBounds, run_sliceBound _ _ _ _ c]
      | some l =>
        obtain ⟨k, rfl⟩ := h1
        simp at a
        simp [Instr.sliceBounds, run_sliceBound _ _ _ _ a, run_sliceBound _ _ _ _ c]
  | some mv =>
    obtain ⟨k3, rfl⟩ := h3
    simp at e
    cases hi with
    | none => simp at hh
    | some hv =>
      obtain ⟨k2, rfl⟩ := h2
      simp at a c
      cases lo with
      | none => simp only [BRel] at h1; subst h1; simp [Instr.sliceBounds, run_sliceBound _ _ _ _ c, run_sliceBound _ _ _ _ e]
      | some l =>
        obtain ⟨k, rfl⟩ := h1
        simp at a
        simp [Instr.sliceBounds, run_sliceBound _ _ _ _ a, run_sliceBound _ _ _ _ c, run_sliceBound _ _ _ _ e]

theorem sliceAt_slice {P : Program} {t e : TypeId} {size : Nat} (hu : P.underlying t = some (.slice e)) (hs : (sizeOf e).run P w = .ok size w) {a : Option Addr} {len cap l h m : Nat} {vl vh vm : Option Value}
    (hb : (Instr.sliceBounds true len cap vl vh vm).run P w = .ok (l, h, m) w) :
    (Instr.sliceAt t (.slice a len cap) vl vh vm).run P w = .ok (.slice (if m = l then a else a.map (·.add (l * size))) (h - l) (m - l)) w := by
  simp [Instr.sliceAt, run_underlying hu, Instr.slice, hb, hs]

theorem sliceOp_ok (hT : TysOk E) {t : TypeId} {x r : AVal} {lo hi mx : Option Nat} {v : Value} {vl vh vm : Option Value} (h : sliceOp E t x lo hi mx = some r) (hv : VR Γ x v)
    (h1 : BRel lo vl) (h2 : BRel hi vh) (h3 : BRel mx vm) : ∃ u, (Instr.sliceAt t v vl vh vm).run E.P w = .ok u w ∧ VR Γ r u := by
  unfold sliceOp at h
  simp only [] at h
  split at h
  · rename_i _ _ _ _ hg
    obtain ⟨ti, d, z, ok⟩ := hT _ _ hg
    have hd := vdOf_str ok.d.symm
    subst hd
    split at h
    · rename_i s
      simp only [nble, cond_eq_ite, Bool.and_eq_true, decide_eq_true_eq] at h
      split at h
      · rename_i hc
        simp only [Option.some.injEq] at h
        subst h
        simp only [VR] at hv
        subst hv
        simp only [BRel] at h3
        subst h3
        have hb := run_sliceBounds (P := E.P) (w := w) (b := false) (len := s.size) (cap := s.size) h1 h2 (mx := none) (vm := none) rfl (by simp) hc.1 (by simpa using hc.2) (by simp)
        exact ⟨_, by simp [Instr.sliceAt, ok.run_und, Instr.slice, hb] <;> rfl, by simp [VR]⟩
      · cases h
    · cases h
  · rename_i e _ _ _ _ hg
    obtain ⟨ti, d, z, ok⟩ := hT _ _ hg
    have hd := vdOf_slice ok.d.symm
    subst hd
    split at h
    · rename_i ve hve
      obtain ⟨ei, ed, ez, oke⟩ := hT _ _ hve
      split at h
      · -- an immutable one
        rename_i cells n
        simp only [cutImm, nble, nbeq, cond_eq_ite, Bool.and_eq_true, decide_eq_true_eq] at h
        split at h
        · cases h
        · rename_i hmh
          split at h
          · rename_i hc
            obtain ⟨⟨⟨c1, c2⟩, c3⟩, c4⟩ := hc
            simp only [VR] at hv
            obtain ⟨a, c, rfl, hnc, hne⟩ := hv
            have hb := run_sliceBounds (P := E.P) (w := w) (b := true) (len := n) (cap := c) h1 h2 h3 (fun e1 => by cases hi <;> simp_all) c1 (by cases mx <;> simp at c2 c3 ⊢ <;> omega) (by cases mx <;> simp at c3 ⊢; omega)
            refine ⟨_, sliceAt_slice ok.und oke.run_size hb, ?_⟩
            split at h
            · rename_i hz
              split at h
              · rename_i hz2
                simp only [Option.some.injEq] at h
                subst h
                obtain ⟨hms, hz3⟩ := hz2
                cases mx with
                | none => simp at hms
                | some mv =>
                  simp at c2 c3 hz3 ⊢
                  have e1 : mv - lo.getD 0 = 0 := by omega
                  have e2 : hi.getD n - lo.getD 0 = 0 := hz
                  rw [e1, e2]
                  simp only [VR]
                  exact ⟨_, rfl, by simp⟩
              · simp only [Option.some.injEq] at h
                subst h
                rw [hz]
                simp only [VR]
                exact ⟨_, _, rfl, Nat.zero_le _, fun e => absurd rfl e⟩
            · rename_i hz
              simp only [Option.some.injEq] at h
              subst h
              have hml : mx.getD c ≠ lo.getD 0 := by cases mx <;> simp at c2 c3 ⊢ <;> omega
              rw [if_neg hml]
              simp only [VR]
              refine ⟨_, _, rfl, ?_, fun hnz => ?_⟩
              · have : hi.getD n ≤ mx.getD c := by cases mx <;> simp at c2 c3 ⊢ <;> omega
                omega
              · have hcne : cells ≠ [] := by intro e0; subst e0; simp at hnz
                obtain ⟨ad, rfl, hs, hr⟩ := hne hcne
                obtain ⟨ab, ao, as⟩ := ad
                simp only at hs
                subst hs
                exact ⟨_, rfl, by show ((⟨ab, ao, none⟩ : Addr).add _).spot = none; rw [Addr_add], by show roRel Γ _ ((⟨ab, ao, none⟩ : Addr).add _).block ((⟨ab, ao, none⟩ : Addr).add _).off; rw [Addr_add]; exact roRel_take _ (roRel_drop _ hr)⟩
          · cases h
      · -- a mutable one
        rename_i b ext off n lb exact sz
        simp only [cut, nble, nbeq, cond_eq_ite, Bool.and_eq_true, decide_eq_true_eq] at h
        split at h
        case isFalse => cases h
        rename_i hsz
        subst hsz
        split at h
        · cases h
        · rename_i hmh
          split at h
          · rename_i hc
            obtain ⟨⟨c1, c2⟩, c3⟩ := hc
            simp only [VR] at hv
            obtain ⟨a, c, rfl, hnl, hlc, hex, hbn, hk⟩ := hv
            have c2' : hi.getD n ≤ mx.getD c := by cases mx <;> simp at c2 c3 ⊢ <;> omega
            have c3' : mx.getD c ≤ c := by cases mx <;> simp at c3 ⊢; omega
            have hb := run_sliceBounds (P := E.P) (w := w) (b := true) (len := n) (cap := c) h1 h2 h3 (fun e1 => by cases hi <;> simp_all) c1 c2' c3'
            refine ⟨_, sliceAt_slice ok.und oke.run_size hb, ?_⟩
            split at h
            · rename_i hz
              have hh0 : hi.getD n - lo.getD 0 = 0 := by omega
              rw [hh0]
              split at h
              · rename_i hz2
                simp only [Option.some.injEq] at h
                subst h
                have hm0 : mx.getD c - lo.getD 0 = 0 := by
                  cases mx with
                  | none => simp at hz2 hz ⊢; have := hex hz2; omega
                  | some mv => simpa using hz
                rw [hm0]
                simp only [VR]
                exact ⟨_, rfl, by simp⟩
              · simp only [Option.some.injEq] at h
                subst h
                simp only [VR]
                exact ⟨_, _, rfl, Nat.zero_le _, fun e => absurd rfl e⟩
            · rename_i hz
              simp only [Option.some.injEq] at h
              subst h
              have hmle : mx.getD lb ≤ mx.getD c := by cases mx <;> simp; omega
              have hml : mx.getD c ≠ lo.getD 0 := by omega
              rw [if_neg hml]
              simp only [VR, Option.map_some]
              refine ⟨_, _, rfl, by omega, by omega, fun he => ?_, hbn, fun i hi' => ?_⟩
              · cases mx with
                | none => simp at he ⊢; have := hex he; omega
                | some mv => simp
              · obtain ⟨k1, k2⟩ := hk i hi'
                refine ⟨k1, fun e => ?_⟩
                obtain ⟨k3, k4⟩ := k2 e
                refine ⟨by rw [k3, Addr_add], ?_⟩
                have e1 : (mx.getD c - lo.getD 0) * ve.size ≤ (c - lo.getD 0) * ve.size := Nat.mul_le_mul_right _ (by omega)
                have e2 : lo.getD 0 * ve.size + (c - lo.getD 0) * ve.size = c * ve.size := by rw [← Nat.add_mul]; congr 1; omega
                omega
          · cases h
      · -- nil
        rename_i hni hnr
        unfold cut at h
        simp only [nble, nbeq, cond_eq_ite, Bool.and_eq_true, decide_eq_true_eq] at h
        split at h
        · cases h
        · rename_i hmh
          split at h
          · rename_i s
            split at h
            · rename_i hc
              obtain ⟨⟨c1, c2⟩, c3⟩ := hc
              simp only [Option.some.injEq] at h
              subst h
              simp only [VR] at hv
              obtain ⟨a, rfl, ha⟩ := hv
              have hb := run_sliceBounds (P := E.P) (w := w) (b := true) (len := 0) (cap := 0) h1 h2 h3 (fun e1 => by cases hi <;> simp_all) (by omega) (by omega) (by omega)
              refine ⟨_, sliceAt_slice ok.und oke.run_size hb, ?_⟩
              rw [c1, c2, c3]
              simp only [VR, if_true]
              exact ⟨_, rfl, ha⟩
            · cases h
          · exact absurd rfl (hnr _ _ _ _ _ _ _)
          · cases h
    · cases h
  · cases h

theorem lenOf_ok (hT : TysOk E) {t : TypeId} {x : AVal} {n : Nat} {v : Value} {ty : TypeId} (h : lenOf E t x = some n) (hv : VR Γ x v) : (Builtin.len_ #[t] ty #[v]).run E.P w = .ok (.int .i64 n) w := by
  unfold lenOf at h
  split at h
  · rename_i _ _ _ _ hg
    obtain ⟨ti, d, z, ok⟩ := hT _ _ hg
    have hd := vdOf_str ok.d.symm
    subst hd
    split at h
    · simp only [Option.some.injEq] at h
      subst h
      simp only [VR] at hv
      subst hv
      simp [Builtin.len_, ok.run_und, goInt]
    · cases h
  · rename_i e _ _ _ _ hg
    obtain ⟨ti, d, z, ok⟩ := hT _ _ hg
    have hd := vdOf_slice ok.d.symm
    subst hd
    obtain ⟨a, c, rfl, _⟩ := sliceLen_ok h hv
    simp [Builtin.len_, ok.run_und, goInt]
  · rename_i k e _ _ _ _ hg
    obtain ⟨ti, d, z, ok⟩ := hT _ _ hg
    have hd := vdOf_array ok.d.symm
    subst hd
    simp only [Option.some.injEq] at h
    subst h
    simp [Builtin.len_, ok.run_und, goInt]
  · rename_i e _ _ _ _ hg
    obtain ⟨ti, d, z, ok⟩ := hT _ _ hg
    have hd := vdOf_pointer ok.d.symm
    subst hd
    split at h
    · rename_i k e2 _ _ _ _ hg2
      obtain ⟨ti2, d2, z2, ok2⟩ := hT _ _ hg2
      have hd2 := vdOf_array ok2.d.symm
      subst hd2
      simp only [Option.some.injEq] at h
      subst h
      simp [Builtin.len_, ok.run_und, ok2.run_und, goInt]
    · cases h
  · cases h

theorem capOf_ok (hT : TysOk E) {t : TypeId} {x : AVal} {n : Nat} {v : Value} {ty : TypeId} (h : capOf E t x = some n) (hv : VR Γ x v) : (Builtin.cap_ #[t] ty #[v]).run E.P w = .ok (.int .i64 n) w := by
  unfold capOf at h
  split at h
  · rename_i e _ _ _ _ hg
    obtain ⟨ti, d, z, ok⟩ := hT _ _ hg
    have hd := vdOf_slice ok.d.symm
    subst hd
    split at h <;> simp only [Option.some.injEq, reduceCtorEq] at h
    · subst h
      simp only [VR] at hv
      obtain ⟨a, rfl, _⟩ := hv
      simp [Builtin.cap_, ok.run_und, goInt]
    · subst h
      simp only [VR] at hv
      obtain ⟨a, c, rfl, _, _, hc, _⟩ := hv
      have := hc trivial
      subst this
      simp [Builtin.cap_, ok.run_und, goInt]
  · cases h

theorem foldInt_go_ok (f : Int → Int → Int) (g : Value → Value → Sem Value) (hg : ∀ k x l y, g (.int k x) (.int l y) = pure (.int k (f x y))) (k : IntKind) :
    ∀ (as : List AVal) (vs : List Value) (x : Int) (r : AVal), foldInt.go f k x as = some r → VRs Γ as vs → ∃ u, (vs.foldlM g (.int k x)).run E.P w = .ok u w ∧ VR Γ r u
  | [], vs, x, r, h, hv => by
    simp only [foldInt.go, Option.some.injEq] at h
    subst h
    simp only [VRs] at hv
    subst hv
    exact ⟨_, by simp <;> rfl, by simp [VR]⟩
  | a :: as, l, x, r, h, hv => by
    simp only [VRs] at hv
    obtain ⟨v, vs, rfl, h1, h2⟩ := hv
    cases a <;> simp only [foldInt.go, reduceCtorEq] at h
    rename_i k' y
    simp only [VR] at h1
    subst h1
    obtain ⟨u, hu, hr⟩ := foldInt_go_ok f g hg k as vs (f x y) r h h2
    exact ⟨u, by simp [hg, hu], hr⟩

theorem foldInt_ok (f : Int → Int → Int) (g : Value → Value → Sem Value) (hg : ∀ k x l y, g (.int k x) (.int l y) = pure (.int k (f x y))) {as : List AVal} {vs : List Value} {r : AVal}
    (h : foldInt f as = some r) (hv : VRs Γ as vs) : ∃ v0 rest, vs = v0 :: rest ∧ ∃ u, (rest.foldlM g v0).run E.P w = .ok u w ∧ VR Γ r u := by
  unfold foldInt at h
  split at h
  · rename_i k x rest
    simp only [VRs] at hv
    obtain ⟨v, vs, rfl, h1, h2⟩ := hv
    simp only [VR] at h1
    subst h1
    exact ⟨_, _, rfl, foldInt_go_ok f g hg k rest vs x r h h2⟩
  · cases h

theorem VRs_map (l : List Operand) (hρ : ∀ x, VR Γ (ρ x) (σ x)) : VRs Γ (l.map ρ) (l.map σ) := by
  induction l with
  | nil => simp [VRs]
  | cons x l ih => simp only [List.map_cons, VRs]; exact ⟨_, _, rfl, hρ x, ih⟩

/-! ### Composites -/
theorem VRs.lput {Γ : Ctx} : ∀ {as : List AVal} {us : List Value} {off : Nat} {bs : List AVal} {vs : List Value}, VRs Γ as us → VRs Γ bs vs → VRs Γ (lput as off bs) (lput us off vs)
  | as, us, off, [], vs, h, k => by simp only [VRs] at k; subst k; cases as <;> cases us <;> simpa [V.lput] using h
  | [], us, off, b :: bs, l, h, k => by
    simp only [VRs] at h k
    obtain ⟨v, vs, rfl, _⟩ := k
    subst h
    simp [V.lput, VRs]
  | a :: as, l, 0, b :: bs, l', h, k => by
    simp only [VRs] at h k
    obtain ⟨u, us, rfl, h1, h2⟩ := h
    obtain ⟨v, vs, rfl, k1, k2⟩ := k
    simp only [V.lput, VRs]
    exact ⟨v, _, rfl, k1, VRs.lput h2 k2⟩
  | a :: as, l, n + 1, b :: bs, l', h, k => by
    simp only [VRs] at h
    obtain ⟨u, us, rfl, h1, h2⟩ := h
    have k' := k
    simp only [VRs] at k
    obtain ⟨v, vs, rfl, k1, k2⟩ := k
    simp only [V.lput, VRs]
    exact ⟨u, _, rfl, h1, VRs.lput h2 k'⟩

theorem lput_length {α : Type} : ∀ (as : List α) (off : Nat) (bs : List α), (lput as off bs).length = as.length
  | as, off, [] => by cases as <;> simp [lput]
  | [], off, b :: bs => by simp [lput]
  | a :: as, 0, b :: bs => by simp [lput, lput_length as 0 bs]
  | a :: as, n + 1, b :: bs => by simp [lput, lput_length as n (b :: bs)]

theorem mem_lput {α : Type} {x : α} : ∀ {as : List α} {off : Nat} {bs : List α}, x ∈ lput as off bs → x ∈ as ∨ x ∈ bs
  | as, off, [], h => by cases as <;> simp [lput] at h ⊢; exact h
  | [], off, b :: bs, h => by simp [lput] at h
  | a :: as, 0, b :: bs, h => by
    simp only [lput, List.mem_cons] at h
    rcases h with rfl | h
    · simp
    · rcases mem_lput h with h | h <;> simp [h]
  | a :: as, n + 1, b :: bs, h => by
    simp only [lput, List.mem_cons] at h
    rcases h with rfl | h
    · simp
    · rcases mem_lput h with h | h
      · simp [h]
      · right; exact h

theorem lput_get {α : Type} : ∀ (as : List α) (off : Nat) (bs : List α) (i : Nat), off + bs.length ≤ as.length → (lput as off bs)[i]? = if off ≤ i ∧ i < off + bs.length then bs[i - off]? else as[i]?
  | as, off, [], i, _ => by
    have : ¬ (off ≤ i ∧ i < off + ([] : List α).length) := by simp
    rw [if_neg this]; cases as <;> simp [lput]
  | [], off, b :: bs, i, h => by simp at h
  | a :: as, 0, b :: bs, i, h => by
    cases i with
    | zero => simp [lput]
    | succ i =>
      have := lput_get as 0 bs i (by simp at h ⊢; omega)
      simp only [lput, List.getElem?_cons_succ, this]
      by_cases hc : i < bs.length
      · rw [if_pos (by omega), if_pos (by simp; omega)]; simp
      · rw [if_neg (by omega), if_neg (by simp; omega)]
  | a :: as, n + 1, b :: bs, i, h => by
    cases i with
    | zero => simp [lput]
    | succ i =>
      have := lput_get as n (b :: bs) i (by simp at h ⊢; omega)
      simp only [lput, List.getElem?_cons_succ, this]
      by_cases hc : n ≤ i ∧ i < n + (b :: bs).length
      · rw [if_pos hc, if_pos (by omega)]; congr 1; omega
      · rw [if_neg hc, if_neg (by omega)]

/-- The model's way to lay cells is 'lput'. -/
theorem foldl_set (vs : List Value) : ∀ (k off : Nat) (cells : Array Value), off + k + vs.length ≤ cells.size →
    ((vs.zipIdx k).foldl (fun cs (x : Value × Nat) => cs.setIfInBounds (off + x.2) x.1) cells).toList = lput cells.toList (off + k) vs := by
  induction vs with
  | nil => intro k off cells _; cases hc : cells.toList <;> simp [lput, hc]
  | cons v vs ih =>
    intro k off cells h
    simp only [List.length_cons] at h
    simp only [List.zipIdx_cons, List.foldl_cons]
    rw [ih (k + 1) off _ (by simp; omega)]
    apply List.ext_getElem?
    intro i
    rw [lput_get _ _ _ _ (by simp; omega), lput_get _ _ _ _ (by simp; omega)]
    simp only [Array.toList_setIfInBounds, List.length_cons, List.getElem?_set]
    by_cases h1 : off + (k + 1) ≤ i ∧ i < off + (k + 1) + vs.length
    · rw [if_pos h1, if_pos (by omega)]
      rw [show i - (off + k) = (i - (off + (k + 1))) + 1 by omega, List.getElem?_cons_succ]
    · rw [if_neg h1]
      by_cases h2 : off + k = i
      · rw [if_pos h2, if_pos (by simp; omega), if_pos (by omega)]
        subst h2
        simp
      · rw [if_neg h2, if_neg (by omega)]

theorem fillA_ok (placeA place : Nat → Option (Nat × Nat)) (hp : ∀ i q, placeA i = some q → place i = some q) : ∀ (ps : List (Nat × AVal)) (qs : List (Nat × Value)) (cellsA r : List AVal) (cells : Array Value),
    fillA placeA cellsA ps = some r → ps.length = qs.length → (∀ (j : Nat) i a, ps[j]? = some (i, a) → ∃ v, qs[j]? = some (i, v) ∧ VR Γ a v) → VRs Γ cellsA cells.toList → (∀ u ∈ cells.toList, u.oneCell' = true) →
    ∃ r', Instr.fill place cells qs = some r' ∧ VRs Γ r r'.toList ∧ ∀ u ∈ r'.toList, u.oneCell' = true
  | [], qs, cellsA, r, cells, h, hl, _, hr, h1 => by
    simp only [fillA, Option.some.injEq] at h
    subst h
    have : qs = [] := List.eq_nil_of_length_eq_zero (by simpa using hl.symm)
    subst this
    exact ⟨cells, rfl, hr, h1⟩
  | (i, a) :: ps, qs, cellsA, r, cells, h, hl, hrel, hr, h1 => by
    cases qs with
    | nil => simp at hl
    | cons q qs =>
      obtain ⟨v, hq, hv⟩ := hrel 0 i a rfl
      simp at hq
      subst hq
      simp only [fillA] at h
      split at h
      · rename_i off size cs hpl hcs
        simp only [nbeq, nble, cond_eq_ite, Bool.and_eq_true, decide_eq_true_eq] at h
        split at h
        · rename_i hc
          obtain ⟨hc1, hc2⟩ := hc
          obtain ⟨hvr, hv1⟩ := cells_ok hcs hv
          have hlen := hvr.length
          have hlen2 := hr.length
          have hlc : v.cells.size = size := by simp at hlen; omega
          have hlf := foldl_set v.cells.toList 0 off cells (by simp at hlen2 ⊢; omega)
          simp only [Nat.add_zero] at hlf
          simp only [Instr.fill, hp _ _ hpl]
          rw [if_neg (by simp [hlc]; simp at hlen2; omega)]
          have hz : (Array.foldl (fun cs (x : Value × Nat) => match x with | (c, j) => cs.setIfInBounds (off + j) c) cells v.cells.zipIdx) =
              ((v.cells.toList.zipIdx 0).foldl (fun cs (x : Value × Nat) => cs.setIfInBounds (off + x.2) x.1) cells) := by
            rw [← Array.foldl_toList]
            simp [Array.toList_zipIdx]
          rw [hz]
          refine fillA_ok placeA place hp ps qs _ r _ h (by simpa using hl) (fun j i a hj => by have := hrel (j + 1) i a (by simpa using hj); simpa using this) ?_ ?_
          · rw [hlf]; exact hr.lput hvr
          · rw [hlf]
            intro u hu
            rcases mem_lput hu with hu | hu
            · exact h1 u hu
            · exact hv1 u hu
        · cases h
      · cases h

theorem run_mapM_list {α β : Type} {P : Program} (f : α → Sem β) (g : α → β) : ∀ (l : List α), (∀ x ∈ l, (f x).run P w = .ok (g x) w) → (l.mapM f).run P w = .ok (l.map g) w
  | [], _ => by simp
  | x :: l, h => by
    have ih := run_mapM_list f g l (fun y hy => h y (List.mem_cons_of_mem _ hy))
    simp [List.mapM_cons, h x (List.mem_cons_self ..), ih]

theorem run_mapM_array {α β : Type} {P : Program} (f : α → Sem β) (g : α → β) (a : Array α) (h : ∀ x ∈ a.toList, (f x).run P w = .ok (g x) w) : (a.mapM f).run P w = .ok (a.map g) w := by
  rw [Array.mapM_eq_mapM_toList]
  simp [run_mapM_list f g a.toList h, ← Array.toList_map]

theorem parts_rel (ps : Array (Nat × Operand)) (hρ : ∀ x, VR Γ (ρ x) (σ x)) (j i : Nat) (a : AVal) (h : ((ps.toList.map fun (i, x) => (i, ρ x)))[j]? = some (i, a)) :
    ∃ v, ((ps.map fun (i, x) => (i, σ x)).toList)[j]? = some (i, v) ∧ VR Γ a v := by
  simp only [List.getElem?_map, Option.map_eq_some_iff, Prod.mk.injEq] at h
  obtain ⟨⟨i', x⟩, h1, h2, h3⟩ := h
  simp only at h2 h3
  subst h2; subst h3
  refine ⟨σ x, ?_, hρ x⟩
  simp only [Array.toList_map, List.getElem?_map, h1, Option.map_some]

theorem buildVal_ok (hT : TysOk E) {t : TypeId} {ps : Array (Nat × Operand)} {r : AVal} (hρ : ∀ x, VR Γ (ρ x) (σ x)) (h : buildVal E t (ps.toList.map fun (i, x) => (i, ρ x)) = some r) :
    ∃ u, (Instr.build t (ps.map fun (i, x) => (i, σ x))).run E.P w = .ok u w ∧ VR Γ r u := by
  unfold buildVal at h
  split at h
  · rename_i vt hg
    obtain ⟨ti, d, z, ok⟩ := hT _ _ hg
    split at h
    · rename_i fs hd
      obtain ⟨gs, rfl, hfs⟩ := vdOf_struct (ok.d.symm.trans hd)
      simp only [Option.map_eq_some_iff] at h
      obtain ⟨cs, hf, rfl⟩ := h
      have hmap := run_mapM_array (P := E.P) (w := w) (fun f : Field => do pure (f.offset, ← sizeOf f.type)) (fun f => (f.offset, E.P.cellsOf f.type)) gs (fun g hgm => by
        obtain ⟨j, hj⟩ := ok.flds gs rfl g hgm
        simp [sizeOf, typeInfo, hj, Program.cellsOf])
      have hpl : ∀ i q, structPlace E fs i = some q → (gs.map fun f => (f.offset, E.P.cellsOf f.type))[i]? = some q := by
        intro i q hq
        unfold structPlace at hq
        rw [hfs] at hq
        split at hq
        · rename_i ft off hfo
          simp only [List.getElem?_map, Option.map_eq_some_iff, Prod.mk.injEq] at hfo
          obtain ⟨g, hg1, rfl, rfl⟩ := hfo
          cases hv : E.ty.get g.type with
          | none => simp [hv] at hq
          | some v =>
            simp only [hv, Option.map_some, Option.some.injEq] at hq
            subst hq
            obtain ⟨_, _, _, okg⟩ := hT _ _ hv
            have : gs[i]? = some g := by simpa using hg1
            simp [this, okg.cellsOf]
        · cases hq
      obtain ⟨r', hr1, hr2, hr3⟩ := fillA_ok (Γ := Γ) (structPlace E fs) _ hpl _ ((ps.map fun (i, x) => (i, σ x)).toList) vt.zero cs z.cells hf (by simp) (fun j i a hj => parts_rel ps hρ j i a hj) ok.zrel ok.cell
      refine ⟨.agg r', ?_, by simp only [VR]; exact ⟨_, rfl, hr2, hr3⟩⟩
      simp only [Instr.build, Sem.run_bind, ok.run_zero, Result.andThen_ok, ok.run_und, hmap, hr1, Sem.run_pure]
    · rename_i n e hd
      have hd' := vdOf_array (ok.d.symm.trans hd)
      subst hd'
      split at h
      · rename_i ve hve
        obtain ⟨_, _, _, oke⟩ := hT _ _ hve
        simp only [Option.map_eq_some_iff] at h
        obtain ⟨cs, hf, rfl⟩ := h
        obtain ⟨r', hr1, hr2, hr3⟩ := fillA_ok (Γ := Γ) _ (fun i => some (i * ve.size, ve.size)) (fun i q hq => hq) _ ((ps.map fun (i, x) => (i, σ x)).toList) vt.zero cs z.cells hf (by simp) (fun j i a hj => parts_rel ps hρ j i a hj) ok.zrel ok.cell
        refine ⟨.agg r', ?_, by simp only [VR]; exact ⟨_, rfl, hr2, hr3⟩⟩
        simp only [Instr.build, Sem.run_bind, ok.run_zero, Result.andThen_ok, ok.run_und, oke.run_size, hr1, Sem.run_pure]
      · cases h
    · cases h
  · cases h
end
end Go.V
