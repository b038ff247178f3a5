/-
  Comparing two values cell by cell gives what the model's '==' gives, at the types of which the program's own tables say so.
-/
import Derived.Test.YtdmaodpmfbgcaaaGreatVRel
namespace Go.V

def asVal (P : Program) (t : TypeId) (us : List Value) : Value :=
  match P.underlying t with
  | some (.struct _) | some (.array ..) => .agg us.toArray
  | _ => us.headD undef

theorem VRs.length {Γ : Ctx} : ∀ {as : List AVal} {vs : List Value}, VRs Γ as vs → as.length = vs.length
  | [], vs, h => by simp [VRs] at h; simp [h]
  | a :: as, l, h => by
    simp only [VRs] at h
    obtain ⟨v, vs, rfl, _, h2⟩ := h
    simp [VRs.length h2]

theorem VRs.get {Γ : Ctx} : ∀ {as : List AVal} {vs : List Value} {i : Nat} {a : AVal}, VRs Γ as vs → as[i]? = some a → ∃ v, vs[i]? = some v ∧ VR Γ a v
  | [], vs, i, a, _, ha => by simp at ha
  | x :: as, l, i, a, h, ha => by
    simp only [VRs] at h
    obtain ⟨v, vs, rfl, h1, h2⟩ := h
    cases i with
    | zero => simp at ha; subst ha; exact ⟨v, by simp, h1⟩
    | succ i => simp at ha; obtain ⟨u, hu, hr⟩ := VRs.get h2 ha; exact ⟨u, by simpa using hu, hr⟩

theorem VRs.of_get {Γ : Ctx} : ∀ {as : List AVal} {vs : List Value}, as.length = vs.length → (∀ (i : Nat) a, as[i]? = some a → ∃ v, vs[i]? = some v ∧ VR Γ a v) → VRs Γ as vs
  | [], vs, hl, _ => by simp at hl; simp [VRs]; exact List.eq_nil_of_length_eq_zero hl.symm
  | x :: as, [], hl, _ => by simp at hl
  | x :: as, v :: vs, hl, h => by
    simp only [VRs]
    obtain ⟨u, hu, hr⟩ := h 0 x rfl
    simp at hu; subst hu
    exact ⟨v, vs, rfl, hr, VRs.of_get (by simpa using hl) (fun i a ha => by have := h (i + 1) a (by simpa using ha); simpa using this)⟩

theorem VRs.drop {Γ : Ctx} : ∀ {as : List AVal} {vs : List Value} (n : Nat), VRs Γ as vs → VRs Γ (as.drop n) (vs.drop n)
  | as, vs, 0, h => by simpa using h
  | [], vs, n + 1, h => by simp [VRs] at h; simp [h, VRs]
  | a :: as, l, n + 1, h => by
    simp only [VRs] at h
    obtain ⟨v, vs, rfl, _, h2⟩ := h
    simpa using VRs.drop n h2

theorem VRs.take {Γ : Ctx} : ∀ {as : List AVal} {vs : List Value} (n : Nat), VRs Γ as vs → VRs Γ (as.take n) (vs.take n)
  | as, vs, 0, h => by simp [VRs]
  | [], vs, n + 1, h => by simp [VRs] at h; simp [h, VRs]
  | a :: as, l, n + 1, h => by
    simp only [VRs] at h
    obtain ⟨v, vs, rfl, h1, h2⟩ := h
    simp only [List.take_succ_cons, VRs]
    exact ⟨v, _, rfl, h1, VRs.take n h2⟩

theorem VRs.append {Γ : Ctx} : ∀ {as bs : List AVal} {vs us : List Value}, VRs Γ as vs → VRs Γ bs us → VRs Γ (as ++ bs) (vs ++ us)
  | [], bs, vs, us, h, k => by simp [VRs] at h; simpa [h] using k
  | a :: as, bs, l, us, h, k => by
    simp only [VRs] at h
    obtain ⟨v, vs, rfl, h1, h2⟩ := h
    simp only [List.cons_append, VRs]
    exact ⟨v, _, rfl, h1, VRs.append h2 k⟩

theorem eqCells_cons {k : FK} {ks : List FK} {xs ys : List AVal} {r : Bool} (h : eqCells (k :: ks) xs ys = some r) :
    ∃ x xs' y ys' a b, xs = x :: xs' ∧ ys = y :: ys' ∧ eq1 k x y = some a ∧ eqCells ks xs' ys' = some b ∧ r = (a && b) := by
  cases xs with
  | nil => simp [eqCells] at h
  | cons x xs =>
    cases ys with
    | nil => simp [eqCells] at h
    | cons y ys =>
      simp only [eqCells] at h
      cases h1 : eq1 k x y with
      | none => simp [h1] at h
      | some a =>
        cases h2 : eqCells ks xs ys with
        | none => simp [h1, h2] at h
        | some b => simp only [h1, h2, Option.some.injEq] at h; exact ⟨x, xs, y, ys, a, b, rfl, rfl, h1, h2, h.symm⟩

theorem eqCells_len : ∀ {ks : List FK} {xs ys : List AVal} {r : Bool}, eqCells ks xs ys = some r → xs.length = ks.length ∧ ys.length = ks.length := by
  intro ks
  induction ks with
  | nil => intro xs ys r h; cases xs <;> cases ys <;> simp [eqCells] at h; simp
  | cons k ks ih =>
    intro xs ys r h
    obtain ⟨x, xs', y, ys', a, b, rfl, rfl, _, h2, _⟩ := eqCells_cons h
    simp [ih h2]

theorem eqCells_append : ∀ {ks ls : List FK} {xs ys : List AVal} {r : Bool}, eqCells (ks ++ ls) xs ys = some r →
    ∃ r1 r2, eqCells ks (xs.take ks.length) (ys.take ks.length) = some r1 ∧ eqCells ls (xs.drop ks.length) (ys.drop ks.length) = some r2 ∧ r = (r1 && r2) := by
  intro ks
  induction ks with
  | nil => intro ls xs ys r h; exact ⟨true, r, by simp [eqCells], by simpa using h, by simp⟩
  | cons k ks ih =>
    intro ls xs ys r h
    obtain ⟨x, xs', y, ys', a, b, rfl, rfl, h1, h2, rfl⟩ := eqCells_cons h
    obtain ⟨r1, r2, h3, h4, rfl⟩ := ih h2
    exact ⟨a && r1, r2, by simp [eqCells, h1, h3], by simpa using h4, by simp [Bool.and_assoc]⟩

theorem eqCells_one {k : FK} {x y : AVal} {r : Bool} (h : eqCells [k] [x] [y] = some r) : eq1 k x y = some r := by
  obtain ⟨x', xs', y', ys', a, b, h1, h2, h3, h4, h5⟩ := eqCells_cons h
  cases h1; cases h2
  simp [eqCells] at h4
  subst h4
  simpa [h5] using h3

theorem eq1_b {x y : AVal} {r : Bool} (h : eq1 .b x y = some r) : ∃ a b, x = .bool a ∧ y = .bool b ∧ r = (a == b) := by
  cases x <;> cases y <;> simp [eq1] at h
  exact ⟨_, _, rfl, rfl, by rw [← h]⟩
theorem eq1_s {x y : AVal} {r : Bool} (h : eq1 .s x y = some r) : ∃ a b, x = .str a ∧ y = .str b ∧ r = (a.toList == b.toList) := by
  cases x <;> cases y <;> simp [eq1] at h
  exact ⟨_, _, rfl, rfl, by rw [← h]⟩
theorem eq1_i {x y : AVal} {r : Bool} (h : eq1 .i x y = some r) : ∃ k a b, x = .int k a ∧ y = .int k b ∧ r = decide (a = b) := by
  cases x with
  | int k a =>
    cases y with
    | int l b =>
      simp only [eq1, cond_eq_ite, decide_eq_true_eq] at h
      split at h
      · rename_i hk; subst hk; exact ⟨_, _, _, rfl, rfl, by simpa using h.symm⟩
      · cases h
    | _ => simp [eq1] at h
  | _ => simp [eq1] at h

def descAgg : TypeDesc → Bool
  | .struct _ | .array .. => true
  | _ => false

section
variable {P : Program} {w : World}

theorem info_of_underlying {t : TypeId} {d : TypeDesc} (h : P.underlying t = some d) : ∃ i, P.info? t = some i := by
  unfold Program.underlying at h
  cases hi : P.info? t with
  | none => simp [hi] at h
  | some i => exact ⟨i, rfl⟩

theorem run_part {t : TypeId} {d : TypeDesc} (hd : P.underlying t = some d) {size : Nat} (hs : P.cellsOf t = size) (h1 : descAgg d = false → size = 1)
    (cs : Array Value) (off : Nat) (hl : off + size ≤ cs.size) : (part t cs off).run P w = .ok (asVal P t ((cs.toList.drop off).take size)) w := by
  obtain ⟨i, hi⟩ := info_of_underlying hd
  have hz : i.size = size := by simpa [Program.cellsOf, hi] using hs
  have hagg : (isAgg t).run P w = .ok (descAgg d) w := by
    unfold isAgg
    rw [Sem.run_bind, run_underlying hd w]
    cases d <;> simp [descAgg]
  unfold part asVal
  rw [Sem.run_bind, hagg, hd]
  simp only [Result.andThen_ok]
  cases hb : descAgg d with
  | true =>
    have e : Array.extract cs off (off + size) = ((cs.toList.drop off).take size).toArray := by
      apply Array.ext'
      simp [Array.toList_extract, List.extract_eq_take_drop]
    cases d <;> simp [descAgg] at hb <;> simp [sizeOf, typeInfo, hi, hz, e]
  | false =>
    have hs1 := h1 hb
    subst hs1
    have hlt : off < cs.size := by omega
    have e : (cs.toList.drop off).take 1 = [cs[off]] := by
      rw [List.drop_eq_getElem_cons (by simpa using hlt)]
      simp
    cases d <;> simp [descAgg] at hb <;> simp [e, hlt]

theorem kinds_scalar {n : Nat} {t : TypeId} {ks : List FK} (h : kindsOf P n t = some ks) {d : TypeDesc} (hd : P.underlying t = some d) :
    descAgg d = false → ks.length = 1 := by
  intro hb
  cases n with
  | zero => simp [kindsOf] at h
  | succ n =>
    simp only [kindsOf, hd] at h
    cases d <;> simp [descAgg] at h hb <;> (subst h; rfl)

theorem kinds_underlying {n : Nat} {t : TypeId} {ks : List FK} (h : kindsOf P n t = some ks) : ∃ d, P.underlying t = some d := by
  cases n with
  | zero => simp [kindsOf] at h
  | succ n =>
    cases hd : P.underlying t with
    | none => simp [kindsOf, hd] at h
    | some d => exact ⟨d, rfl⟩

theorem one_of_scalar {Γ : Ctx} {x y : AVal} {xs ys : List AVal} {us vs : List Value} (hx : VRs Γ (x :: xs) us) (hy : VRs Γ (y :: ys) vs) (hlx : xs = []) (hly : ys = []) :
    ∃ u v, us = [u] ∧ vs = [v] ∧ VR Γ x u ∧ VR Γ y v := by
  subst hlx; subst hly
  simp only [VRs] at hx hy
  obtain ⟨u, us', rfl, h1, rfl⟩ := hx
  obtain ⟨v, vs', rfl, h2, rfl⟩ := hy
  exact ⟨u, v, rfl, rfl, h1, h2⟩

theorem equalIn_ok (Γ : Ctx) : ∀ (n : Nat) (t : TypeId) (ks : List FK), kindsOf P n t = some ks → ∀ (d : Nat), n ≤ d → ∀ (xs ys : List AVal) (us vs : List Value) (r : Bool),
    VRs Γ xs us → VRs Γ ys vs → eqCells ks xs ys = some r → (Op.equalIn d t (asVal P t us) (asVal P t vs)).run P w = .ok r w := by
  intro n
  induction n with
  | zero => intro t ks h; simp [kindsOf] at h
  | succ n ih =>
    intro t ks hk d hd xs ys us vs r hx hy he
    obtain ⟨e, rfl⟩ : ∃ e, d = e + 1 := ⟨d - 1, by omega⟩
    obtain ⟨td, htd⟩ := kinds_underlying hk
    have hlen := eqCells_len he
    have scal : ∀ k, ks = [k] → ∃ x y u v, xs = [x] ∧ ys = [y] ∧ us = [u] ∧ vs = [v] ∧ VR Γ x u ∧ VR Γ y v := by
      intro k hk1
      subst hk1
      cases xs with
      | nil => simp at hlen
      | cons x xs =>
        cases ys with
        | nil => simp at hlen
        | cons y ys =>
          simp at hlen
          obtain ⟨u, v, h1, h2, h3, h4⟩ := one_of_scalar hx hy (List.eq_nil_of_length_eq_zero (by simpa using hlen.1)) (List.eq_nil_of_length_eq_zero (by simpa using hlen.2))
          exact ⟨x, y, u, v, by simp [hlen.1], by simp [hlen.2], h1, h2, h3, h4⟩
    have loop : ∀ (as bs : Array Value), VRs Γ xs as.toList → VRs Γ ys bs.toList → ∀ (fs : List Field) (off : Nat) (ls : List FK) (q : Bool),
        fieldsKinds P (kindsOf P n) off fs = some ls → eqCells ls (xs.drop off) (ys.drop off) = some q → (Op.eqFields e as bs fs).run P w = .ok q w := by
      intro as bs hxa hyb fs
      induction fs with
      | nil =>
        intro off ls q hf hq
        simp [fieldsKinds] at hf
        subst hf
        have := eqCells_len hq
        simp only [List.length_nil, List.length_eq_zero_iff] at this
        rw [this.1, this.2] at hq
        simp [eqCells] at hq
        subst hq
        simp [Op.eqFields]
      | cons f fs ihf =>
        intro off ls q hf hq
        simp only [fieldsKinds, cond_eq_ite, Bool.and_eq_true, nbeq, decide_eq_true_eq] at hf
        split at hf
        · rename_i hc
          obtain ⟨hname, hoff⟩ := hc
          cases hg : kindsOf P n f.type with
          | none => simp [hg] at hf
          | some k1 =>
            simp only [hg, Option.bind_some, nblt, decide_eq_true_eq] at hf
            split at hf
            · rename_i hcs0
              obtain ⟨hcs, hpos⟩ := hcs0
              cases hr : fieldsKinds P (kindsOf P n) (off + k1.length) fs with
              | none => simp [hr] at hf
              | some k2 =>
                simp [hr] at hf
                subst hf
                obtain ⟨r1, r2, h1, h2, rfl⟩ := eqCells_append hq
                rw [List.drop_drop, List.drop_drop] at h2
                obtain ⟨fd, hfd⟩ := kinds_underlying hg
                have l1 := eqCells_len h1
                have lx := hxa.length
                have ly := hyb.length
                simp only [List.length_take, List.length_drop] at l1
                have p1 := run_part (w := w) hfd hcs (kinds_scalar hg hfd) as off (by simp at lx; omega)
                have p2 := run_part (w := w) hfd hcs (kinds_scalar hg hfd) bs off (by simp at ly; omega)
                have hne : f.name ≠ "_" := by simpa using hname
                have q1 := ih f.type k1 hg e (by omega) _ _ _ _ r1 ((hxa.drop off).take k1.length) ((hyb.drop off).take k1.length) h1
                have q2 := ihf (off + k1.length) k2 r2 hr h2
                simp only [Op.eqFields, if_pos hne, Sem.run_bind]
                rw [← hoff] at p1 p2 q1
                rw [p1]
                simp only [Result.andThen_ok, p2, q1]
                cases r1 with
                | false => simp
                | true => simpa using q2
            · simp at hf
        · simp at hf
    simp only [kindsOf, htd] at hk
    cases td <;> simp only [reduceCtorEq] at hk
    case bool =>
      obtain ⟨x, y, u, v, rfl, rfl, rfl, rfl, h1, h2⟩ := scal .b (by simpa using hk.symm)
      simp only [Option.some.injEq] at hk; subst hk
      obtain ⟨a, b, rfl, rfl, rfl⟩ := eq1_b (eqCells_one he)
      simp only [VR] at h1 h2
      subst h1; subst h2
      simp only [asVal, htd, List.headD_cons]
      exact run_equalIn_bool w e t _ _ htd
    case int k =>
      obtain ⟨x, y, u, v, rfl, rfl, rfl, rfl, h1, h2⟩ := scal .i (by simpa using hk.symm)
      simp only [Option.some.injEq] at hk; subst hk
      obtain ⟨q, a, b, rfl, rfl, rfl⟩ := eq1_i (eqCells_one he)
      simp only [VR] at h1 h2
      subst h1; subst h2
      simp only [asVal, htd, List.headD_cons]
      rw [run_equalIn_int w e t _ _ _ _ htd]
      congr 1
    case string =>
      obtain ⟨x, y, u, v, rfl, rfl, rfl, rfl, h1, h2⟩ := scal .s (by simpa using hk.symm)
      simp only [Option.some.injEq] at hk; subst hk
      obtain ⟨a, b, rfl, rfl, rfl⟩ := eq1_s (eqCells_one he)
      simp only [VR] at h1 h2
      subst h1; subst h2
      simp only [asVal, htd, List.headD_cons]
      exact run_equalIn_string w e t _ _ htd
    case struct fs =>
      simp only [cond_eq_ite] at hk
      split at hk
      · simp at hk
      · rename_i hp
        have hf : P.fieldsOf t = fs := by simp [Program.fieldsOf, htd]
        simp only [asVal, htd]
        rw [run_equalIn_struct w e t _ _ (by rw [hf]; exact htd) (by simpa using hp), hf]
        exact loop us.toArray vs.toArray (by simpa using hx) (by simpa using hy) fs.toList 0 ks r hk (by simpa using he)
    case array m el =>
      cases hg : kindsOf P n el with
      | none => simp [hg] at hk
      | some k1 =>
        simp only [hg, Option.bind_some, cond_eq_ite, Bool.and_eq_true, nbeq, nble, nblt, decide_eq_true_eq] at hk
        split at hk
        · rename_i hcs
          simp only [Option.some.injEq] at hk
          subst hk
          obtain ⟨ed, hed⟩ := kinds_underlying hg
          obtain ⟨ei, hei⟩ := info_of_underlying hed
          have hz : ei.size = k1.length := by simpa [Program.cellsOf, hei] using hcs.1.1
          have key : ∀ (j i : Nat) (q : Bool), eqCells (repl k1 j) (xs.drop (i * k1.length)) (ys.drop (i * k1.length)) = some q →
              (forIn (m := Sem) (List.range' i j) ((none, ()) : Option Bool × PUnit) fun i _ => do
                let a ← part el us.toArray (i * k1.length)
                let b ← part el vs.toArray (i * k1.length)
                let c ← Op.equalIn e el a b
                if (!c) = true then pure (ForInStep.done (some false, ())) else pure (ForInStep.yield (none, ()))).run P w = .ok (if q then (none, ()) else (some false, ())) w := by
            intro j
            induction j with
            | zero =>
              intro i q hq
              simp only [repl] at hq
              have := eqCells_len hq
              simp only [List.length_nil, List.length_eq_zero_iff] at this
              rw [this.1, this.2] at hq
              simp [eqCells] at hq
              subst hq
              simp
            | succ j ihj =>
              intro i q hq
              simp only [repl] at hq
              obtain ⟨r1, r2, h1, h2, rfl⟩ := eqCells_append hq
              rw [List.drop_drop, List.drop_drop, show i * k1.length + k1.length = (i + 1) * k1.length by rw [Nat.add_mul, Nat.one_mul]] at h2
              have l1 := eqCells_len h1
              have lx := hx.length
              have ly := hy.length
              simp only [List.length_take, List.length_drop] at l1
              have p1 := run_part (w := w) hed hcs.1.1 (kinds_scalar hg hed) us.toArray (i * k1.length) (by simp; omega)
              have p2 := run_part (w := w) hed hcs.1.1 (kinds_scalar hg hed) vs.toArray (i * k1.length) (by simp; omega)
              have q1 := ih el k1 hg e (by omega) _ _ _ _ r1 ((hx.drop (i * k1.length)).take k1.length) ((hy.drop (i * k1.length)).take k1.length) h1
              have hj := ihj (i + 1) r2 h2
              simp only [List.range'_succ, List.forIn_cons, Sem.run_bind]
              rw [p1]
              simp only [Result.andThen_ok, p2, q1]
              cases r1 with
              | false => simp
              | true => simpa using hj
          have hkey := key m 0 r (by simpa using he)
          simp only [asVal, htd, Op.equalIn, Sem.run_bind, run_underlying htd, Result.andThen_ok]
          simp only [sizeOf, typeInfo, Sem.run_bind, run_program, hei, Sem.run_pure, Result.andThen_ok, hz]
          simp only [Std.Legacy.Range.forIn_eq_forIn_range']
          rw [show ([:m] : Std.Legacy.Range).size = m by simp [Std.Legacy.Range.size], hkey]
          cases r <;> simp
        · simp at hk
end
end Go.V
