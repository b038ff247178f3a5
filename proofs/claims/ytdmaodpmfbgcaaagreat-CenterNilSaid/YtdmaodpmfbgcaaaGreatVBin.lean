/-
  Operators.
-/
import Derived.Test.YtdmaodpmfbgcaaaGreatVLoad
namespace Go.V
section
variable {E : Env} {w : World} {Γ : Ctx}

theorem eqGuard_int (op : BinOp) (t : TypeId) (x y : Operand) (k l : IntKind) (a b : Int) : (eqGuard op t x y (.int k a) (.int l b)).run E.P w = .ok () w := by
  cases op <;> simp [eqGuard]
theorem eqGuard_str (op : BinOp) (t : TypeId) (x y : Operand) (a b : ByteArray) : (eqGuard op t x y (.string a) (.string b)).run E.P w = .ok () w := by
  cases op <;> simp [eqGuard]
theorem eqGuard_bool (op : BinOp) (t : TypeId) (x y : Operand) (a b : Bool) : (eqGuard op t x y (.bool a) (.bool b)).run E.P w = .ok () w := by
  cases op <;> simp [eqGuard]
theorem eqGuard_ptr (op : BinOp) (t : TypeId) (x y : Operand) (a b : Option Addr) : (eqGuard op t x y (.pointer a) (.pointer b)).run E.P w = .ok () w := by
  cases op <;> simp [eqGuard]
theorem eqGuard_slice (op : BinOp) (t : TypeId) (x y : Operand) (a b : Option Addr) (n m c d : Nat) : (eqGuard op t x y (.slice a n c) (.slice b m d)).run E.P w = .ok () w := by
  cases op <;> simp [eqGuard]
theorem eqGuard_nilf (op : BinOp) (t : TypeId) (x y : Operand) (v : Value) (hv : v = .nilFunc ∨ ∃ f a b, v = .func f a b) (u : Value) (hu : u = .nilFunc ∨ ∃ f a b, u = .func f a b) : (eqGuard op t x y u v).run E.P w = .ok () w := by
  rcases hv with rfl | ⟨f, a, b, rfl⟩ <;> rcases hu with rfl | ⟨g, c, d, rfl⟩ <;> cases op <;> simp [eqGuard]

theorem arith_ok {op : BinOp} {k : IntKind} {x y : Int} {r : AVal} (xT : TypeId) (h : arith op k x y = some r) (hs : op ≠ .shl) (hs' : op ≠ .shr) :
    ∃ q, (binOp op xT (.int k x) (.int k y)).run E.P w = .ok q w ∧ VR Γ r q := by
  cases op <;> simp only [arith, cmpInt, Option.map_some, Option.map_none, Option.some.injEq, reduceCtorEq, ne_eq] at h hs hs'
  case quo | rem =>
    split at h
    · cases h
    · rename_i h0
      simp only [Option.some.injEq] at h
      subst h
      exact ⟨_, by simp [binOp, Op.intDiv, h0]; rfl, by simp [VR]⟩
  case eql | neq | lss | leq | gtr | geq =>
    subst h
    exact ⟨_, by simp [binOp, Op.intCmp]; rfl, by simp [VR] <;> (by_cases e : x = y <;> simp [e])⟩
  all_goals
    subst h
    exact ⟨_, by simp [binOp, Op.intArith, Op.intBits]; rfl, by simp [VR]⟩

theorem strOp_ok {op : BinOp} {x y : ByteArray} {r : AVal} (xT : TypeId) (h : strOp op x y = some r) :
    ∃ q, (binOp op xT (.string x) (.string y)).run E.P w = .ok q w ∧ VR Γ r q := by
  cases op <;> simp only [strOp, Option.some.injEq, reduceCtorEq] at h
  all_goals
    subst h
    exact ⟨_, by simp [binOp, Op.stringOp]; rfl, by simp [VR]⟩

theorem shift_ok {op : BinOp} {k l : IntKind} {x y : Int} {r : AVal} (xT : TypeId) (hop : op = .shl ∨ op = .shr) (h : bin E op xT (.int k x) (.int l y) = some r) :
    ∃ q, (binOp op xT (.int k x) (.int l y)).run E.P w = .ok q w ∧ VR Γ r q := by
  rcases hop with rfl | rfl
  all_goals
    simp only [bin] at h
    split at h
    · cases h
    · rename_i h0
      simp only [Option.some.injEq] at h
      subst h
      exact ⟨_, by simp [binOp, Op.shift, h0]; rfl, by simp [VR]⟩

theorem binOp_eql (t : TypeId) (u v : Value) (hu : (∀ k n, u ≠ .int k n) ∧ (∀ s, u ≠ .string s)) (hu2 : (∀ k b, u ≠ .float k b) ∧ ∀ k a b, u ≠ .complex k a b) :
    (binOp .eql t u v).run E.P w = ((Op.equal t u v).run E.P w).andThen fun b w' => .ok (.bool b) w' := by
  cases u <;> first
    | exact absurd rfl (hu.1 _ _)
    | exact absurd rfl (hu.2 _)
    | exact absurd rfl (hu2.1 _ _)
    | exact absurd rfl (hu2.2 _ _ _)
    | (cases v <;> simp [binOp])

theorem binOp_neq (t : TypeId) (u v : Value) (hu : (∀ k n, u ≠ .int k n) ∧ (∀ s, u ≠ .string s)) (hu2 : (∀ k b, u ≠ .float k b) ∧ ∀ k a b, u ≠ .complex k a b) :
    (binOp .neq t u v).run E.P w = ((Op.equal t u v).run E.P w).andThen fun b w' => .ok (.bool !b) w' := by
  cases u <;> first
    | exact absurd rfl (hu.1 _ _)
    | exact absurd rfl (hu.2 _)
    | exact absurd rfl (hu2.1 _ _)
    | exact absurd rfl (hu2.2 _ _ _)
    | (cases v <;> simp [binOp])

theorem eqIn_ptr_l {P : Program} (d : Nat) {t e : TypeId} (b : Option Addr) (h : P.underlying t = some (.pointer e)) : (Op.equalIn (d + 1) t (.pointer none) (.pointer b)).run P w = .ok b.isNone w := by
  simp [Op.equalIn, run_underlying h]
theorem eqIn_ptr_r {P : Program} (d : Nat) {t e : TypeId} (a : Addr) (h : P.underlying t = some (.pointer e)) : (Op.equalIn (d + 1) t (.pointer (some a)) (.pointer none)).run P w = .ok false w := by
  simp [Op.equalIn, run_underlying h]
theorem eqIn_slice_l {P : Program} (d : Nat) {t e : TypeId} (b : Option Addr) (n c m k : Nat) (h : P.underlying t = some (.slice e)) : (Op.equalIn (d + 1) t (.slice none n c) (.slice b m k)).run P w = .ok b.isNone w := by
  simp [Op.equalIn, run_underlying h]
theorem eqIn_slice_r {P : Program} (d : Nat) {t e : TypeId} (a : Addr) (n c m k : Nat) (h : P.underlying t = some (.slice e)) : (Op.equalIn (d + 1) t (.slice (some a) n c) (.slice none m k)).run P w = .ok false w := by
  simp [Op.equalIn, run_underlying h]
theorem eqIn_func_nn {P : Program} (d : Nat) {t : TypeId} {p r v} (h : P.underlying t = some (.func p r v)) : (Op.equalIn (d + 1) t .nilFunc .nilFunc).run P w = .ok true w := by
  simp [Op.equalIn, run_underlying h]
theorem eqIn_func_l {P : Program} (d : Nat) {t : TypeId} {p r v} (f : Fn) (a b : Array Value) (h : P.underlying t = some (.func p r v)) : (Op.equalIn (d + 1) t .nilFunc (.func f a b)).run P w = .ok false w := by
  simp [Op.equalIn, run_underlying h]
theorem eqIn_func_r {P : Program} (d : Nat) {t : TypeId} {p r v} (f : Fn) (a b : Array Value) (h : P.underlying t = some (.func p r v)) : (Op.equalIn (d + 1) t (.func f a b) .nilFunc).run P w = .ok false w := by
  simp [Op.equalIn, run_underlying h]

theorem eqVals_ok (hT : TysOk E) {t : TypeId} {a b : AVal} {r : Bool} {u v : Value} (h : eqVals E t a b = some r) (ha : VR Γ a u) (hb : VR Γ b v) (op : BinOp) (x y : Operand) :
    (eqGuard op t x y u v).run E.P w = .ok () w ∧ (Op.equal t u v).run E.P w = .ok r w ∧ ((∀ k n, u ≠ .int k n) ∧ (∀ s, u ≠ .string s)) ∧ ((∀ k b, u ≠ .float k b) ∧ ∀ k a b, u ≠ .complex k a b) := by
  unfold eqVals at h
  cases hg : E.ty.get t with
  | none => simp [hg] at h
  | some vt =>
    obtain ⟨i, d, z, ok⟩ := hT t vt hg
    simp only [hg] at h
    split at h
    · -- bools
      split at h <;> simp only [Option.some.injEq, reduceCtorEq] at h
      rename_i hd
      have := vdOf_bool (ok.d.symm.trans hd)
      subst this
      simp only [VR] at ha hb
      subst ha; subst hb; subst h
      exact ⟨eqGuard_bool op t x y _ _, run_equalIn_bool w 9999 t _ _ ok.und, by simp, by simp⟩
    · split at h <;> simp only [Option.some.injEq, reduceCtorEq] at h
      rename_i hd
      have := vdOf_pointer (ok.d.symm.trans hd)
      subst this
      simp only [VR] at ha hb
      subst ha; subst hb; subst h
      exact ⟨eqGuard_ptr op t x y _ _, eqIn_ptr_l 9999 _ ok.und, by simp, by simp⟩
    case h_3 | h_4 | h_5 | h_6 =>
      split at h <;> simp only [Option.some.injEq, reduceCtorEq] at h
      rename_i hd
      have := vdOf_pointer (ok.d.symm.trans hd)
      subst this
      simp only [VR] at ha hb
      subst h
      first
        | (obtain ⟨a', rfl, _⟩ := ha; subst hb; exact ⟨eqGuard_ptr op t x y _ _, eqIn_ptr_r 9999 _ ok.und, by simp, by simp⟩)
        | (obtain ⟨a', rfl, _⟩ := hb; subst ha; exact ⟨eqGuard_ptr op t x y _ _, eqIn_ptr_l 9999 _ ok.und, by simp, by simp⟩)
    case h_7 | h_8 | h_9 =>
      split at h <;> simp only [Option.some.injEq, reduceCtorEq] at h
      rename_i hd
      have := vdOf_slice (ok.d.symm.trans hd)
      subst this
      simp only [VR] at ha hb
      subst h
      first
        | (obtain ⟨a1, rfl, h1⟩ := ha; obtain ⟨a2, rfl, h2⟩ := hb
           have h1 := h1 trivial; have h2 := h2 trivial; subst h1; subst h2
           exact ⟨eqGuard_slice op t x y _ _ _ _ _ _, eqIn_slice_l 9999 _ _ _ _ _ ok.und, by simp, by simp⟩)
        | (obtain ⟨a1, rfl, h1⟩ := ha; obtain ⟨a2, c, rfl, h2⟩ := hb
           have h1 := h1 trivial; subst h1
           exact ⟨eqGuard_slice op t x y _ _ _ _ _ _, eqIn_slice_l 9999 _ _ _ _ _ ok.und, by simp, by simp⟩)
        | (obtain ⟨a1, c, rfl, h1⟩ := ha; obtain ⟨a2, rfl, h2⟩ := hb
           have h2 := h2 trivial; subst h2
           exact ⟨eqGuard_slice op t x y _ _ _ _ _ _, eqIn_slice_r 9999 _ _ _ _ _ ok.und, by simp, by simp⟩)
    case h_10 | h_11 =>
      split at h <;> simp only [Option.some.injEq, reduceCtorEq] at h
      rename_i hd
      have := vdOf_slice (ok.d.symm.trans hd)
      subst this
      simp only [VR] at ha hb
      subst h
      first
        | (obtain ⟨a1, rfl, h1⟩ := ha; obtain ⟨a2, c, rfl, _, h2⟩ := hb
           have h1 := h1 trivial; subst h1
           obtain ⟨ad, rfl, _⟩ := h2 (by simp)
           exact ⟨eqGuard_slice op t x y _ _ _ _ _ _, eqIn_slice_l 9999 _ _ _ _ _ ok.und, by simp, by simp⟩)
        | (obtain ⟨a1, c, rfl, _, h1⟩ := ha; obtain ⟨a2, rfl, h2⟩ := hb
           have h2 := h2 trivial; subst h2
           obtain ⟨ad, rfl, _⟩ := h1 (by simp)
           exact ⟨eqGuard_slice op t x y _ _ _ _ _ _, eqIn_slice_r 9999 _ _ _ _ _ ok.und, by simp, by simp⟩)
    case h_12 | h_13 | h_14 =>
      split at h <;> simp only [Option.some.injEq, reduceCtorEq] at h
      rename_i hd
      obtain ⟨p, q, vv, this⟩ := vdOf_func (ok.d.symm.trans hd)
      subst this
      simp only [VR] at ha hb
      subst h
      first
        | (subst ha; subst hb
           exact ⟨eqGuard_nilf op t x y _ (.inl rfl) _ (.inl rfl), eqIn_func_nn 9999 ok.und, by simp, by simp⟩)
        | (subst ha; obtain ⟨us, vs, rfl, _⟩ := hb
           exact ⟨eqGuard_nilf op t x y _ (.inr ⟨_, _, _, rfl⟩) _ (.inl rfl), eqIn_func_l 9999 _ _ _ ok.und, by simp, by simp⟩)
        | (subst hb; obtain ⟨us, vs, rfl, _⟩ := ha
           exact ⟨eqGuard_nilf op t x y _ (.inl rfl) _ (.inr ⟨_, _, _, rfl⟩), eqIn_func_r 9999 _ _ _ ok.und, by simp, by simp⟩)
    case h_15 =>
      rename_i xs ys
      rw [ok.d, vdOf_agg, ok.eq] at h
      unfold eqOf at h
      cases hag : descAgg d with
      | false => simp [hag] at h
      | true =>
      simp only [hag, cond_true] at h
      cases hq : E.P.eqGuardType E.P.depth t with
      | true => simp [hq] at h
      | false =>
        simp only [hq, cond_false] at h
        cases hk : kindsOf E.P 12 t with
        | none => simp [hk] at h
        | some ks =>
          simp only [hk, Option.bind_some] at h
          simp only [VR] at ha hb
          obtain ⟨us, rfl, h1, _⟩ := ha
          obtain ⟨vs, rfl, h2, _⟩ := hb
          have e1 := asVal_agg ok.und hag us.toList
          have e2 := asVal_agg ok.und hag vs.toList
          have := equalIn_ok (w := w) Γ 12 t ks hk 10000 (by omega) xs ys us.toList vs.toList r h1 h2 h
          rw [e1, e2] at this
          exact ⟨run_eqGuard_agg w op t x y us vs hq, this, by simp, by simp⟩
    · cases h

theorem bin_ok (hT : TysOk E) {op : BinOp} {xT : TypeId} {a b r : AVal} {u v : Value} (h : bin E op xT a b = some r) (ha : VR Γ a u) (hb : VR Γ b v) (x y : Operand) :
    ∃ q, (do eqGuard op xT x y u v; binOp op xT u v : Sem Value).run E.P w = .ok q w ∧ VR Γ r q := by
  unfold bin at h
  split at h
  · rename_i k n l m
    simp only [VR] at ha hb
    subst ha; subst hb
    simp only [Sem.run_bind, eqGuard_int, Result.andThen_ok]
    split at h
    · exact shift_ok xT (.inl rfl) (by simpa [bin] using h)
    · exact shift_ok xT (.inr rfl) (by simpa [bin] using h)
    · rename_i h1 h2
      split at h
      · rename_i hk; subst hk; exact arith_ok xT h (fun e => h1 e) (fun e => h2 e)
      · cases h
  · simp only [VR] at ha hb
    subst ha; subst hb
    simp only [Sem.run_bind, eqGuard_str, Result.andThen_ok]
    exact strOp_ok xT h
  · split at h
    · cases he : eqVals E xT a b with
      | none => simp [he] at h
      | some q =>
        simp only [he, Option.map_some, Option.some.injEq] at h
        subst h
        obtain ⟨h1, h2, h3, h4⟩ := eqVals_ok (w := w) hT he ha hb .eql x y
        refine ⟨.bool q, ?_, by simp [VR]⟩
        rw [Sem.run_bind, h1]
        simp only [Result.andThen_ok]
        rw [binOp_eql _ _ _ h3 h4, h2]
        rfl
    · cases he : eqVals E xT a b with
      | none => simp [he] at h
      | some q =>
        simp only [he, Option.map_some, Option.some.injEq] at h
        subst h
        obtain ⟨h1, h2, h3, h4⟩ := eqVals_ok (w := w) hT he ha hb .neq x y
        refine ⟨.bool !q, ?_, by simp [VR]⟩
        rw [Sem.run_bind, h1]
        simp only [Result.andThen_ok]
        rw [binOp_neq _ _ _ h3 h4, h2]
        rfl
    · cases h

theorem un_ok {op : UnOp} {a r : AVal} {u : Value} (h : un op a = some r) (ha : VR Γ a u) : ∃ q, (Op.unary op u).run E.P w = .ok q w ∧ VR Γ r q := by
  unfold un at h
  split at h
  · simp only [Option.some.injEq] at h; subst h; simp only [VR] at ha; subst ha; exact ⟨_, by simp [Op.unary]; rfl, by simp [VR]⟩
  · simp only [Option.some.injEq] at h; subst h; simp only [VR] at ha; subst ha; exact ⟨_, by simp [Op.unary, Op.intArith]; rfl, by simp [VR]⟩
  · simp only [arith, Option.some.injEq] at h
    subst h; simp only [VR] at ha; subst ha; exact ⟨_, by simp [Op.unary, Op.intBits]; rfl, by simp [VR]⟩
  · cases h
end
end Go.V
