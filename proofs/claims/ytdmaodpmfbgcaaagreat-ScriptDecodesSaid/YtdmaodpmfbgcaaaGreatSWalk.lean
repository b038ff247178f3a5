/-
  Walking the abstract machine: drawn regions by their plans, memory that grows, slices of bytes and of structs.
-/
import Derived.Test.YtdmaodpmfbgcaaaGreatWV4
import Derived.Test.YtdmaodpmfbgcaaaGreatSPlain2
set_option maxRecDepth 100000
namespace Go.V

/-! ### Drawn regions -/
def vpl (E : Env) (ops : List Oper) (l : List RStep) (R : St → Prop) (st : St) : Prop := ∃ n st', runPlan E (call E n) ops l st = some st' ∧ R st'

section
variable {E : Env} {st : St} {Q : Ex → St → Prop} {R : St → Prop}

theorem vwp_draw {id : Nat} {ops : Array Oper} {plan : List RStep} (hp : E.plans.get (planKey st.fn id) = some plan) (hl : lastComm ops.toList = false) (h : vpl E ops.toList plan (Q .normal) st) : vwp E (.region id ops true) Q st := by
  obtain ⟨n, s, h1, h2⟩ := h
  refine ⟨n + 1, .normal, s, ?_, h2⟩
  rw [exec_succ]
  simp only [execF, hp, runDrawn, hl, cond_false]
  rw [show callF E (exec E n) = call E n from rfl, h1]; rfl

theorem vpl_nil {ops : List Oper} (h : R st) : vpl E ops [] R st := ⟨0, st, rfl, h⟩

theorem vpl_run {ops : List Oper} {j : Nat} {o : Oper} {l : List RStep} {n : Nat} {s : St} (hj : ops[j]? = some o) (ho : runOp E (call E n) ops st o = some s) (h : vpl E ops l R s) : vpl E ops (.run j :: l) R st := by
  obtain ⟨k, s', h1, h2⟩ := h
  refine ⟨max n k, s', ?_, h2⟩
  simp only [runPlan, hj, runOp_mono (call_mono (Nat.le_max_left n k)) ho]
  exact runPlan_mono (call_mono (Nat.le_max_right n k)) h1

theorem vpl_chk {ops : List Oper} {j d : Nat} {o : Oper} {l : List RStep} {v : AVal} (hj : ops[j]? = some o) (hw : wanted ops st o = some true) (hv : light E st.mem st.ev o.op = some (.val v)) (hd : o.dst = some d) (hs : AVal.same v (st.slot d) = true) (h : vpl E ops l R st) : vpl E ops (.chk j :: l) R st := by
  obtain ⟨k, s', h1, h2⟩ := h
  refine ⟨k, s', ?_, h2⟩
  simp only [runPlan, hj, hw, hv, hd, hs, cond_true, h1]

theorem vpl_chk0 {ops : List Oper} {j : Nat} {o : Oper} {l : List RStep} (hj : ops[j]? = some o) (hw : wanted ops st o = some false) (h : vpl E ops l R st) : vpl E ops (.chk j :: l) R st := by
  obtain ⟨k, s', h1, h2⟩ := h
  refine ⟨k, s', ?_, h2⟩
  simp only [runPlan, hj, hw, h1]

theorem vpl_call {ops : List Oper} {j : Nat} {o : Oper} {l : List RStep} {f : Operand} {g : FuncId} {first cap avs : List AVal} {args : Array Operand} {tys : Array TypeId} (hj : ops[j]? = some o) (hw : wanted ops st o = some true) (hop : o.op = .call ⟨.value f, args, tys⟩)
    (hf : st.ev f = .fn g first cap) (ha : first ++ args.toList.map st.ev ++ cap = avs) (h : vcall E g avs st.mem fun v m' => ∃ s', St.put { st with mem := m' } o.dst v = some s' ∧ vpl E ops l R s') : vpl E ops (.run j :: l) R st := by
  obtain ⟨n, v, m', h1, s', h2, h3⟩ := h
  refine vpl_run (n := n) (s := s') hj ?_ h3
  unfold runOp
  rw [hw, hop]
  have e1 : isHeavy (.call ⟨.value f, args, tys⟩) = true := rfl
  have e2 : heavy E (call E n) st.mem st.ev (.call ⟨.value f, args, tys⟩) = some (v, m') := by
    simp only [heavy, hf, ha, h1]
  simp only [e1, cond_true, e2, h2]

/-- A call of a function value. -/
theorem vops_callv {ops : List Oper} {o : Oper} {l : List Oper} {f : Operand} {g : FuncId} {first cap avs : List AVal} {args : Array Operand} {tys : Array TypeId} (hw : wanted ops st o = some true) (hop : o.op = .call ⟨.value f, args, tys⟩)
    (hf : st.ev f = .fn g first cap) (ha : first ++ args.toList.map st.ev ++ cap = avs) (h : vcall E g avs st.mem fun v m' => ∃ s', St.put { st with mem := m' } o.dst v = some s' ∧ vops E ops l R s') : vops E ops (o :: l) R st := by
  obtain ⟨n, v, m', h1, s', h2, h3⟩ := h
  refine vops_cons (n := n) (s := s') ?_ h3 (by rw [hop]; rfl)
  unfold runOp
  rw [hw, hop]
  have e1 : isHeavy (.call ⟨.value f, args, tys⟩) = true := rfl
  have e2 : heavy E (call E n) st.mem st.ev (.call ⟨.value f, args, tys⟩) = some (v, m') := by
    simp only [heavy, hf, ha, h1]
  simp only [e1, cond_true, e2, h2]
end

/-! ### Memory that grows: blocks of some types alone may be written -/
def Mem.at (m : Mem) (b : Nat) (B : Block) : Prop := b < m.next ∧ m.get b = some B

structure Fr (S : TypeId → Bool) (m m' : Mem) (k : Nat) : Prop where
  up : m.next ≤ m'.next
  most : m'.next ≤ m.next + k
  keep : ∀ b B, m.at b B → S B.ty = false → m'.at b B

section
variable {S : TypeId → Bool} {m m' a b c : Mem}

theorem Fr.refl (S : TypeId → Bool) (m : Mem) : Fr S m m 0 := ⟨Nat.le_refl _, Nat.le_refl _, fun _ _ h _ => h⟩
theorem Fr.trans {j k l : Nat} (h : Fr S a b j) (h' : Fr S b c k) (hl : j + k ≤ l) : Fr S a c l :=
  ⟨Nat.le_trans h.up h'.up, by have := h.most; have := h'.most; omega, fun x B hx hS => h'.keep x B (h.keep x B hx hS) hS⟩
theorem Fr.mono {S' : TypeId → Bool} {j k : Nat} (h : Fr S a b j) (hk : j ≤ k) (hS : ∀ t, S' t = false → S t = false) : Fr S' a b k :=
  ⟨h.up, by have := h.most; omega, fun x B hx h' => h.keep x B hx (hS _ h')⟩
theorem Fr.le {j k : Nat} (h : Fr S a b j) (hk : j ≤ k) : Fr S a b k := h.mono hk fun _ h => h
theorem at_add (blk : Block) (h : m.next < 1048576) {x : Nat} {B : Block} (hx : m.at x B) : (m.add blk).at x B :=
  ⟨Nat.lt_succ_of_lt hx.1, by have := hx.1; rw [get_add m blk h, if_neg (by omega)]; exact hx.2⟩
theorem at_add_self (m : Mem) (blk : Block) (h : m.next < 1048576) : (m.add blk).at m.next blk := ⟨Nat.lt_succ_self _, get_add_self m blk h⟩
theorem at_upd {x y : Nat} {B C : Block} (h : m.at x B) (hn : m.next ≤ 1048576) (hy : m.at y C) (hxy : y ≠ x) (D : Block) : (m.upd x D).at y C :=
  ⟨hy.1, by rw [get_upd m x D (by have := h.1; omega), if_neg hxy]; exact hy.2⟩
theorem at_upd_self {x : Nat} {B : Block} (h : m.at x B) (hn : m.next ≤ 1048576) (D : Block) : (m.upd x D).at x D :=
  ⟨h.1, by rw [get_upd m x D (by have := h.1; omega), if_pos rfl]⟩
theorem Fr.add (m : Mem) (blk : Block) (h : m.next < 1048576) : Fr S m (m.add blk) 1 := ⟨Nat.le_succ _, Nat.le_refl _, fun _ _ hx _ => at_add blk h hx⟩
theorem Fr.upd {x : Nat} {B : Block} (h : m.at x B) (hn : m.next ≤ 1048576) (hS : S B.ty = true) (D : Block) : Fr S m (m.upd x D) 0 :=
  ⟨Nat.le_refl _, Nat.le_refl _, fun y C hy hC => at_upd h hn hy (by rintro rfl; have := hy.2.symm.trans h.2; cases this; rw [hS] at hC; cases hC) D⟩
theorem next_upd (m : Mem) (x : Nat) (D : Block) : (m.upd x D).next = m.next := rfl
end

/-! ### Slices of elements of so many cells each -/
inductive SlV (m : Mem) (ty sz : Nat) : AVal → List (List AVal) → Prop where
  | nil (s : Bool) : SlV m ty sz (.nil s) []
  | imm (els : List (List AVal)) : (∀ x ∈ els, x.length = sz) → SlV m ty sz (.imm els.flatten els.length) els
  | ref (b ext off lo : Nat) (ex : Bool) (B : Block) (els : List (List AVal)) : (∀ x ∈ els, x.length = sz) → m.at b B → B.ty = ty → B.cells.length = ext → (B.cells.drop off).take (els.length * sz) = els.flatten → els.length ≤ lo → SlV m ty sz (.ref b ext off els.length lo ex sz) els

theorem flat_len {sz : Nat} : ∀ {els : List (List AVal)}, (∀ x ∈ els, x.length = sz) → els.flatten.length = els.length * sz
  | [], _ => by simp
  | x :: els, h => by
    rw [List.flatten_cons, List.length_append, h x (List.mem_cons_self ..), flat_len fun y hy => h y (List.mem_cons_of_mem _ hy), List.length_cons, Nat.add_mul]; omega
theorem flat_drop {sz : Nat} : ∀ {els : List (List AVal)} (n : Nat), (∀ x ∈ els, x.length = sz) → els.flatten.drop (n * sz) = (els.drop n).flatten
  | els, 0, _ => by simp
  | [], n + 1, _ => by simp
  | x :: els, n + 1, h => by
    rw [List.flatten_cons, List.drop_succ_cons, ← flat_drop n fun y hy => h y (List.mem_cons_of_mem _ hy), show (n + 1) * sz = x.length + n * sz by rw [h x (List.mem_cons_self ..), Nat.add_mul]; omega, List.drop_append, Nat.add_sub_cancel_left]
    simp
theorem flat_take {sz : Nat} : ∀ {els : List (List AVal)} (n : Nat), (∀ x ∈ els, x.length = sz) → els.flatten.take (n * sz) = (els.take n).flatten
  | els, 0, _ => by simp
  | [], n + 1, _ => by simp
  | x :: els, n + 1, h => by
    rw [List.flatten_cons, List.take_succ_cons, List.flatten_cons, ← flat_take n fun y hy => h y (List.mem_cons_of_mem _ hy), show (n + 1) * sz = x.length + n * sz by rw [h x (List.mem_cons_self ..), Nat.add_mul]; omega, List.take_append]
    rw [List.take_of_length_le (by omega), Nat.add_sub_cancel_left]
theorem take_drop_take {α : Type} (l : List α) (a b n : Nat) (h : n ≤ b) : (l.drop a).take n = ((l.drop a).take b).take n := by rw [List.take_take, Nat.min_eq_left h]

section
variable {m m' : Mem} {ty sz : Nat} {v : AVal} {els : List (List AVal)}

theorem SlV.each (h : SlV m ty sz v els) : ∀ x ∈ els, x.length = sz := by
  cases h with
  | nil => intro x hx; cases hx
  | imm _ h => exact h
  | ref _ _ _ _ _ _ _ h => exact h
theorem SlV.len (h : SlV m ty sz v els) : sliceLen v = some els.length := by cases h <;> rfl
theorem SlV.cells (h : SlV m ty sz v els) {n : Nat} (hn : n ≤ els.length) : sliceCells m v n sz = some (els.take n).flatten := by
  have he := h.each
  have hf := flat_len he
  have hm : n * sz ≤ els.length * sz := Nat.mul_le_mul_right _ hn
  cases h with
  | nil => simp only [List.length_nil, Nat.le_zero] at hn; subst hn; rfl
  | imm _ _ =>
    simp only [sliceCells, nble, hn, decide_true, cond_true, lget, List.drop_zero, nbeq]
    rw [flat_take n he, flat_len (sz := sz) (fun x hx => he x (List.mem_of_mem_take hx)), List.length_take, Nat.min_eq_left hn]
    simp
  | ref b ext off lo ex B _ _ hb _ hl hc hlo =>
    simp only [sliceCells, nble, hn, decide_true, cond_true, lget, nbeq, hb.2, hl]
    rw [take_drop_take _ _ _ _ hm, hc, flat_take n he, flat_len (sz := sz) (fun x hx => he x (List.mem_of_mem_take hx)), List.length_take, Nat.min_eq_left hn]
    simp

/-- An element's place, and what it holds. -/
theorem SlV.elem {E : Env} {t e : TypeId} {vt ve : VT} (ht : E.ty.get t = some vt) (hd : vt.d = .slice e) (hv : E.ty.get e = some ve) (hs : ve.size = sz) (hp : 0 < sz) (h : SlV m ty sz v els) {i : Nat} {x : List AVal} (hi : els[i]? = some x) :
    ∃ p, elemAddr E t v i = some p ∧ readCells m p sz = some x := by
  have he := h.each
  have hil : i < els.length := (List.getElem?_eq_some_iff.1 hi).1
  have hx : x.length = sz := he x (List.mem_of_getElem? hi)
  have hdrop : els.drop i = x :: els.drop (i + 1) := by
    rw [List.drop_eq_getElem_cons hil]; congr; exact (List.getElem?_eq_some_iff.1 hi).2
  obtain ⟨d, s1, s2, s3, s4⟩ := vt
  simp only at hd
  subst hd
  have hm : (i + 1) * sz ≤ els.length * sz := Nat.mul_le_mul_right _ hil
  cases h with
  | nil => cases hi
  | imm _ _ =>
    refine ⟨.iptr (els.flatten.drop (i * sz)), ?_, ?_⟩
    · simp only [elemAddr, ht, hv, hs, nblt, nble, flat_len he, hil, hm, hp, decide_true, Bool.and_self, cond_true]
    · simp only [readCells, lget, List.drop_zero, flat_drop i he, hdrop, List.flatten_cons, nbeq]
      rw [← hx, List.take_left]; simp
  | ref b ext off lo ex B _ _ hb _ hl hc hlo =>
    refine ⟨.ptr b ext (off + i * sz), ?_, ?_⟩
    · simp only [elemAddr, ht, hv, hs, nblt, hil, decide_true, cond_true]
    · simp only [readCells, hb.2, lget, nbeq, hl, decide_true, cond_true]
      have e : (B.cells.drop (off + i * sz)).take sz = x := by
        have h1 : ((B.cells.drop off).take (els.length * sz)).drop (i * sz) = (els.drop i).flatten := by rw [hc, flat_drop i he]
        rw [List.drop_take, List.drop_drop] at h1
        have h2 : (List.drop (off + i * sz) B.cells).take sz = ((List.drop (off + i * sz) B.cells).take (els.length * sz - i * sz)).take sz := by
          rw [List.take_take, Nat.min_eq_left]
          rw [Nat.add_mul] at hm; omega
        rw [h2, h1, hdrop, List.flatten_cons, ← hx, List.take_left]
      rw [e, hx]; simp

theorem SlV.fr {S : TypeId → Bool} {k : Nat} (hF : Fr S m m' k) (hS : S ty = false) (h : SlV m ty sz v els) : SlV m' ty sz v els := by
  cases h with
  | nil => exact .nil _
  | imm _ h => exact .imm _ h
  | ref b ext off lo ex B _ h1 h2 h3 h4 h5 h6 => exact .ref b ext off lo ex B _ h1 (hF.keep b B h2 (by rw [h3]; exact hS)) h3 h4 h5 h6

theorem SlV.drop {E : Env} {t e : TypeId} {vt ve : VT} (ht : E.ty.get t = some vt) (hd : vt.d = .slice e) (hv : E.ty.get e = some ve) (hs : ve.size = sz) (h : SlV m ty sz v els) {n : Nat} (hn : n ≤ els.length) :
    ∃ v', sliceOp E t v (some n) none none = some v' ∧ SlV m ty sz v' (els.drop n) := by
  have he := h.each
  have he' : ∀ x ∈ els.drop n, x.length = sz := fun x hx => he x (List.mem_of_mem_drop hx)
  obtain ⟨d, s1, s2, s3, s4⟩ := vt
  simp only at hd
  subst hd
  cases h with
  | nil s =>
    simp only [List.length_nil, Nat.le_zero] at hn
    subst hn
    exact ⟨.nil s, by simp [sliceOp, ht, hv, cut, nbeq], .nil s⟩
  | imm _ _ =>
    by_cases h0 : els.length - n = 0
    · refine ⟨.imm [] 0, ?_, ?_⟩
      · simp [sliceOp, ht, hv, hs, cutImm, nbeq, nble, hn, flat_len he, h0]
      · rw [List.drop_of_length_le (by omega)]; exact .imm [] (fun _ h => by cases h)
    · refine ⟨.imm (els.drop n).flatten (els.drop n).length, ?_, .imm _ he'⟩
      simp only [sliceOp, ht, hv, hs, cutImm, nbeq, nble, hn, flat_len he, h0, Option.getD_some, Option.getD_none, Option.isSome_none, Option.isNone_none, Bool.false_and, cond_false, decide_true, Bool.and_self, cond_true, decide_false, Nat.le_refl, List.length_drop]
      rw [flat_drop n he, List.take_of_length_le (by rw [flat_len he', List.length_drop]; exact Nat.le_refl _)]
  | ref b ext off lo ex B _ _ hb hty hl hc hlo =>
    by_cases h0 : lo - n = 0
    · have h1 : els.length - n = 0 := by omega
      cases ex with
      | true =>
        refine ⟨.nil false, ?_, by rw [List.drop_of_length_le (by omega)]; exact .nil false⟩
        simp [sliceOp, ht, hv, hs, cut, nbeq, nble, hn, hlo, h0]
      | false =>
        refine ⟨.imm [] 0, ?_, by rw [List.drop_of_length_le (by omega)]; exact .imm [] (fun _ h => by cases h)⟩
        simp [sliceOp, ht, hv, hs, cut, nbeq, nble, hn, hlo, h0]
    · refine ⟨.ref b ext (off + n * sz) (els.drop n).length (lo - n) ex sz, ?_, ?_⟩
      · simp [sliceOp, ht, hv, hs, cut, nbeq, nble, hn, hlo, h0]
      · refine .ref b ext (off + n * sz) (lo - n) ex B _ he' hb hty hl ?_ (by rw [List.length_drop]; omega)
        rw [List.length_drop, ← flat_drop n he, ← hc, List.drop_take, List.drop_drop, Nat.sub_mul]

theorem SlV.take {E : Env} {t e : TypeId} {vt ve : VT} (ht : E.ty.get t = some vt) (hd : vt.d = .slice e) (hv : E.ty.get e = some ve) (hs : ve.size = sz) (h : SlV m ty sz v els) {n : Nat} (hn : n ≤ els.length) :
    ∃ v', sliceOp E t v none (some n) none = some v' ∧ SlV m ty sz v' (els.take n) := by
  have he := h.each
  have he' : ∀ x ∈ els.take n, x.length = sz := fun x hx => he x (List.mem_of_mem_take hx)
  have hln : (els.take n).length = n := by rw [List.length_take]; omega
  obtain ⟨d, s1, s2, s3, s4⟩ := vt
  simp only at hd
  subst hd
  cases h with
  | nil s =>
    simp only [List.length_nil, Nat.le_zero] at hn
    subst hn
    exact ⟨.nil s, by simp [sliceOp, ht, hv, cut, nbeq], by simp; exact .nil s⟩
  | imm _ _ =>
    by_cases h0 : n = 0
    · subst h0
      refine ⟨.imm [] 0, ?_, by simp; exact .imm [] (fun _ h => by cases h)⟩
      simp [sliceOp, ht, hv, hs, cutImm, nbeq, nble, flat_len he]
    · refine ⟨.imm (els.take n).flatten (els.take n).length, ?_, .imm _ he'⟩
      simp only [sliceOp, ht, hv, hs, cutImm, nbeq, nble, hn, flat_len he, h0, Option.getD_some, Option.getD_none, Option.isSome_none, Option.isNone_some, Bool.false_and, cond_false, decide_true, Bool.and_self, cond_true, decide_false, Nat.le_refl, Nat.zero_le, Nat.sub_zero, Nat.zero_mul, List.drop_zero, hln, Bool.and_false]
      rw [flat_take n he]
  | ref b ext off lo ex B _ _ hb hty hl hc hlo =>
    have hnlo : n ≤ lo := by omega
    have hR : SlV m ty sz (.ref b ext off (els.take n).length lo ex sz) (els.take n) := by
      refine .ref b ext off lo ex B _ he' hb hty hl ?_ (by omega)
      rw [hln, ← flat_take n he, ← hc, ← take_drop_take _ _ _ _ (Nat.mul_le_mul_right _ hn)]
    by_cases h0 : lo = 0
    · have h1 : n = 0 := by omega
      subst h1
      cases ex with
      | true => exact ⟨.nil false, by simp [sliceOp, ht, hv, hs, cut, nbeq, nble, h0], by simp; exact .nil false⟩
      | false => exact ⟨.imm [] 0, by simp [sliceOp, ht, hv, hs, cut, nbeq, nble, h0], by simp; exact .imm [] (fun _ h => by cases h)⟩
    · refine ⟨_, ?_, hR⟩
      simp [sliceOp, ht, hv, hs, cut, nbeq, nble, hnlo, h0, hln]
end

/-! ### A slice that is appended to -/
def refBlk : AVal → Option Nat
  | .ref b .. => some b
  | _ => none

def GrowV (m : Mem) (ty sz : Nat) (v : AVal) (els : List (List AVal)) : Prop :=
  (∀ x ∈ els, x.length = sz) ∧ ((els = [] ∧ v = .nil true) ∨ (∃ b, v = .ref b (els.length * sz) 0 els.length els.length false sz ∧ m.at b ⟨ty, els.flatten, 0⟩))

section
variable {m m' : Mem} {ty sz : Nat} {v : AVal} {els : List (List AVal)}

theorem GrowV.nil (m : Mem) (ty sz : Nat) : GrowV m ty sz (.nil true) [] := ⟨fun _ h => (by cases h), .inl ⟨rfl, rfl⟩⟩

theorem GrowV.sl (h : GrowV m ty sz v els) : SlV m ty sz v els := by
  obtain ⟨he, ⟨rfl, rfl⟩ | ⟨b, rfl, hb⟩⟩ := h
  · exact .nil true
  · exact .ref b _ 0 _ false _ els he hb rfl (flat_len he) (by rw [List.drop_zero, List.take_of_length_le (by rw [flat_len he]; exact Nat.le_refl _)]) (Nat.le_refl _)

theorem GrowV.keep (h : GrowV m ty sz v els) (hk : ∀ b B, refBlk v = some b → m.at b B → m'.at b B) : GrowV m' ty sz v els := by
  obtain ⟨he, h1 | ⟨b, rfl, hb⟩⟩ := h
  · exact ⟨he, .inl h1⟩
  · exact ⟨he, .inr ⟨b, rfl, hk b _ rfl hb⟩⟩

theorem GrowV.fr {S : TypeId → Bool} {k : Nat} (hF : Fr S m m' k) (hS : S ty = false) (h : GrowV m ty sz v els) : GrowV m' ty sz v els := by
  obtain ⟨he, h1 | ⟨b, rfl, hb⟩⟩ := h
  · exact ⟨he, .inl h1⟩
  · exact ⟨he, .inr ⟨b, rfl, hF.keep b _ hb hS⟩⟩

/-- More elements. -/
theorem GrowV.append {ve : VT} (hs : ve.size = sz) (hpos : 0 < sz) (h : GrowV m ty sz v els) {xs : List (List AVal)} (hx : ∀ x ∈ xs, x.length = sz) (hm : m.next < 1048576) (hl : els.length + xs.length ≤ 1048576) :
    ∃ v' m', appendTo m ty ve v xs.length xs.flatten = some (v', m') ∧ GrowV m' ty sz v' (els ++ xs) ∧ m.next ≤ m'.next ∧ m'.next ≤ m.next + 1 ∧ (∀ b B, m.at b B → refBlk v ≠ some b → m'.at b B) ∧ (refBlk v' = refBlk v ∨ refBlk v' = some m.next) := by
  obtain ⟨he, h⟩ := h
  have hex : ∀ x ∈ els ++ xs, x.length = sz := fun x hx' => by
    rcases List.mem_append.1 hx' with h | h
    · exact he x h
    · exact hx x h
  by_cases h0 : xs.length = 0
  · obtain rfl : xs = [] := List.length_eq_zero_iff.1 h0
    refine ⟨v, m, ?_, by rw [List.append_nil]; exact ⟨he, h⟩, Nat.le_refl _, Nat.le_succ _, fun _ _ h _ => h, .inl rfl⟩
    rcases h with ⟨rfl, rfl⟩ | ⟨b, rfl, hb⟩
    · simp [appendTo, nbeq]
    · simp [appendTo, nbeq]
  · rcases h with ⟨rfl, rfl⟩ | ⟨b, rfl, hb⟩
    · refine ⟨.ref m.next (xs.length * sz) 0 xs.length xs.length false sz, m.add ⟨ty, xs.flatten, 0⟩, ?_, ⟨hex, .inr ⟨m.next, rfl, at_add_self m _ hm⟩⟩, Nat.le_succ _, Nat.le_refl _, fun _ _ h _ => at_add _ hm h, .inr rfl⟩
      simp only [List.length_nil, Nat.zero_add] at hl
      simp [appendTo, nbeq, nble, nblt, h0, hl, hm, hs]
    · have hn : m.next ≤ 1048576 := Nat.le_of_lt hm
      refine ⟨.ref b ((els.length + xs.length) * sz) 0 (els.length + xs.length) (els.length + xs.length) false sz, m.upd b ⟨ty, els.flatten ++ xs.flatten, 0⟩, ?_, ⟨hex, .inr ⟨b, by rw [List.length_append], ?_⟩⟩, Nat.le_refl _, Nat.le_succ _, fun x B hx hne => at_upd hb hn hx (fun e => hne (by rw [e]; rfl)) _, .inl rfl⟩
      · have hno : ¬ els.length + xs.length ≤ els.length := by omega
        simp [appendTo, nbeq, nble, h0, hs, hl, hno, hb.2, flat_len he]
      · rw [List.flatten_append]; exact at_upd_self hb hn _
end

section
variable {m m' : Mem} {ty sz : Nat} {v : AVal} {els : List (List AVal)}
theorem GrowV.notblk (h : GrowV m ty sz v els) {b : Nat} {B : Block} (hb : m.at b B) (ht : B.ty ≠ ty) : refBlk v ≠ some b := by
  obtain ⟨_, ⟨rfl, rfl⟩ | ⟨c, rfl, hc⟩⟩ := h
  · intro e; cases e
  · intro e
    cases e
    have := hb.2.symm.trans hc.2
    cases this
    exact ht rfl
theorem GrowV.frame (h : GrowV m ty sz v els) {S : TypeId → Bool} (hS : S ty = true) (h1 : m.next ≤ m'.next) (h2 : m'.next ≤ m.next + 1) (h3 : ∀ b B, m.at b B → refBlk v ≠ some b → m'.at b B) : Fr S m m' 1 :=
  ⟨h1, h2, fun b B hb hB => h3 b B hb (h.notblk hb (by intro e; rw [e, hS] at hB; cases hB))⟩
/-- A block of another type is written. -/
theorem GrowV.upd (h : GrowV m ty sz v els) (hn : m.next ≤ 1048576) {b : Nat} {B : Block} (hb : m.at b B) (ht : B.ty ≠ ty) (D : Block) : GrowV (m.upd b D) ty sz v els :=
  h.keep fun c C hc hC => at_upd hb hn hC (by rintro rfl; exact h.notblk hb ht hc) D
theorem GrowV.add (h : GrowV m ty sz v els) (hn : m.next < 1048576) (D : Block) : GrowV (m.add D) ty sz v els :=
  h.keep fun c C _ hC => at_add D hn hC
end

/-- What an append may be of. -/
def appendOk (ve : VT) : Bool := Nat.blt 0 ve.size && Nat.blt 0 ve.bytes && Nat.ble ve.bytes 65536 && Nat.beq ve.zero.length ve.size

section
variable {E : Env} {st : St} {R : St → Prop}
theorem run_append {n : Nat} {ops : List Oper} {o : Oper} {args : Array Operand} {tys : Array TypeId} {s x : Operand} {t e k : Nat} {ts : List TypeId} {vt ve : VT} {cs : List AVal} {v' : AVal} {m' : Mem} {s' : St}
    (hw : wanted ops st o = some true) (hop : o.op = .call ⟨.builtin .append, args, tys⟩) (ha : args.toList = [s, x]) (hty : tys.toList = t :: ts) (ht : E.ty.get t = some vt) (hd : vt.d = .slice e) (he : E.ty.get e = some ve) (hb : appendOk ve = true)
    (hk : appended E st.mem ve ts.head? (st.ev x) = some (k, cs)) (hap : appendTo st.mem e ve (st.ev s) k cs = some (v', m')) (hp : St.put { st with mem := m' } o.dst v' = some s') : runOp E (call E n) ops st o = some s' := by
  obtain ⟨d, s1, s2, s3, s4⟩ := vt
  simp only at hd
  subst hd
  unfold appendOk at hb
  unfold runOp
  rw [hw, hop]
  have e1 : isHeavy (.call ⟨.builtin .append, args, tys⟩) = true := rfl
  have e2 : heavy E (call E n) st.mem st.ev (.call ⟨.builtin .append, args, tys⟩) = some (v', m') := by
    simp only [heavy, ha, hty, ht, he, hb, cond_true, hk, Option.bind_some, hap]
  simp only [e1, cond_true, e2, hp]
theorem vops_append {ops : List Oper} {o : Oper} {l : List Oper} {args : Array Operand} {tys : Array TypeId} {s x : Operand} {t e k : Nat} {ts : List TypeId} {vt ve : VT} {cs : List AVal} {v' : AVal} {m' : Mem}
    (hw : wanted ops st o = some true) (hop : o.op = .call ⟨.builtin .append, args, tys⟩) (ha : args.toList = [s, x]) (hty : tys.toList = t :: ts) (ht : E.ty.get t = some vt) (hd : vt.d = .slice e) (he : E.ty.get e = some ve) (hb : appendOk ve = true)
    (hk : appended E st.mem ve ts.head? (st.ev x) = some (k, cs)) (hap : appendTo st.mem e ve (st.ev s) k cs = some (v', m')) (h : ∃ s', St.put { st with mem := m' } o.dst v' = some s' ∧ vops E ops l R s') : vops E ops (o :: l) R st := by
  obtain ⟨s', h1, h2⟩ := h
  exact vops_cons (n := 0) (run_append hw hop ha hty ht hd he hb hk hap h1) h2 (by rw [hop]; rfl)
theorem vpl_append {ops : List Oper} {j : Nat} {o : Oper} {l : List RStep} {args : Array Operand} {tys : Array TypeId} {s x : Operand} {t e k : Nat} {ts : List TypeId} {vt ve : VT} {cs : List AVal} {v' : AVal} {m' : Mem}
    (hj : ops[j]? = some o) (hw : wanted ops st o = some true) (hop : o.op = .call ⟨.builtin .append, args, tys⟩) (ha : args.toList = [s, x]) (hty : tys.toList = t :: ts) (ht : E.ty.get t = some vt) (hd : vt.d = .slice e) (he : E.ty.get e = some ve) (hb : appendOk ve = true)
    (hk : appended E st.mem ve ts.head? (st.ev x) = some (k, cs)) (hap : appendTo st.mem e ve (st.ev s) k cs = some (v', m')) (h : ∃ s', St.put { st with mem := m' } o.dst v' = some s' ∧ vpl E ops l R s') : vpl E ops (.run j :: l) R st := by
  obtain ⟨s', h1, h2⟩ := h
  exact vpl_run (n := 0) hj (run_append hw hop ha hty ht hd he hb hk hap h1) h2
theorem run_load {n : Nat} {ops : List Oper} {o : Oper} {t : TypeId} {x : Operand} {vt : VT} {cs : List AVal} {v : AVal} {s' : St}
    (hw : wanted ops st o = some true) (hop : o.op = .load t x) (ht : E.ty.get t = some vt) (hr : readCells st.mem (st.ev x) vt.size = some cs) (hm : mkVal vt cs = some v) (hp : St.put st o.dst v = some s') : runOp E (call E n) ops st o = some s' := by
  unfold runOp
  rw [hw, hop]
  have e1 : isHeavy (.load t x) = false := rfl
  simp only [e1, cond_false, light, ht, hr, Option.bind_some, hm, Option.map_some, hp]
theorem vops_load {ops : List Oper} {o : Oper} {l : List Oper} {t : TypeId} {x : Operand} {vt : VT} {cs : List AVal} {v : AVal}
    (hw : wanted ops st o = some true) (hop : o.op = .load t x) (ht : E.ty.get t = some vt) (hr : readCells st.mem (st.ev x) vt.size = some cs) (hm : mkVal vt cs = some v) (h : ∃ s', St.put st o.dst v = some s' ∧ vops E ops l R s') : vops E ops (o :: l) R st := by
  obtain ⟨s', h1, h2⟩ := h
  exact vops_cons (n := 0) (run_load hw hop ht hr hm h1) h2 (by rw [hop]; rfl)
theorem vpl_load {ops : List Oper} {j : Nat} {o : Oper} {l : List RStep} {t : TypeId} {x : Operand} {vt : VT} {cs : List AVal} {v : AVal}
    (hj : ops[j]? = some o) (hw : wanted ops st o = some true) (hop : o.op = .load t x) (ht : E.ty.get t = some vt) (hr : readCells st.mem (st.ev x) vt.size = some cs) (hm : mkVal vt cs = some v) (h : ∃ s', St.put st o.dst v = some s' ∧ vpl E ops l R s') : vpl E ops (.run j :: l) R st := by
  obtain ⟨s', h1, h2⟩ := h
  exact vpl_run (n := 0) hj (run_load hw hop ht hr hm h1) h2
theorem run_valS {n : Nat} {ops : List Oper} {o : Oper} {v : AVal} {s' : St} (hw : wanted ops st o = some true) (hh : isHeavy o.op = false) (hv : light E st.mem st.ev o.op = some (.val v)) (hp : St.put st o.dst v = some s') : runOp E (call E n) ops st o = some s' := by
  unfold runOp
  rw [hw]
  simp only [hh, cond_false, hv, hp]
theorem vops_val {ops : List Oper} {o : Oper} {l : List Oper} {v : AVal} (hw : wanted ops st o = some true) (hh : isHeavy o.op = false) (hv : light E st.mem st.ev o.op = some (.val v)) (h : ∃ s', St.put st o.dst v = some s' ∧ vops E ops l R s') (hc : isComm o.op = false := by rfl) : vops E ops (o :: l) R st := by
  obtain ⟨s', h1, h2⟩ := h
  exact vops_cons (n := 0) (run_valS hw hh hv h1) h2 hc
theorem vpl_val {ops : List Oper} {j : Nat} {o : Oper} {l : List RStep} {v : AVal} (hj : ops[j]? = some o) (hw : wanted ops st o = some true) (hh : isHeavy o.op = false) (hv : light E st.mem st.ev o.op = some (.val v)) (h : ∃ s', St.put st o.dst v = some s' ∧ vpl E ops l R s') : vpl E ops (.run j :: l) R st := by
  obtain ⟨s', h1, h2⟩ := h
  exact vpl_run (n := 0) hj (run_valS hw hh hv h1) h2
end

/-! ### What is new may be written -/
theorem Fr.updNew {S : TypeId → Bool} {m mm : Mem} {k b : Nat} {B : Block} (h : Fr S m mm k) (hb : mm.at b B) (hn : mm.next ≤ 1048576) (hnew : m.next ≤ b) (D : Block) : Fr S m (mm.upd b D) k :=
  ⟨h.up, h.most, fun x C hx hC => at_upd hb hn (h.keep x C hx hC) (by have := hx.1; omega) D⟩
def NewR (m : Mem) (v : AVal) : Prop := ∀ b, refBlk v = some b → m.next ≤ b
theorem Fr.growNew {S : TypeId → Bool} {m mm m' : Mem} {k : Nat} {v : AVal} (h : Fr S m mm k) (h1 : mm.next ≤ m'.next) (h2 : m'.next ≤ mm.next + 1) (h3 : ∀ b B, mm.at b B → refBlk v ≠ some b → m'.at b B) (hv : NewR m v) : Fr S m m' (k + 1) :=
  ⟨Nat.le_trans h.up h1, by have := h.most; omega, fun x C hx hC => h3 x C (h.keep x C hx hC) (fun e => by have := hv x e; have := hx.1; omega)⟩
theorem NewR.grow {S : TypeId → Bool} {m mm : Mem} {k : Nat} {v v' : AVal} (h : Fr S m mm k) (hv : NewR m v) (h' : refBlk v' = refBlk v ∨ refBlk v' = some mm.next) : NewR m v' := by
  intro b hb
  rcases h' with h' | h'
  · exact hv b (by rw [← h', hb])
  · rw [hb] at h'; cases h'; exact h.up
theorem NewR.nil (m : Mem) (s : Bool) : NewR m (.nil s) := fun b h => by cases h
theorem GrowV.same {m : Mem} {ty sz : Nat} {v : AVal} {els : List (List AVal)} (h : GrowV m ty sz v els) : AVal.same v v = true := by
  obtain ⟨_, ⟨_, rfl⟩ | ⟨b, rfl, _⟩⟩ := h <;> simp [AVal.same, nbeq]
end Go.V
