/-
  Calls, walked on the abstract machine.
-/
import Derived.Test.YtdmaodpmfbgcaaaGreatVWalk
namespace Go.V
section
variable {E : Env}

theorem vcall.mono {f : FuncId} {args : List AVal} {m : Mem} {Q Q' : AVal → Mem → Prop} (h : vcall E f args m Q) (hQ : ∀ v m', Q v m' → Q' v m') : vcall E f args m Q' := by
  obtain ⟨n, v, m', h1, h2⟩ := h; exact ⟨n, v, m', h1, hQ _ _ h2⟩

theorem vops_call {st : St} {ops : List Oper} {o : Oper} {l : List Oper} {R : St → Prop} {g : FuncId} {args : Array Operand} {tys : Array TypeId} (hw : wanted ops st o = some true) (hop : o.op = .call ⟨.value (.func g), args, tys⟩)
    {avs : List AVal} (ha : args.toList.map st.ev = avs) (h : vcall E g avs st.mem fun v m' => ∃ s', St.put { st with mem := m' } o.dst v = some s' ∧ vops E ops l R s') : vops E ops (o :: l) R st := by
  obtain ⟨n, v, m', h1, s', h2, h3⟩ := h
  refine vops_cons (n := n) (s := s') ?_ h3
  unfold runOp
  rw [hw, hop]
  have e1 : isHeavy (.call ⟨.value (.func g), args, tys⟩) = true := rfl
  have e2 : heavy E (call E n) st.mem st.ev (.call ⟨.value (.func g), args, tys⟩) = some (v, m') := by
    have : st.ev (.func g) = .fn g [] [] := rfl
    simp only [heavy, this, List.nil_append, List.append_nil, ha, h1]
  simp only [e1, cond_true, e2, h2]

theorem vcall_body {f : FuncId} {fn : Func} {c : Code} {args : List AVal} {m : Mem} {Q : AVal → Mem → Prop} (ho : E.orc f args = none) (hf : E.fns.get f = some fn) (hb : fn.body = some c) (hl : args.length ≤ fn.ntmps) (hn : fn.ntmps ≤ 256)
    (h : vwp E c (fun ex st => (ex = .normal ∨ ex = .ret) ∧ ∃ vs, resultVals E st fn.results.toList = some vs ∧ Q (oneOr vs) st.mem) ⟨f, fn.ntmps, argSlots 0 args Slots.nil, m⟩) : vcall E f args m Q := by
  obtain ⟨n, ex, st, h1, h2, vs, h3, h4⟩ := h
  refine ⟨n, oneOr vs, st.mem, ?_, h4⟩
  show callF E (exec E n) f args m = _
  unfold callF
  simp only [ho, hf, hb, nble, hl, hn, decide_true, Bool.and_self, cond_true, h1]
  rcases h2 with rfl | rfl <;> simp only [h3, Option.map_some]

/-- Memory has grown by so many blocks at most; what was there is as it was. -/
structure Grew (m m' : Mem) (k : Nat) : Prop where
  up : m.next ≤ m'.next
  most : m'.next ≤ m.next + k
  keep : ∀ b, b < m.next → m'.get b = m.get b

theorem Grew.refl (m : Mem) : Grew m m 0 := ⟨Nat.le_refl _, Nat.le_refl _, fun _ _ => rfl⟩
theorem Grew.trans {a b c : Mem} {j k l : Nat} (h : Grew a b j) (h' : Grew b c k) (hl : j + k ≤ l) : Grew a c l :=
  ⟨Nat.le_trans h.up h'.up, by have := h.most; have := h'.most; omega, fun x hx => (h'.keep x (by have := h.up; omega)).trans (h.keep x hx)⟩
theorem Grew.mono {a b : Mem} {j k : Nat} (h : Grew a b j) (hk : j ≤ k) : Grew a b k := ⟨h.up, by have := h.most; omega, h.keep⟩
theorem Grew.add (m : Mem) (blk : Block) (h : m.next < 65536) : Grew m (m.add blk) 1 :=
  ⟨Nat.le_succ _, Nat.le_refl _, fun b hb => by rw [get_add m blk h, if_neg (by omega)]⟩
theorem get_add_self (m : Mem) (blk : Block) (h : m.next < 65536) : (m.add blk).get m.next = some blk := by rw [get_add m blk h, if_pos rfl]
theorem next_add (m : Mem) (blk : Block) : (m.add blk).next = m.next + 1 := rfl
end
end Go.V
