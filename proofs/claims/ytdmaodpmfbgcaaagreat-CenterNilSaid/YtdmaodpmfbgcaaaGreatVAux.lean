/-
  Helpers for regions that draw their order.
-/
import Derived.Test.YtdmaodpmfbgcaaaGreatVPlanDef
namespace Go.V
section
variable {E : Env} {m m' : Mem} {ρ ρ' : Operand → AVal} {call : CallFn}

theorem map_congr_ops (l : List Operand) (h : ∀ x ∈ l, ρ x = ρ' x) : l.map ρ = l.map ρ' := List.map_congr_left h

theorem optNat_congr {x : Option Operand} (h : ∀ y ∈ x.toArray.toList, ρ y = ρ' y) : optNat ρ x = optNat ρ' x := by
  cases x with
  | none => rfl
  | some x => simp [optNat, h x (by simp)]

theorem parts_congr (ps : Array (Nat × Operand)) (h : ∀ y ∈ (ps.toList.map (·.2)), ρ y = ρ' y) : (ps.toList.map fun (i, x) => (i, ρ x)) = ps.toList.map fun (i, x) => (i, ρ' x) := by
  apply List.map_congr_left
  intro ⟨i, x⟩ hx
  simp [h x (List.mem_map.2 ⟨(i, x), hx, rfl⟩)]

theorem light_congr {op : Op} (h : ∀ x ∈ op.operands.toList, ρ x = ρ' x) : light E m ρ op = light E m ρ' op := by
  cases op <;> try (simp only [light]; done)
  case move x => simp [light, h x (by simp [Op.operands])]
  case assign x => simp [light, h x (by simp [Op.operands])]
  case pick c a b => simp [light, h c (by simp [Op.operands]), h a (by simp [Op.operands]), h b (by simp [Op.operands])]
  case box t x => simp [light, h x (by simp [Op.operands])]
  case build t ps => simp only [light]; rw [parts_congr ps (fun y hy => h y (by simpa [Op.operands] using hy))]
  case buildSlice t n ps => simp only [light]; rw [parts_congr ps (fun y hy => h y (by simpa [Op.operands] using hy))]
  case load t x => simp [light, h x (by simp [Op.operands])]
  case nilCheck x => simp [light, h x (by simp [Op.operands])]
  case binOp op xT x y yT => simp [light, h x (by simp [Op.operands]), h y (by simp [Op.operands])]
  case unOp op xT x => simp [light, h x (by simp [Op.operands])]
  case convert s d x => simp [light, h x (by simp [Op.operands])]
  case makeFunc f first captured =>
    have e1 := map_congr_ops first.toList (fun x hx => h x (by simp [Op.operands]; left; simpa using hx))
    have e2 := map_congr_ops captured.toList (fun x hx => h x (by simp [Op.operands]; right; simpa using hx))
    cases f <;> simp [light, e1, e2]
  case makeSlice t l c => simp [light, h l (by simp [Op.operands]), h c (by simp [Op.operands])]
  case slice t x lo hi mx =>
    simp only [light]
    rw [optNat_congr (x := lo) (fun y hy => h y (by simp [Op.operands] at hy ⊢; simp [hy])), optNat_congr (x := hi) (fun y hy => h y (by simp [Op.operands] at hy ⊢; simp [hy])),
      optNat_congr (x := mx) (fun y hy => h y (by simp [Op.operands] at hy ⊢; simp [hy])), h x (by simp [Op.operands])]
  case fieldAddr t x f => simp [light, h x (by simp [Op.operands])]
  case field t x f => simp [light, h x (by simp [Op.operands])]
  case indexAddr t x ix => simp [light, h x (by simp [Op.operands]), h ix (by simp [Op.operands])]
  case index t x ix => simp [light, h x (by simp [Op.operands]), h ix (by simp [Op.operands])]
  case extract x i => simp [light, h x (by simp [Op.operands])]
  case call c =>
    obtain ⟨callee, args, argTypes⟩ := c
    cases callee with
    | value f => simp [light]
    | invoke r n => simp [light]
    | builtin b =>
      have e1 := map_congr_ops args.toList (fun x hx => h x (by simpa [Op.operands, Call.operands] using hx))
      cases b <;> simp only [light] <;> try rw [e1]
      all_goals
        split
        · rename_i x t hx ht
          rw [h x (by simp [Op.operands, Call.operands]; rw [← Array.mem_toList_iff, hx]; simp)]
        · rfl

theorem heavy_congr {op : Op} (h : ∀ x ∈ op.operands.toList, ρ x = ρ' x) : heavy E call m ρ op = heavy E call m ρ' op := by
  cases op <;> try (simp only [heavy]; done)
  case store t a x => simp [heavy, h a (by simp [Op.operands]), h x (by simp [Op.operands])]
  case call c =>
    obtain ⟨callee, args, argTypes⟩ := c
    cases callee with
    | invoke r n => simp [heavy]
    | value f =>
      have e1 := map_congr_ops args.toList (fun x hx => h x (by simp [Op.operands, Call.operands]; right; simpa using hx))
      simp only [heavy]
      rw [e1, h f (by simp [Op.operands, Call.operands])]
    | builtin b =>
      have hm : ∀ x ∈ args.toList, ρ x = ρ' x := fun x hx => h x (by simpa [Op.operands, Call.operands] using hx)
      cases b <;> simp only [heavy]
      case append =>
        split
        · rename_i s x t ts hx ht
          rw [hm s (by rw [hx]; simp), hm x (by rw [hx]; simp)]
        · rfl
      case copy =>
        split
        · rename_i d s t ts hx ht
          rw [hm s (by rw [hx]; simp), hm d (by rw [hx]; simp)]
        · rfl
      case clear =>
        split
        · rename_i x t ts hx ht
          rw [hm x (by rw [hx]; simp)]
        · rfl

/-- What no load does hangs not on memory. -/
theorem light_still {op : Op} (h : isLoad op = false) : light E m ρ op = light E m' ρ op := by
  cases op <;> first
    | (simp [isLoad] at h; done)
    | (simp only [light]; done)
    | skip
  case makeFunc f _ _ => cases f <;> simp [light]
  case call c =>
    obtain ⟨callee, args, argTypes⟩ := c
    cases callee with
    | value f => simp [light]
    | invoke r n => simp [light]
    | builtin b => cases b <;> simp only [light]
end

/-! ### What must come ahead -/
def Closed (ops : List Oper) (T : Nat → Prop) : Prop := ∀ (j : Nat) (o : Oper), T j → ops[j]? = some o → ∀ d ∈ deps o, T d

theorem ancsFrom_ok (ops : List Oper) (T : Nat → Prop) (hT : Closed ops T) : ∀ (l : List Oper) (acc : List (List Nat)), (∀ j o, l[j]? = some o → ops[acc.length + j]? = some o) →
    (∀ j i L, acc[j]? = some L → i ∈ L → T j → T i) → ∀ j i L, (ancsFrom l acc)[j]? = some L → i ∈ L → T j → T i
  | [], acc, _, h, j, i, L, hj, hi, ht => h j i L hj hi ht
  | o :: l, acc, hl, h, j, i, L, hj, hi, ht => by
    simp only [ancsFrom] at hj
    refine ancsFrom_ok ops T hT l _ (fun j o' hj' => ?_) (fun j i L hj hi ht => ?_) j i L hj hi ht
    · have := hl (j + 1) o' (by simpa using hj')
      simpa [Nat.add_assoc, Nat.add_comm 1 j] using this
    · rw [List.getElem?_append] at hj
      split at hj
      · exact h j i L hj hi ht
      · rename_i hge
        by_cases e : j = acc.length
        · subst e
          simp only [Nat.sub_self, List.getElem?_cons_zero, Option.some.injEq] at hj
          subst hj
          simp only [List.mem_filter, List.any_eq_true, Bool.or_eq_true, nbeq, decide_eq_true_eq] at hi
          obtain ⟨_, d, hd, hor⟩ := hi
          have htd := hT acc.length o ht (by have := hl 0 o rfl; simpa using this) d hd
          rcases hor with rfl | hc
          · exact htd
          · cases hdl : acc[d]? with
            | none => simp [hdl] at hc
            | some L' =>
              simp only [hdl, Option.getD_some, List.contains_iff_mem] at hc
              exact h d i L' hdl hc htd
        · rw [List.getElem?_cons, if_neg (by omega)] at hj
          simp at hj

theorem isAnc_ok {ops : List Oper} {T : Nat → Prop} (hT : Closed ops T) {i j : Nat} (h : isAnc (ancs ops) i j = true) (ht : T j) : T i := by
  unfold isAnc at h
  cases hl : (ancs ops)[j]? with
  | none => simp [hl] at h
  | some L =>
    simp only [hl, Option.getD_some, List.contains_iff_mem] at h
    exact ancsFrom_ok ops T hT ops [] (fun j o hj => by simpa using hj) (fun j i L hj => by simp at hj) j i L hl h ht

/-! ### There is a way -/
theorem Oper.wp_exists {P : Program} {o : Oper} {a : Act} {w : World} {K : Act → World → Prop} (h : o.wp P a w K fun _ _ _ => False) : ∃ a' w', K a' w' := by
  unfold Oper.wp at h
  generalize (execOp a.eval o).run P w = r at h
  cases r with
  | ok n w' =>
    cases n <;> simp only [Oper.upon] at h
    case value v => exact ⟨_, _, h⟩
    case skip => exact ⟨_, _, h⟩
    case defer d => exact ⟨_, _, h⟩
    case enter f args =>
      obtain ⟨e, w'', _, hR, _⟩ := h []
      cases e with
      | returned v => exact ⟨_, _, hR⟩
      | panicked c => exact hR.elim
      | outgrown => obtain ⟨_, _, hR⟩ := hR; exact hR.elim
    case row r args =>
      obtain ⟨v, w'', hR, _⟩ := h default []
      exact ⟨_, _, hR⟩
  | halt x w' => cases x <;> simp only [Oper.upon] at h

theorem runOp_exists {E : Env} {call : CallFn} {w : World} {Γ0 Γ : Ctx} {st st' : St} {a : Act} (hT : TysOk E) (hC : CallOk E Γ0 call) (ops : List Oper) {o : Oper} (h : runOp E call ops st o = some st') (hs : StR Γ0 Γ st a w) :
    ∃ Δ a' w', Γ.le Δ ∧ StR Γ0 Δ st' a' w' := by
  have := runOp_wp hT hC ops (K := fun a' w' => ∃ Δ, Γ.le Δ ∧ StR Γ0 Δ st' a' w') (Q := fun _ _ _ => False) h hs (fun Δ a' w' k1 _ k3 => ⟨Δ, k1, k3⟩)
  split at this
  · obtain ⟨a', w', Δ, h1, h2⟩ := Oper.wp_exists this
    exact ⟨Δ, a', w', h1, h2⟩
  · obtain ⟨Δ, h1, h2⟩ := this
    exact ⟨Δ, _, w, h1, h2⟩

/-! ### Only what is below a number -/
def Ctx.below (Γ : Ctx) (N : Nat) : Ctx := { Γ with dom := fun b => Γ.dom b ∧ b < N }

mutual
theorem VR.below {Γ Δ : Ctx} {N : Nat} (h : ∀ b, Δ.dom b → b < N) : ∀ (x : AVal) (v u : Value), VR Γ x v → VR Δ x u → VR (Γ.below N) x v
  | .any, _, _, _, _ => by simp [VR]
  | .bool b, v, _, hv, _ => by simpa [VR] using hv
  | .int k n, v, _, hv, _ => by simpa [VR] using hv
  | .str s, v, _, hv, _ => by simpa [VR] using hv
  | .nilp, v, _, hv, _ => by simpa [VR] using hv
  | .ptr b ext off, v, u, hv, hu => by
    simp only [VR] at hv hu ⊢
    obtain ⟨a, rfl, hb, hk⟩ := hv
    obtain ⟨_, _, hb', _⟩ := hu
    exact ⟨a, rfl, ⟨hb, h b hb'⟩, hk⟩
  | .iptr cells, v, u, hv, hu => by
    simp only [VR] at hv hu ⊢
    obtain ⟨a, rfl, hs, hr⟩ := hv
    obtain ⟨a', _, _, hr'⟩ := hu
    exact ⟨a, rfl, hs, roRel.below h cells _ _ _ _ hr hr'⟩
  | .nil s, v, _, hv, _ => by simpa [VR] using hv
  | .ref b ext off n lo exact sz, v, u, hv, hu => by
    simp only [VR] at hv hu ⊢
    obtain ⟨a, c, rfl, h1, h2, h3, hb, hk⟩ := hv
    obtain ⟨_, _, _, _, _, _, hb', _⟩ := hu
    exact ⟨a, c, rfl, h1, h2, h3, ⟨hb, h b hb'⟩, hk⟩
  | .imm cells n, v, u, hv, hu => by
    simp only [VR] at hv hu ⊢
    obtain ⟨a, c, rfl, h1, h2⟩ := hv
    obtain ⟨a', c', _, _, h2'⟩ := hu
    refine ⟨a, c, rfl, h1, fun hc => ?_⟩
    obtain ⟨ad, ha, hs, hr⟩ := h2 hc
    obtain ⟨ad', _, _, hr'⟩ := h2' hc
    exact ⟨ad, ha, hs, roRel.below h cells _ _ _ _ hr hr'⟩
  | .nilf, v, _, hv, _ => by simpa [VR] using hv
  | .fn f xs ys, v, u, hv, hu => by
    simp only [VR] at hv hu ⊢
    obtain ⟨us, vs, rfl, h1, h2⟩ := hv
    obtain ⟨us', vs', _, h1', h2'⟩ := hu
    exact ⟨us, vs, rfl, VRs.below h xs _ _ h1 h1', VRs.below h ys _ _ h2 h2'⟩
  | .agg cs, v, u, hv, hu => by
    simp only [VR] at hv hu ⊢
    obtain ⟨us, rfl, h1, h2⟩ := hv
    obtain ⟨us', _, h1', _⟩ := hu
    exact ⟨us, rfl, VRs.below h cs _ _ h1 h1', h2⟩
  | .tup cs, v, u, hv, hu => by
    simp only [VR] at hv hu ⊢
    obtain ⟨us, rfl, h1⟩ := hv
    obtain ⟨us', _, h1'⟩ := hu
    exact ⟨us, rfl, VRs.below h cs _ _ h1 h1'⟩
  | .opq q, v, _, hv, _ => by simpa [VR, Ctx.below] using hv
theorem VRs.below {Γ Δ : Ctx} {N : Nat} (h : ∀ b, Δ.dom b → b < N) : ∀ (xs : List AVal) (vs us : List Value), VRs Γ xs vs → VRs Δ xs us → VRs (Γ.below N) xs vs
  | [], vs, us, hv, _ => by simpa [VRs] using hv
  | x :: xs, l, k, hv, hu => by
    simp only [VRs] at hv hu ⊢
    obtain ⟨v, vs, rfl, h1, h2⟩ := hv
    obtain ⟨u, us, rfl, h1', h2'⟩ := hu
    exact ⟨v, vs, rfl, VR.below h x v u h1 h1', VRs.below h xs vs us h2 h2'⟩
theorem roRel.below {Γ Δ : Ctx} {N : Nat} (h : ∀ b, Δ.dom b → b < N) : ∀ (cs : List AVal) (b o b' o' : Nat), roRel Γ cs b o → roRel Δ cs b' o' → roRel (Γ.below N) cs b o
  | [], _, _, _, _, _, _ => by simp [roRel]
  | c :: cs, b, o, b', o', hv, hu => by
    simp only [roRel] at hv hu ⊢
    obtain ⟨⟨v, h1, h2, h3⟩, h4⟩ := hv
    obtain ⟨⟨v', _, h2', _⟩, h4'⟩ := hu
    exact ⟨⟨v, h1, VR.below h c v v' h2 h2', h3⟩, roRel.below h cs b (o + 1) b' (o' + 1) h4 h4'⟩
end
end Go.V
