/-
  What is asked of a table of types and of functions, as Bools.
-/
import Derived.Test.YtdmaodpmfbgcaaaGreatVSound
namespace Go.V

def vdSame : VD → VD → Bool
  | .bool, .bool => true
  | .int k, .int l => decide (k = l)
  | .str, .str => true
  | .pointer a, .pointer b => Nat.beq a b
  | .slice a, .slice b => Nat.beq a b
  | .array n a, .array m b => Nat.beq n m && Nat.beq a b
  | .struct l, .struct k => go l k
  | .func, .func => true
  | .other, .other => true
  | _, _ => false
where
  go : List (TypeId × Nat) → List (TypeId × Nat) → Bool
    | [], [] => true
    | (a, b) :: l, (c, d) :: k => Nat.beq a c && Nat.beq b d && go l k
    | _, _ => false

theorem vdSame.go_ok : ∀ {l k : List (TypeId × Nat)}, vdSame.go l k = true → l = k
  | [], [], _ => rfl
  | [], _ :: _, h => by simp [vdSame.go] at h
  | _ :: _, [], h => by simp [vdSame.go] at h
  | (a, b) :: l, (c, d) :: k, h => by
    simp only [vdSame.go, Bool.and_eq_true, nbeq, decide_eq_true_eq] at h
    rw [h.1.1, h.1.2, vdSame.go_ok h.2]

theorem vdSame_ok {a b : VD} (h : vdSame a b = true) : a = b := by
  cases a <;> cases b <;> simp [vdSame, nbeq] at h <;> first | rfl | (simp [h]; done) | (rw [vdSame.go_ok h])

def cellSame (a b : AVal) : Bool :=
  match a, b with
  | .any, .any => true
  | a, b => AVal.same a b

theorem cellSame_ok {a b : AVal} (h : cellSame a b = true) : a = b := by
  unfold cellSame at h
  split at h
  · rfl
  · exact AVal.same_ok _ _ h

def cellsSame : List AVal → List Value → Bool
  | [], [] => true
  | a :: as, v :: vs => cellSame a (ofConst1 v) && cellsSame as vs
  | _, _ => false

theorem cellsSame_ok : ∀ {as : List AVal} {vs : List Value}, cellsSame as vs = true → as = vs.map ofConst1
  | [], [], _ => rfl
  | [], _ :: _, h => by simp [cellsSame] at h
  | _ :: _, [], h => by simp [cellsSame] at h
  | a :: as, v :: vs, h => by
    simp only [cellsSame, Bool.and_eq_true] at h
    rw [List.map_cons, ← cellSame_ok h.1, ← cellsSame_ok h.2]

def fkSame : FK → FK → Bool
  | .b, .b | .i, .i | .s, .s => true
  | _, _ => false

def fksSame : Option (List FK) → Option (List FK) → Bool
  | none, none => true
  | some l, some k => go l k
  | _, _ => false
where
  go : List FK → List FK → Bool
    | [], [] => true
    | x :: l, y :: k => fkSame x y && go l k
    | _, _ => false

theorem fksSame.go_ok : ∀ {l k : List FK}, fksSame.go l k = true → l = k
  | [], [], _ => rfl
  | [], _ :: _, h => by simp [fksSame.go] at h
  | _ :: _, [], h => by simp [fksSame.go] at h
  | x :: l, y :: k, h => by
    simp only [fksSame.go, Bool.and_eq_true] at h
    rw [fksSame.go_ok h.2]
    have h1 := h.1
    cases x <;> cases y <;> simp [fkSame] at h1 <;> rfl

theorem fksSame_ok {a b : Option (List FK)} (h : fksSame a b = true) : a = b := by
  cases a <;> cases b <;> simp [fksSame] at h <;> first | rfl | rw [fksSame.go_ok h]

def tyOkB (P : Program) (t : TypeId) (vt : VT) : Bool :=
  match P.info? t, P.underlying t with
  | some i, some d => match i.zero with
    | some z => vdSame vt.d (vdOf d) && Nat.beq vt.size i.size && Nat.beq vt.bytes i.bytes && cellsSame vt.zero z.cells.toList && fksSame vt.eq (eqOf P t) && z.cells.toList.all (·.oneCell') &&
      (match d with
       | .struct gs => gs.toList.all fun g => (P.info? g.type).isSome
       | _ => true)
    | none => false
  | _, _ => false

theorem tyOkB_ok {P : Program} {t : TypeId} {vt : VT} (h : tyOkB P t vt = true) : ∃ i d z, TyOk P t vt i d z := by
  unfold tyOkB at h
  split at h
  · rename_i i d hi hd
    split at h
    · rename_i z hz
      simp only [Bool.and_eq_true, nbeq, decide_eq_true_eq, List.all_eq_true] at h
      obtain ⟨⟨⟨⟨⟨⟨h1, h2⟩, h3⟩, h4⟩, h5⟩, h6⟩, h7⟩ := h
      refine ⟨i, d, z, fun gs hgs g hg => ?_, hi, hd, hz, vdSame_ok h1, h2, h3, cellsSame_ok h4, fksSame_ok h5, h6⟩
      subst hgs
      simp only [List.all_eq_true] at h7
      exact Option.isSome_iff_exists.1 (h7 g hg)
    · cases h
  · cases h

def fnOkB (pl : T (List RStep)) (fns : T Func) (i : Nat) : Bool :=
  match fns.get i with
  | some fn => (fn.name != "runtime.NumGoroutine") && (match fn.body with
    | some c => goodC pl i c
    | none => true)
  | none => true

theorem EnvOk.of_checks {E : Env} {Γ0 : Ctx} (hd : ∀ b, ¬ Γ0.dom b) (ho : OrcOk E Γ0) (hm : E.P.follows .mixedOrders = true) (ht : T.allp (tyOkB E.P) 1 0 E.ty = true)
    (hf : ∀ f fn, E.fns.get f = some fn → E.P.funcs[f]? = some fn ∧ fnOkB E.plans E.fns f = true) : EnvOk E Γ0 := by
  refine ⟨hd, ho, fun t vt h => ?_, fun f fn h => ?_, hm⟩
  · have := T.allp_get _ _ _ _ _ _ ht h
    simp only [Nat.one_mul, Nat.add_zero] at this
    exact tyOkB_ok this
  · obtain ⟨h1, h2⟩ := hf f fn h
    simp only [fnOkB, h, Bool.and_eq_true, bne_iff_ne] at h2
    refine ⟨h1, h2.1, fun c hc => ?_⟩
    have := h2.2
    rw [hc] at this
    exact this

theorem same_at {fns : T Func} {fs : Array Func} {l : List Nat} (h : l.map (fun i => fns.get i) = l.map (fun i => fs[i]?)) {i : Nat} (hi : i ∈ l) : fns.get i = fs[i]? := by
  have := List.map_inj_left.1 h
  exact this i hi

theorem fnOkB_at {pl : T (List RStep)} {fns : T Func} {a n i : Nat} (h : (List.range' a n).all (fnOkB pl fns) = true) (h1 : a ≤ i) (h2 : i < a + n) : fnOkB pl fns i = true :=
  List.all_eq_true.1 h i (List.mem_range'_1.2 ⟨h1, h2⟩)
end Go.V
