/-
  Numbers, texts and scripts as bytes, and back: plain facts, with no program in sight.
-/
import Derived.Tactics
namespace Go.SC

/-! ### Numbers -/
def zig (v : Int) : Nat := if 0 ≤ v then (2 * v).toNat else (-2 * v - 1).toNat
def unzig (u : Nat) : Int := if u % 2 = 0 then ((u / 2 : Nat) : Int) else -((u / 2 : Nat) : Int) - 1

theorem unzig_zig (v : Int) : unzig (zig v) = v := by
  unfold zig unzig
  split <;> split <;> omega
theorem zig_unzig (u : Nat) : zig (unzig u) = u := by
  unfold zig unzig
  split <;> split <;> omega
theorem zig_lt {v : Int} (h1 : -9223372036854775808 ≤ v) (h2 : v ≤ 9223372036854775807) : zig v < 18446744073709551616 := by
  unfold zig; split <;> omega

def enc7 (u : Nat) : List UInt8 := if u < 128 then [UInt8.ofNat u] else UInt8.ofNat (u % 128 + 128) :: enc7 (u / 128)
termination_by u
decreasing_by omega

theorem enc7_lt {u : Nat} (h : u < 128) : enc7 u = [UInt8.ofNat u] := by rw [enc7, if_pos h]
theorem enc7_ge {u : Nat} (h : 128 ≤ u) : enc7 u = UInt8.ofNat (u % 128 + 128) :: enc7 (u / 128) := by rw [enc7, if_neg (by omega)]

def numB (v : Int) : List UInt8 := enc7 (zig v)
def txtB (s : List UInt8) : List UInt8 := numB s.length ++ s

/-- The number that digits stand for. -/
def val : List UInt8 → Nat
  | [] => 0
  | d :: ds => d.toNat % 128 + 128 * val ds

/-- Bytes up to the first that is below 128, and the rest. -/
def split : List UInt8 → Option (List UInt8 × List UInt8)
  | [] => none
  | d :: ds => if d.toNat < 128 then some ([d], ds) else (split ds).map fun (a, b) => (d :: a, b)

def raw (b : List UInt8) : Option (Nat × List UInt8) :=
  match split b with
  | none => none
  | some (ds, r) => if ds = enc7 (val ds) ∧ val ds < 18446744073709551616 then some (val ds, r) else none

theorem toNat_ofNat {n : Nat} (h : n < 256) : (UInt8.ofNat n).toNat = n := by
  rw [UInt8.toNat_ofNat']; omega

theorem val_enc7 (u : Nat) : val (enc7 u) = u := by
  induction u using Nat.strongRecOn with
  | _ u ih =>
    by_cases h : u < 128
    · rw [enc7_lt h]
      simp only [val]
      rw [toNat_ofNat (by omega)]; omega
    · rw [enc7_ge (by omega)]
      simp only [val]
      rw [toNat_ofNat (by omega), ih (u / 128) (by omega)]; omega

theorem split_enc7 (u : Nat) (r : List UInt8) : split (enc7 u ++ r) = some (enc7 u, r) := by
  induction u using Nat.strongRecOn with
  | _ u ih =>
    by_cases h : u < 128
    · rw [enc7_lt h]
      show split (UInt8.ofNat u :: r) = _
      rw [split, if_pos (by rw [toNat_ofNat (by omega)]; exact h)]
    · rw [enc7_ge (by omega)]
      show split (UInt8.ofNat (u % 128 + 128) :: (enc7 (u / 128) ++ r)) = _
      rw [split, if_neg (by rw [toNat_ofNat (by omega)]; omega), ih (u / 128) (by omega)]
      rfl

theorem raw_enc7 {u : Nat} (h : u < 18446744073709551616) (r : List UInt8) : raw (enc7 u ++ r) = some (u, r) := by
  unfold raw
  rw [split_enc7]
  simp only [val_enc7, h, and_self, if_true]

theorem split_append : ∀ {b ds r : List UInt8}, split b = some (ds, r) → b = ds ++ r
  | [], _, _, h => by cases h
  | d :: b, ds, r, h => by
    rw [split] at h
    split at h
    · cases h; rfl
    · cases hs : split b with
      | none => rw [hs] at h; cases h
      | some p =>
        obtain ⟨x, y⟩ := p
        rw [hs] at h
        cases h
        rw [split_append hs]; rfl

theorem raw_some {b : List UInt8} {u : Nat} {r : List UInt8} (h : raw b = some (u, r)) : b = enc7 u ++ r ∧ u < 18446744073709551616 := by
  unfold raw at h
  split at h
  · cases h
  · rename_i ds r' hs
    split at h
    · rename_i hc
      cases h
      rw [split_append hs]
      exact ⟨by rw [← hc.1], hc.2⟩
    · cases h

/-! ### What is taken -/
abbrev IS := Option (List UInt8)

def dNum (most : Int) : IS → Int × IS
  | none => (0, none)
  | some b => match raw b with
    | none => (0, none)
    | some (u, r) => if most < 0 ∨ most < unzig u ∨ unzig u < -most then (0, none) else (unzig u, some r)

def dText (most : Int) (i : IS) : List UInt8 × IS :=
  match dNum most i with
  | (_, none) => ([], none)
  | (n, some b) => if n < 0 ∨ (b.length : Int) < n then ([], none) else (b.take n.toNat, some (b.drop n.toNat))

def dCount (most : Int) (i : IS) : Nat × IS :=
  let x := dNum most i
  if x.1 < 0 then (0, none) else (x.1.toNat, x.2)

def dTexts : Nat → IS → List (List UInt8) × IS
  | 0, i => ([], i)
  | n + 1, i =>
    let x := dText 30 i
    let y := dTexts n x.2
    (x.1 :: y.1, y.2)

structure LStep where
  kind : Int
  a : Int
  n : Int
  n2 : Int
  who : UInt8
  path : List (List UInt8)
  act : Int
  s : List UInt8
  num : Int

structure LScript where
  c : Int
  s : Int
  cap : Int
  steps : List LStep

def mostN : Int := 2147483647
def mostInc : Int := 1099511627776

def dStep (i : IS) : LStep × IS :=
  let k := dNum mostN i
  let a := dNum mostN k.2
  let n := dNum mostN a.2
  let n2 := dNum mostN n.2
  let w := dCount 255 n2.2
  let c := dCount 3 w.2
  let p := dTexts c.1 c.2
  let act := dNum mostN p.2
  let s := dText 30 act.2
  let num := dNum mostInc s.2
  (⟨k.1, a.1, n.1, n2.1, UInt8.ofNat w.1, p.1, act.1, s.1, num.1⟩, num.2)

def dSteps : Nat → IS → List LStep × IS
  | 0, i => ([], i)
  | n + 1, i =>
    let x := dStep i
    let y := dSteps n x.2
    (x.1 :: y.1, y.2)

def dScriptI (i : IS) : LScript × IS :=
  let c := dNum mostN i
  let s := dNum mostN c.2
  let cap := dNum mostN s.2
  let n := dCount 200 cap.2
  let l := dSteps n.1 n.2
  (⟨c.1, s.1, cap.1, l.1⟩, l.2)

def dScript (b : List UInt8) : Option LScript :=
  match dScriptI (some b) with
  | (x, some []) => some x
  | _ => none

/-! ### As bytes -/
def stepB (x : LStep) : List UInt8 :=
  numB x.kind ++ (numB x.a ++ (numB x.n ++ (numB x.n2 ++ (numB x.who.toNat ++ (numB x.path.length ++ ((x.path.map txtB).flatten ++ (numB x.act ++ (txtB x.s ++ numB x.num))))))))
def scriptB (x : LScript) : List UInt8 :=
  numB x.c ++ (numB x.s ++ (numB x.cap ++ (numB x.steps.length ++ (x.steps.map stepB).flatten)))

def small (n : Int) : Prop := -mostN ≤ n ∧ n ≤ mostN
instance (n : Int) : Decidable (small n) := by unfold small; infer_instance
structure StepOk (x : LStep) : Prop where
  kind : small x.kind
  a : small x.a
  n : small x.n
  n2 : small x.n2
  act : small x.act
  path : x.path.length ≤ 3
  texts : ∀ t ∈ x.path, t.length ≤ 30
  s : x.s.length ≤ 30
  num : -mostInc ≤ x.num ∧ x.num ≤ mostInc
structure ScriptOk (x : LScript) : Prop where
  c : small x.c
  s : small x.s
  cap : small x.cap
  len : x.steps.length ≤ 200
  steps : ∀ y ∈ x.steps, StepOk y

theorem pe {α β : Type} {p : α × β} {r : β} (h : p.2 = r) : p = (p.1, r) := by subst h; rfl

/-! ### What is put is taken again -/
theorem dNum_numB {v most : Int} (h1 : -most ≤ v) (h2 : v ≤ most) (hm : most ≤ 9223372036854775807) (r : List UInt8) : dNum most (some (numB v ++ r)) = (v, some r) := by
  unfold dNum numB
  simp only
  rw [raw_enc7 (zig_lt (by omega) (by omega))]
  simp only [unzig_zig]
  rw [if_neg (by omega)]

theorem dText_txtB {s : List UInt8} {most : Int} (h : (s.length : Int) ≤ most) (hm : most ≤ 9223372036854775807) (r : List UInt8) : dText most (some (txtB s ++ r)) = (s, some r) := by
  unfold dText txtB
  rw [List.append_assoc, dNum_numB (by omega) h hm]
  simp only
  rw [if_neg (by simp only [List.length_append]; omega)]
  simp

theorem dCount_numB {n : Nat} {most : Int} (h : (n : Int) ≤ most) (hm : most ≤ 9223372036854775807) (r : List UInt8) : dCount most (some (numB n ++ r)) = (n, some r) := by
  unfold dCount
  rw [dNum_numB (by omega) h hm]
  simp only
  rw [if_neg (by omega)]
  simp

theorem dTexts_put : ∀ (l : List (List UInt8)) (r : List UInt8), (∀ t ∈ l, t.length ≤ 30) → dTexts l.length (some ((l.map txtB).flatten ++ r)) = (l, some r)
  | [], _, _ => rfl
  | t :: l, r, h => by
    simp only [List.length_cons, dTexts, List.map_cons, List.flatten_cons, List.append_assoc]
    rw [dText_txtB (by have := h t (List.mem_cons_self ..); omega) (by omega)]
    simp only
    rw [dTexts_put l r fun x hx => h x (List.mem_cons_of_mem _ hx)]

theorem dStep_put {x : LStep} (h : StepOk x) (r : List UInt8) : dStep (some (stepB x ++ r)) = (x, some r) := by
  unfold dStep stepB
  have hw := x.who.toNat_lt
  have e : mostN = 2147483647 := rfl
  have e' : mostInc = 1099511627776 := rfl
  simp only [List.append_assoc]
  rw [dNum_numB h.kind.1 h.kind.2 (by decide)]
  simp only
  rw [dNum_numB h.a.1 h.a.2 (by decide)]
  simp only
  rw [dNum_numB h.n.1 h.n.2 (by decide)]
  simp only
  rw [dNum_numB h.n2.1 h.n2.2 (by decide)]
  simp only
  rw [dCount_numB (by omega) (by omega)]
  simp only
  rw [dCount_numB (by have := h.path; omega) (by omega)]
  simp only
  rw [dTexts_put _ _ h.texts]
  simp only
  rw [dNum_numB h.act.1 h.act.2 (by decide)]
  simp only
  rw [dText_txtB (by have := h.s; omega) (by omega)]
  simp only
  rw [dNum_numB h.num.1 h.num.2 (by decide)]
  simp

theorem dSteps_put : ∀ (l : List LStep) (r : List UInt8), (∀ y ∈ l, StepOk y) → dSteps l.length (some ((l.map stepB).flatten ++ r)) = (l, some r)
  | [], _, _ => rfl
  | t :: l, r, h => by
    simp only [List.length_cons, dSteps, List.map_cons, List.flatten_cons, List.append_assoc]
    rw [dStep_put (h t (List.mem_cons_self ..))]
    simp only
    rw [dSteps_put l r fun x hx => h x (List.mem_cons_of_mem _ hx)]

theorem dScript_put {x : LScript} (h : ScriptOk x) : dScript (scriptB x) = some x := by
  unfold dScript dScriptI scriptB
  have e : mostN = 2147483647 := rfl
  rw [dNum_numB h.c.1 h.c.2 (by decide)]
  simp only
  rw [dNum_numB h.s.1 h.s.2 (by decide)]
  simp only
  rw [dNum_numB h.cap.1 h.cap.2 (by decide)]
  simp only
  rw [dCount_numB (by have := h.len; omega) (by omega)]
  simp only
  have := dSteps_put x.steps [] h.steps
  rw [List.append_nil] at this
  rw [this]

/-! ### What is taken was put so -/
theorem dNum_some {most v : Int} {i : IS} {r : List UInt8} (h : dNum most i = (v, some r)) : i = some (numB v ++ r) ∧ -most ≤ v ∧ v ≤ most ∧ -9223372036854775808 ≤ v ∧ v ≤ 9223372036854775807 := by
  unfold dNum at h
  split at h
  · cases h
  · rename_i b
    split at h
    · cases h
    · rename_i u r' hr
      split at h
      · cases h
      · cases h
        obtain ⟨h1, h2⟩ := raw_some hr
        refine ⟨by rw [h1]; unfold numB; rw [zig_unzig], by omega, by omega, ?_, ?_⟩ <;> (unfold unzig; split <;> omega)

theorem dText_some {most : Int} {i : IS} {s r : List UInt8} (h : dText most i = (s, some r)) : i = some (txtB s ++ r) ∧ (s.length : Int) ≤ most := by
  unfold dText at h
  split at h
  · cases h
  · rename_i n b hn
    split at h
    · cases h
    · rename_i hc
      cases h
      obtain ⟨h1, h2, h3, _⟩ := dNum_some hn
      have hl : (b.take n.toNat).length = n.toNat := by rw [List.length_take]; omega
      refine ⟨?_, by rw [hl]; omega⟩
      unfold txtB
      rw [hl, List.append_assoc, List.take_append_drop, h1, show ((n.toNat : Nat) : Int) = n by omega]

theorem dCount_some {most : Int} {i : IS} {n : Nat} {r : List UInt8} (h : dCount most i = (n, some r)) : i = some (numB n ++ r) ∧ (n : Int) ≤ most := by
  unfold dCount at h
  simp only at h
  split at h
  · cases h
  · rename_i hc
    simp only [Prod.mk.injEq] at h
    obtain ⟨h1, h2⟩ := h
    obtain ⟨k1, k2, k3, _⟩ := dNum_some (v := (dNum most i).1) (r := r) (i := i) (most := most) (by rw [← h2])
    have : ((n : Nat) : Int) = (dNum most i).1 := by omega
    rw [this]
    exact ⟨k1, k3⟩

theorem dTexts_some : ∀ {n : Nat} {i : IS} {l : List (List UInt8)} {r : List UInt8}, dTexts n i = (l, some r) → i = some ((l.map txtB).flatten ++ r) ∧ l.length = n ∧ ∀ t ∈ l, t.length ≤ 30
  | 0, i, l, r, h => by cases h; exact ⟨rfl, rfl, fun t ht => by cases ht⟩
  | n + 1, i, l, r, h => by
    simp only [dTexts, Prod.mk.injEq] at h
    obtain ⟨rfl, h2⟩ := h
    obtain ⟨k1, k2, k3⟩ := dTexts_some (n := n) (i := (dText 30 i).2) (pe h2)
    obtain ⟨j1, j2⟩ := dText_some (i := i) (s := (dText 30 i).1) (most := 30) (pe k1)
    refine ⟨?_, by simp [k2], fun t ht => ?_⟩
    · rw [List.map_cons, List.flatten_cons, List.append_assoc]; exact j1
    · rcases List.mem_cons.1 ht with rfl | ht
      · omega
      · exact k3 t ht

theorem dStep_some {i : IS} {x : LStep} {r : List UInt8} (h : dStep i = (x, some r)) : i = some (stepB x ++ r) ∧ StepOk x := by
  simp only [dStep, Prod.mk.injEq] at h
  obtain ⟨rfl, h2⟩ := h
  obtain ⟨a10, b10, c10, _⟩ := dNum_some (pe h2)
  obtain ⟨a9, b9⟩ := dText_some (pe a10)
  obtain ⟨a8, b8, c8, _⟩ := dNum_some (pe a9)
  obtain ⟨a7, b7, c7⟩ := dTexts_some (pe a8)
  obtain ⟨a6, b6⟩ := dCount_some (pe a7)
  obtain ⟨a5, b5⟩ := dCount_some (pe a6)
  obtain ⟨a4, b4, c4, _⟩ := dNum_some (pe a5)
  obtain ⟨a3, b3, c3, _⟩ := dNum_some (pe a4)
  obtain ⟨a2, b2, c2, _⟩ := dNum_some (pe a3)
  obtain ⟨a1, b1, c1, _⟩ := dNum_some (pe a2)
  refine ⟨?_, ⟨⟨b1, c1⟩, ⟨b2, c2⟩, ⟨b3, c3⟩, ⟨b4, c4⟩, ⟨b8, c8⟩, by simp only; omega, c7, by simp only; omega, ⟨b10, c10⟩⟩⟩
  unfold stepB
  simp only [List.append_assoc]
  rw [toNat_ofNat (by omega), b7]
  exact a1

theorem dSteps_some : ∀ {n : Nat} {i : IS} {l : List LStep} {r : List UInt8}, dSteps n i = (l, some r) → i = some ((l.map stepB).flatten ++ r) ∧ l.length = n ∧ ∀ t ∈ l, StepOk t
  | 0, i, l, r, h => by cases h; exact ⟨rfl, rfl, fun t ht => by cases ht⟩
  | n + 1, i, l, r, h => by
    simp only [dSteps, Prod.mk.injEq] at h
    obtain ⟨rfl, h2⟩ := h
    obtain ⟨k1, k2, k3⟩ := dSteps_some (n := n) (i := (dStep i).2) (pe h2)
    obtain ⟨j1, j2⟩ := dStep_some (i := i) (x := (dStep i).1) (pe k1)
    refine ⟨?_, by simp [k2], fun t ht => ?_⟩
    · rw [List.map_cons, List.flatten_cons, List.append_assoc]; exact j1
    · rcases List.mem_cons.1 ht with rfl | ht
      · exact j2
      · exact k3 t ht

theorem dScript_some {b : List UInt8} {x : LScript} (h : dScript b = some x) : b = scriptB x ∧ ScriptOk x := by
  unfold dScript at h
  split at h
  · rename_i y hy
    cases h
    simp only [dScriptI, Prod.mk.injEq] at hy
    obtain ⟨rfl, h2⟩ := hy
    obtain ⟨a5, b5, c5⟩ := dSteps_some (pe h2)
    obtain ⟨a4, b4⟩ := dCount_some (pe a5)
    obtain ⟨a3, b3, c3, _⟩ := dNum_some (pe a4)
    obtain ⟨a2, b2, c2, _⟩ := dNum_some (pe a3)
    obtain ⟨a1, b1, c1, _⟩ := dNum_some (pe a2)
    refine ⟨?_, ⟨⟨b1, c1⟩, ⟨b2, c2⟩, ⟨b3, c3⟩, by simp only; omega, c5⟩⟩
    unfold scriptB
    rw [List.append_nil] at a1
    simp only [b5]
    exact Option.some.inj a1
  · cases h
end Go.SC
