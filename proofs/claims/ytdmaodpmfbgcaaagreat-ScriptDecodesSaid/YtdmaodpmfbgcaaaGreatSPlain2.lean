/-
  How the two texts take a number off bytes, digit by digit: plain facts.
-/
import Derived.Test.YtdmaodpmfbgcaaaGreatSPlain
namespace Go.SC

/-- The program's loop. -/
def rawL : Nat → Nat → List UInt8 → Option (Nat × List UInt8)
  | _, _, [] => none
  | k, u, c :: r => if 10 ≤ k ∨ (k = 9 ∧ 1 < c.toNat) then none else
      if c.toNat < 128 then (if c.toNat = 0 ∧ 0 < k then none else some (u + c.toNat % 128 * 2 ^ (7 * k), r)) else rawL (k + 1) (u + c.toNat % 128 * 2 ^ (7 * k)) r

/-- Is the last digit not nought. -/
def tail0 : List UInt8 → Bool
  | [] => false
  | [d] => d.toNat != 0
  | _ :: ds => tail0 ds

theorem tail0_val : ∀ {ds : List UInt8} {b r : List UInt8}, split b = some (ds, r) → tail0 ds = true → 1 ≤ val ds
  | [], b, r, h, h0 => by cases h0
  | [d], b, r, h, h0 => by
    cases b with
    | nil => cases h
    | cons c b =>
      rw [split] at h
      split at h
      · cases h
        simp only [tail0, bne_iff_ne, ne_eq] at h0
        simp only [val]; omega
      · cases hs : split b with
        | none => rw [hs] at h; cases h
        | some p =>
          obtain ⟨x, y⟩ := p
          rw [hs] at h
          cases h
          cases b with
          | nil => cases hs
          | cons e b =>
            rw [split] at hs
            split at hs
            · cases hs
            · cases hs' : split b with
              | none => rw [hs'] at hs; cases hs
              | some p => rw [hs'] at hs; cases hs
  | d :: e :: ds, b, r, h, h0 => by
    cases b with
    | nil => cases h
    | cons c b =>
      rw [split] at h
      split at h
      · cases h
      · cases hs : split b with
        | none => rw [hs] at h; cases h
        | some p =>
          obtain ⟨x, y⟩ := p
          rw [hs] at h
          cases h
          have := tail0_val hs h0
          simp only [val] at this ⊢; omega

theorem tail0_cons {d : UInt8} {ds b r : List UInt8} (h : split b = some (ds, r)) : tail0 (d :: ds) = tail0 ds := by
  cases ds with
  | nil =>
    cases b with
    | nil => cases h
    | cons c b =>
      rw [split] at h
      split at h
      · cases h
      · cases hs : split b with
        | none => rw [hs] at h; cases h
        | some p => rw [hs] at h; cases h
  | cons e ds => rfl

theorem enc7_len_pos (u : Nat) : enc7 u ≠ [] := by
  rw [enc7]; split <;> exact List.cons_ne_nil _ _

/-- Digits are a number's own just if the last one isn't nought, or they are one. -/
theorem enc7_val : ∀ {b ds r : List UInt8}, split b = some (ds, r) → (ds = enc7 (val ds) ↔ (ds.length = 1 ∨ tail0 ds = true))
  | [], _, _, h => by cases h
  | c :: b, ds, r, h => by
    rw [split] at h
    split at h
    · rename_i hc
      cases h
      simp only [val, List.length_singleton, true_or, iff_true]
      rw [enc7_lt (by omega)]
      congr
      apply UInt8.toNat_inj.1
      rw [toNat_ofNat (by omega)]; omega
    · rename_i hc
      cases hs : split b with
      | none => rw [hs] at h; cases h
      | some p =>
        obtain ⟨x, y⟩ := p
        rw [hs] at h
        cases h
        have ih := enc7_val hs
        have hx : x ≠ [] := by
          intro e; subst e
          have := tail0_cons (d := c) hs
          cases b with
          | nil => cases hs
          | cons e b =>
            rw [split] at hs
            split at hs
            · cases hs
            · cases hs' : split b with
              | none => rw [hs'] at hs; cases hs
              | some p => rw [hs'] at hs; cases hs
        have hl : (c :: x).length ≠ 1 := by
          cases x with
          | nil => exact absurd rfl hx
          | cons _ _ => simp
        rw [tail0_cons hs]
        simp only [hl, false_or]
        have hlt := c.toNat_lt
        constructor
        · intro he
          by_cases h1 : val x = 0
          · simp only [val, h1, Nat.mul_zero, Nat.add_zero] at he
            rw [enc7_lt (by omega)] at he
            exact absurd (List.cons.inj he).2 hx
          · simp only [val] at he
            rw [enc7_ge (by omega)] at he
            have e2 : x = enc7 (val x) := by
              have := (List.cons.inj he).2
              rw [show (c.toNat % 128 + 128 * val x) / 128 = val x by omega] at this
              exact this
            rcases ih.1 e2 with h2 | h2
            · cases x with
              | nil => exact absurd rfl hx
              | cons e t =>
                cases t with
                | nil =>
                  simp only [tail0, bne_iff_ne, ne_eq]
                  intro h0
                  apply h1
                  simp only [val, h0]
                | cons _ _ => simp at h2
            · exact h2
        · intro h0
          have hv := tail0_val hs h0
          have e2 := ih.2 (.inr h0)
          simp only [val]
          rw [enc7_ge (by omega)]
          rw [show (c.toNat % 128 + 128 * val x) / 128 = val x by omega, ← e2]
          congr
          apply UInt8.toNat_inj.1
          rw [toNat_ofNat (by omega)]; omega

theorem pow7 (k : Nat) : 2 ^ (7 * (k + 1)) = 128 * 2 ^ (7 * k) := by
  rw [Nat.mul_add, Nat.pow_add, Nat.mul_comm]

theorem big_mul {a : Nat} (h : 1 ≤ a) {k : Nat} (hk : 10 ≤ k) : 18446744073709551616 ≤ a * 2 ^ (7 * k) := by
  have h1 : 2 ^ 70 ≤ 2 ^ (7 * k) := Nat.pow_le_pow_right (by decide) (by omega)
  have h2 : 1 * 2 ^ (7 * k) ≤ a * 2 ^ (7 * k) := Nat.mul_le_mul_right _ h
  have : (18446744073709551616 : Nat) ≤ 2 ^ 70 := by decide
  omega

theorem rawL_eq : ∀ (b : List UInt8) (k u : Nat), k ≤ 10 → rawL k u b = match split b with
    | none => none
    | some (ds, r) => if val ds * 2 ^ (7 * k) < 18446744073709551616 ∧ ((k = 0 ∧ ds.length = 1) ∨ tail0 ds = true) then some (u + val ds * 2 ^ (7 * k), r) else none
  | [], _, _, _ => rfl
  | c :: b, k, u, hk10 => by
    rw [rawL, split]
    have hlt := c.toNat_lt
    by_cases hc : c.toNat < 128
    · rw [if_pos hc, if_pos hc]
      simp only [val, Nat.mul_zero, Nat.add_zero, List.length_singleton, and_true, tail0, bne_iff_ne, ne_eq]
      have e : c.toNat % 128 = c.toNat := by omega
      rw [e]
      by_cases h1 : 10 ≤ k ∨ (k = 9 ∧ 1 < c.toNat)
      · rw [if_pos h1]
        split
        · rename_i h2
          exfalso
          rcases h1 with h1 | ⟨rfl, h1⟩
          · rcases h2.2 with h3 | h3
            · omega
            · have := big_mul (a := c.toNat) (by omega) h1; omega
          · have h4 := h2.1
            omega
        · rfl
      · rw [if_neg h1]
        by_cases h2 : c.toNat = 0 ∧ 0 < k
        · rw [if_pos h2, if_neg (by rintro ⟨_, h3 | h3⟩ <;> omega)]
        · rw [if_neg h2, if_pos]
          refine ⟨?_, by omega⟩
          have hk : k ≤ 8 ∨ k = 9 := by omega
          rcases hk with hk | rfl
          · have p : 2 ^ (7 * k) ≤ 2 ^ (7 * 8) := Nat.pow_le_pow_right (by decide) (by omega)
            have q : c.toNat * 2 ^ (7 * k) ≤ 127 * 2 ^ (7 * 8) := Nat.mul_le_mul (by omega) p
            have : (127 : Nat) * 2 ^ (7 * 8) < 18446744073709551616 := by decide
            omega
          · have : c.toNat ≤ 1 := by omega
            have h5 := Nat.mul_le_mul_right (2 ^ (7 * 9)) this
            exact Nat.lt_of_le_of_lt h5 (by decide)
    · rw [if_neg hc, if_neg hc]
      by_cases h1 : 10 ≤ k ∨ (k = 9 ∧ 1 < c.toNat)
      · rw [if_pos h1]
        cases hs : split b with
        | none => rfl
        | some p =>
          obtain ⟨ds, r⟩ := p
          simp only [Option.map_some]
          rw [if_neg]
          rintro ⟨h2, h3⟩
          have hl : tail0 ds = true := by
            rcases h3 with ⟨_, h4⟩ | h3
            · have : ds = [] := by
                cases ds with
                | nil => rfl
                | cons _ _ => simp at h4
              omega
            · rwa [tail0_cons hs] at h3
          have hv := tail0_val hs hl
          simp only [val] at h2
          rcases h1 with h1 | ⟨rfl, h1⟩
          · have := big_mul (a := c.toNat % 128 + 128 * val ds) (by omega) h1; omega
          · omega
      · rw [if_neg h1, rawL_eq b (k + 1) _ (by omega)]
        cases hs : split b with
        | none => rfl
        | some p =>
          obtain ⟨ds, r⟩ := p
          simp only [Option.map_some]
          have hk8 : k ≤ 8 := by omega
          rw [tail0_cons hs]
          have e2 : ¬ (k + 1 = 0 ∧ ds.length = 1) := by omega
          have e3 : ¬ (k = 0 ∧ (c :: ds).length = 1) := by
            rintro ⟨_, h⟩
            cases ds with
            | nil =>
              have := tail0_cons (d := c) hs
              cases b with
              | nil => cases hs
              | cons e b =>
                rw [split] at hs
                split at hs
                · cases hs
                · cases hs' : split b with
                  | none => rw [hs'] at hs; cases hs
                  | some p => rw [hs'] at hs; cases hs
            | cons _ _ => simp at h
          simp only [e2, e3, false_or]
          have e4 : (c.toNat % 128 + 128 * val ds) * 2 ^ (7 * k) = c.toNat % 128 * 2 ^ (7 * k) + val ds * 2 ^ (7 * (k + 1)) := by
            rw [Nat.add_mul, pow7]
            congr 1
            rw [Nat.mul_comm 128 (val ds), Nat.mul_assoc]
          have e5 : val ds * 2 ^ (7 * (k + 1)) < 18446744073709551616 ↔ val (c :: ds) * 2 ^ (7 * k) < 18446744073709551616 := by
            simp only [val]
            rw [e4]
            have hd : c.toNat % 128 * 2 ^ (7 * k) < 2 ^ (7 * (k + 1)) := by
              rw [pow7]; exact Nat.mul_lt_mul_of_pos_right (by omega) (Nat.pow_pos (by decide))
            have hm : (18446744073709551616 : Nat) = 2 ^ (64 - 7 * (k + 1)) * 2 ^ (7 * (k + 1)) := by
              rw [← Nat.pow_add, show 64 - 7 * (k + 1) + 7 * (k + 1) = 64 by omega]
            constructor
            · intro h
              rw [hm] at h ⊢
              have h' := Nat.lt_of_mul_lt_mul_right h
              have : (val ds + 1) * 2 ^ (7 * (k + 1)) ≤ 2 ^ (64 - 7 * (k + 1)) * 2 ^ (7 * (k + 1)) := Nat.mul_le_mul_right _ h'
              rw [Nat.add_mul, Nat.one_mul] at this
              omega
            · intro h; omega
          rw [show (val (c :: ds)) = c.toNat % 128 + 128 * val ds from rfl] at *
          by_cases h7 : val ds * 2 ^ (7 * (k + 1)) < 18446744073709551616 ∧ tail0 ds = true
          · rw [if_pos h7, if_pos ⟨e5.1 h7.1, h7.2⟩, e4, Nat.add_assoc]
          · rw [if_neg h7, if_neg (fun h => h7 ⟨e5.2 h.1, h.2⟩)]

theorem rawL_raw (b : List UInt8) : rawL 0 0 b = raw b := by
  rw [rawL_eq b 0 0 (by decide)]
  unfold raw
  cases hs : split b with
  | none => rfl
  | some p =>
    obtain ⟨ds, r⟩ := p
    simp only [Nat.mul_zero, Nat.pow_zero, Nat.mul_one, Nat.zero_add, true_and]
    have := enc7_val hs
    by_cases h1 : val ds < 18446744073709551616
    · by_cases h2 : ds = enc7 (val ds)
      · rw [if_pos ⟨h1, this.1 h2⟩, if_pos ⟨h2, h1⟩]
      · rw [if_neg (fun h => h2 (this.2 h.2)), if_neg (fun h => h2 h.1)]
    · rw [if_neg (fun h => h1 h.1), if_neg (fun h => h1 h.2)]

/-! ### The reference's loop: the number, how many bytes, all of 64 bits -/
def takeL : Nat → Nat → List UInt8 → Option (Nat × Nat)
  | _, _, [] => none
  | k, u, c :: r => if 9 < k then none else
      if c.toNat < 128 then some ((u + c.toNat % 128 * 2 ^ (7 * k)) % 18446744073709551616, k + 1) else takeL (k + 1) ((u + c.toNat % 128 * 2 ^ (7 * k)) % 18446744073709551616) r

theorem takeL_eq : ∀ (b : List UInt8) (k u : Nat), takeL k u b = match split b with
    | none => none
    | some (ds, _) => if k + ds.length ≤ 10 then some ((u + val ds * 2 ^ (7 * k)) % 18446744073709551616, k + ds.length) else none
  | [], _, _ => rfl
  | c :: b, k, u => by
    rw [takeL, split]
    by_cases hc : c.toNat < 128
    · rw [if_pos hc, if_pos hc]
      simp only [val, Nat.mul_zero, Nat.add_zero, List.length_singleton]
      by_cases h1 : 9 < k
      · rw [if_pos h1, if_neg (by omega)]
      · rw [if_neg h1, if_pos (by omega)]
    · rw [if_neg hc, if_neg hc]
      by_cases h1 : 9 < k
      · rw [if_pos h1]
        cases hs : split b with
        | none => rfl
        | some p =>
          obtain ⟨ds, r⟩ := p
          simp only [Option.map_some, List.length_cons]
          rw [if_neg (by omega)]
      · rw [if_neg h1, takeL_eq b]
        cases hs : split b with
        | none => rfl
        | some p =>
          obtain ⟨ds, r⟩ := p
          simp only [Option.map_some, List.length_cons]
          rw [show k + 1 + ds.length = k + (ds.length + 1) by omega]
          split
          · congr 2
            simp only [val]
            rw [Nat.mod_add_mod, Nat.add_assoc]
            congr 2
            rw [Nat.add_mul, pow7]
            congr 1
            rw [Nat.mul_comm 128 (val ds), Nat.mul_assoc]
          · rfl

theorem enc7_len : ∀ (n u : Nat), u < 2 ^ (7 * (n + 1)) → (enc7 u).length ≤ n + 1
  | 0, u, h => by rw [enc7_lt (by simpa using h)]; simp
  | n + 1, u, h => by
    by_cases h1 : u < 128
    · rw [enc7_lt h1]; simp
    · rw [enc7_ge (by omega), List.length_cons]
      have := enc7_len n (u / 128) (by rw [pow7] at h; exact Nat.div_lt_of_lt_mul h)
      omega

/-- What the reference takes is what was put. -/
theorem takeL_raw (b : List UInt8) : match takeL 0 0 b with
    | none => raw b = none
    | some (u, n) => n ≤ b.length ∧ u < 18446744073709551616 ∧ raw b = if enc7 u = b.take n then some (u, b.drop n) else none := by
  rw [takeL_eq]
  cases hs : split b with
  | none => simp only [raw, hs]
  | some p =>
    obtain ⟨ds, r⟩ := p
    simp only [Nat.mul_zero, Nat.pow_zero, Nat.mul_one, Nat.zero_add]
    have hb := split_append hs
    by_cases hl : ds.length ≤ 10
    · rw [if_pos hl]
      simp only
      refine ⟨by rw [hb, List.length_append]; omega, Nat.mod_lt _ (by decide), ?_⟩
      rw [hb, List.take_left, List.drop_left, ← hb]
      simp only [raw, hs]
      by_cases h1 : val ds < 18446744073709551616
      · rw [Nat.mod_eq_of_lt h1]
        by_cases h2 : ds = enc7 (val ds)
        · rw [if_pos ⟨h2, h1⟩, if_pos h2.symm]
        · rw [if_neg (fun h => h2 h.1), if_neg (fun h => h2 h.symm)]
      · rw [if_neg (fun h => h1 h.2), if_neg]
        intro h
        apply h1
        have := congrArg val h
        rw [val_enc7] at this
        omega
    · rw [if_neg hl]
      simp only [raw, hs]
      rw [if_neg]
      rintro ⟨h1, h2⟩
      apply hl
      rw [h1]
      exact enc7_len 9 _ (by have : (18446744073709551616 : Nat) ≤ 2 ^ (7 * (9 + 1)) := by decide
                             omega)

/-! ### How long they are -/
theorem numB_len {v : Int} {n : Nat} (h : zig v < 2 ^ (7 * (n + 1))) : (numB v).length ≤ n + 1 := enc7_len n _ h
theorem numB_small {v : Int} (h : small v) : (numB v).length ≤ 5 := numB_len (n := 4) (by
  have h1 := h.1; have h2 := h.2
  have e : mostN = 2147483647 := rfl
  have : (2 : Nat) ^ (7 * (4 + 1)) = 34359738368 := by decide
  rw [this]; unfold zig; split <;> omega)
theorem numB_inc {v : Int} (h : -mostInc ≤ v ∧ v ≤ mostInc) : (numB v).length ≤ 6 := numB_len (n := 5) (by
  have h1 := h.1; have h2 := h.2
  have e : mostInc = 1099511627776 := rfl
  have : (2 : Nat) ^ (7 * (5 + 1)) = 4398046511104 := by decide
  rw [this]; unfold zig; split <;> omega)
theorem numB_nat {n : Nat} (h : n < 8192) : (numB n).length ≤ 2 := numB_len (n := 1) (by
  have : (2 : Nat) ^ (7 * (1 + 1)) = 16384 := by decide
  rw [this]; unfold zig; split <;> omega)
theorem numB_63 {n : Nat} (h : n < 64) : (numB n).length = 1 := by
  unfold numB
  rw [enc7_lt (by unfold zig; split <;> omega)]; rfl
theorem txtB_len {s : List UInt8} (h : s.length ≤ 30) : (txtB s).length ≤ 31 := by
  unfold txtB
  rw [List.length_append, numB_63 (by omega)]; omega

theorem texts_len : ∀ (l : List (List UInt8)), (∀ t ∈ l, t.length ≤ 30) → ((l.map txtB).flatten).length ≤ 31 * l.length
  | [], _ => by simp
  | t :: l, h => by
    have h1 := txtB_len (h t (List.mem_cons_self ..))
    have h2 := texts_len l fun x hx => h x (List.mem_cons_of_mem _ hx)
    rw [List.map_cons, List.flatten_cons, List.length_append, List.length_cons]; omega

theorem stepB_len {x : LStep} (h : StepOk x) : (stepB x).length ≤ 160 := by
  unfold stepB
  simp only [List.length_append]
  have a := numB_small h.kind
  have b := numB_small h.a
  have c := numB_small h.n
  have d := numB_small h.n2
  have e := numB_nat (n := x.who.toNat) (by have := x.who.toNat_lt; omega)
  have f := numB_63 (n := x.path.length) (by have := h.path; omega)
  have g := texts_len x.path h.texts
  have i := numB_small h.act
  have j := txtB_len h.s
  have k := numB_inc h.num
  have := h.path
  omega

theorem steps_len : ∀ (l : List LStep), (∀ t ∈ l, StepOk t) → ((l.map stepB).flatten).length ≤ 160 * l.length
  | [], _ => by simp
  | t :: l, h => by
    have h1 := stepB_len (h t (List.mem_cons_self ..))
    have h2 := steps_len l fun x hx => h x (List.mem_cons_of_mem _ hx)
    rw [List.map_cons, List.flatten_cons, List.length_append, List.length_cons]; omega

theorem scriptB_len {x : LScript} (h : ScriptOk x) : (scriptB x).length ≤ 33000 := by
  unfold scriptB
  simp only [List.length_append]
  have a := numB_small h.c
  have b := numB_small h.s
  have c := numB_small h.cap
  have d := numB_nat (n := x.steps.length) (by have := h.len; omega)
  have e := steps_len x.steps h.steps
  have := h.len
  omega
end Go.SC
