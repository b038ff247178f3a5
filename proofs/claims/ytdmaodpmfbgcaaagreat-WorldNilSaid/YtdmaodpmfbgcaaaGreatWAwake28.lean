/-
  The transport law's 'awake' answers true: its two parts joined.
-/
import Derived.Test.YtdmaodpmfbgcaaaGreatWRun1
import Derived.Test.YtdmaodpmfbgcaaaGreatWRun2
import Derived.Test.YtdmaodpmfbgcaaaGreatWV3
namespace Go.Proofs.Tryz
open Go Go.V

theorem okX_some {d : Nat} {r : XR} (h : okX d r = true) : ∃ ex s m, r = .done ex s m ∧ (ex = .normal ∨ ex = .ret) ∧ (opn (.tmp d)).g s = .bool true := by
  cases r with
  | stuck => cases h
  | done ex s m =>
    have h' : (@Ex.rec (fun _ => Bool) true (fun _ => false) true ex && @Option.rec Bool (fun _ => Bool) false (fun b => b) (V.asBool ((opn (.tmp d)).g s))) = true := h
    rw [Bool.and_eq_true] at h'
    refine ⟨ex, s, m, rfl, ?_, ?_⟩
    · cases ex with
      | normal => exact .inl rfl
      | ret => exact .inr rfl
      | exit id => exact absurd h'.1 (by simp)
    · cases hb : V.asBool ((opn (.tmp d)).g s) with
      | none => rw [hb] at h'; exact absurd h'.2 (by simp)
      | some b =>
        rw [hb] at h'
        have hb' : b = true := h'.2
        rw [asBool_some hb, hb']

theorem fn45 : (E orc0).fns.get 45 = some f45 := by rfl
theorem body45_eq : f45.body = some body45 := by rfl
theorem nt45 : f45.ntmps = 57 := by rfl
theorem res45 : f45.results.toList = [.tmp 0] := by rfl

theorem awake28_call : ∃ k m, call (E orc0) k 45 [] Mem.nil = some (.bool true, m) := by
  have h57 : 57 ≤ 256 := by omega
  have hcf := fcall_ok (E := E orc0) 999
  have ha : vwp (E orc0) (plug (heads 5 body45) .skip) (fun ex s => ex = .normal ∧ s = ⟨45, 57, slots12, mem12⟩) ⟨45, 57, Slots.nil, Mem.nil⟩ := by
    rcases cc_ok (E := E orc0) (f := 45) h57 (plug (heads 5 body45) .skip) _ hcf kdone Slots.nil Mem.nil with h | ⟨s', m', h1, h2⟩ | ⟨ex, s', m', h0, h1, h2⟩
    · rw [run28a] at h; cases h
    · rw [run28a] at h2; cases h2; exact h1
    · rw [run28a] at h2; cases h2; exact absurd rfl h0
  obtain ⟨ex, s, m, hr, hex, hv⟩ := okX_some run28b
  have hb : vwp (E orc0) (behind 5 body45) (fun ex st => (ex = .normal ∨ ex = .ret) ∧ ∃ vs, resultVals (E orc0) st f45.results.toList = some vs ∧ (oneOr vs = .bool true)) ⟨45, 57, slots12, mem12⟩ := by
    have hres : ∀ st : St, st = ⟨45, 57, s, m⟩ → ∃ vs, resultVals (E orc0) st f45.results.toList = some vs ∧ oneOr vs = .bool true := fun st e => by
      subst e
      refine ⟨[.bool true], ?_, rfl⟩
      rw [res45]
      have e2 := opn_ok (.tmp 0) 45 57 s m
      rw [hv] at e2
      have e3 : St.slot ⟨45, 57, s, m⟩ 0 = .bool true := e2.symm
      simp only [resultVals, e3, Option.map_some]
    rcases cc_ok (E := E orc0) (f := 45) h57 (behind 5 body45) _ hcf kdone slots12 mem12 with h | ⟨s', m', h1, h2⟩ | ⟨ex', s', m', h0, h1, h2⟩
    · have := h.symm.trans hr; cases this
    · have e := h2.symm.trans hr
      have e' : XR.done .normal s' m' = .done ex s m := e
      cases e'
      exact h1.mono fun ex st ⟨e1, e2⟩ => ⟨.inl e1, hres st e2⟩
    · have e := h2.symm.trans hr
      cases e
      exact h1.mono fun ex' st ⟨e1, e2⟩ => ⟨e1 ▸ hex, hres st e2⟩
  have hw := vwp_plug (heads 5 body45) _ ha hb
  rw [plug_heads] at hw
  have := vcall_body (E := E orc0) (f := 45) (fn := f45) (c := body45) (args := []) (m := Mem.nil) (Q := fun v _ => v = .bool true) rfl fn45 body45_eq (Nat.zero_le _) (by rw [nt45]; exact h57) (by
    rw [nt45]
    exact hw.mono fun ex st ⟨e1, vs, e2, e3⟩ => ⟨e1, vs, e2, e3⟩)
  obtain ⟨n, v, m', h1, h2⟩ := this
  exact ⟨n, m', by rw [h1, h2]⟩
end Go.Proofs.Tryz
