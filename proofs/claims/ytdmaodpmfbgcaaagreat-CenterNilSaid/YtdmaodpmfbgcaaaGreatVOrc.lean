/-
  A call that the abstract machine carries out from empty memory may be told in another run.
-/
import Derived.Test.YtdmaodpmfbgcaaaGreatVSound
namespace Go.V

/-- A context that knows of no memory but what is only read. -/
def Ctx.still (ro : Nat → Nat → Option Value) (inp : Nat → Value) : Ctx := ⟨fun _ => none, fun _ => False, ro, inp⟩

theorem MemR.ofStill {ro : Nat → Nat → Option Value} {inp : Nat → Value} {w : World} (h : ∀ b o u, ro b o = some u → w.cell? ⟨b, o, none⟩ = some u) : MemR (Ctx.still ro inp) Mem.nil w where
  dom b := ⟨fun hb => hb.elim, fun hb => absurd hb (Nat.not_lt_zero b)⟩
  small := Nat.zero_le _
  gone _ _ _ := rfl
  blk b B hb := by rw [show Mem.get Mem.nil b = none from Hp.get_nil b] at hb; cases hb
  inj b _ _ _ hb := absurd hb (Nat.not_lt_zero b)
  ro := h

theorem Grown.of_step {ro : Nat → Nat → Option Value} {inp : Nat → Value} {Δ : Ctx} {w w' : World} (h : Step (Ctx.still ro inp) w Δ w') : Grown w w' :=
  ⟨h.os, h.tape, h.output, h.size, fun k hk => h.frame k hk fun _ _ hb => hb.elim⟩

/-- The contract of such a call. -/
theorem still_calls {E : Env} {ro : Nat → Nat → Option Value} {inp : Nat → Value} (hE : EnvOk E (Ctx.still ro inp)) {n : Nat} {f : FuncId} {args : List AVal} {v : AVal} {m : Mem} (hc : call E n f args Mem.nil = some (v, m))
    {vs : Array Value} {w : World} (ha : VRs (Ctx.still ro inp) args vs.toList) (hro : ∀ b o u, ro b o = some u → w.cell? ⟨b, o, none⟩ = some u) :
    Calls E.P f vs w fun e w' => ∃ Δ u, e = .returned u ∧ VR Δ v u ∧ Grown w w' := by
  refine ((call_sound hE n).ok f args Mem.nil v m hc (Ctx.still ro inp) vs w (.refl _) ha (MemR.ofStill hro)).mono fun e w' he => ?_
  obtain ⟨Δ, u, h1, _, h3, h4, _⟩ := he
  exact ⟨Δ, u, h1, h3, Grown.of_step h4⟩

/-- What is told of one call: it answers a Bool. -/
theorem orc_bool {E : Env} {ro : Nat → Nat → Option Value} {inp : Nat → Value} (hE : EnvOk E (Ctx.still ro inp)) {n : Nat} {f : FuncId} {args : List AVal} {b : Bool} {m : Mem} (hc : call E n f args Mem.nil = some (.bool b, m))
    {Γ : Ctx} {vs : Array Value} {w : World} (hb : (Ctx.still ro inp).le Γ) (ha : VRs (Ctx.still ro inp) args vs.toList) (hro : ∀ b o u, Γ.ro b o = some u → w.cell? ⟨b, o, none⟩ = some u) :
    Calls E.P f vs w fun e w' => ∃ u, e = .returned u ∧ VR Γ (.bool b) u ∧ Grown w w' := by
  refine (still_calls hE hc ha fun b o u h => hro b o u (hb.ro b o u h)).mono fun e w' he => ?_
  obtain ⟨Δ, u, h1, h2, h3⟩ := he
  exact ⟨u, h1, by simpa only [VR] using h2, h3⟩
end Go.V
