/-
  Bytes read off memory are held by the abstract machine's values.
-/
import Derived.Test.YtdmaodpmfbgcaaaGreatSCalls
import Derived.Test.YtdmaodpmfbgcaaaGreatSLaw8
set_option maxRecDepth 100000
namespace Go.Proofs.Tryz
open Go Go.V Go.SC

section
variable {H : Type} {enc : TypeId × Value → H} {W : World} {Γ : Ctx}
theorem sb5 : 0 < prog.bytesOf 5 := of_decide_eq_true (by kernel_rfl)
theorem bytes_of : ∀ (l : List (List AVal)), (∀ xs ∈ l, ∃ t : UInt8, xs = u8 t) → ∃ ts, l = E8 ts
  | [], _ => ⟨[], rfl⟩
  | xs :: l, h => by
    obtain ⟨t, rfl⟩ := h _ (List.mem_cons_self ..)
    obtain ⟨ts, rfl⟩ := bytes_of l fun y hy => h y (List.mem_cons_of_mem _ hy)
    exact ⟨t :: ts, rfl⟩

/-- Bytes. -/
theorem bytes_read (hΓ : ∀ b o, Γ.ro b o = W.cell? ⟨b, o, none⟩) {fuel : Nat} {cs : List Value} {x : DataW H × List MemPlace} (h : TR enc W fuel 22 cs x) (hF : Fit 22 x.1) :
    ∃ (v : Value) (bs : List UInt8), cs = [v] ∧ VR Γ (.imm (E8 bs).flatten (E8 bs).length) v := by
  obtain ⟨v, l, e, ov, _, hR, hv⟩ := slice_deep (Γ := Γ) (R := fun xs => ∃ t : UInt8, xs = u8 t) underlying22 sc5 (by decide) sb5 h hF hΓ fun n el y hn hy hfy hl => by
    obtain ⟨i4, e4, _, w4⟩ := DataW.trod_int underlying5 hy
    subst e4
    have hw : 0 ≤ i4 ∧ i4 < 256 := by
      simp only [Lit.wf, Bool.and_eq_true, decide_eq_true_eq] at w4
      have a : IntKind.u8.min = 0 := rfl
      have b : IntKind.u8.max = 255 := rfl
      omega
    obtain ⟨n4, rfl⟩ := Int.eq_ofNat_of_zero_le hw.1
    have h4 : (UInt8.ofNat n4).toNat = n4 := toNat_ofNat (by omega)
    refine ⟨u8 (UInt8.ofNat n4), ⟨_, rfl⟩, rfl, ?_, ?_⟩
    · simp only [u8, VRs, VR, h4]; exact ⟨_, [], rfl, rfl, rfl⟩
    · intro c hc; rw [List.mem_singleton] at hc; subst hc; rfl
  obtain ⟨ts, rfl⟩ := bytes_of l hR
  exact ⟨v, ts, e, hv⟩
end
theorem bytes_bv (bs : List UInt8) (m : Mem) : BV m (.imm (E8 bs).flatten (E8 bs).length) bs := .imm _ (E8_one bs)
theorem bytes_input (bs : List UInt8) : InputB (.imm (E8 bs).flatten (E8 bs).length) := by
  cases bs with
  | nil => exact .inr (.inl rfl)
  | cons b bs => exact .inr (.inr (.inr ⟨_, _, _, rfl⟩))
end Go.Proofs.Tryz
