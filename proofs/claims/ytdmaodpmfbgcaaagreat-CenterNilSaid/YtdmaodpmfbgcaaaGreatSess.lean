/-
  SessionNil answers true, whatever the change, and leaves all memory as it was: said of the model's own calls.
-/
import Derived.Test.YtdmaodpmfbgcaaaGreatShort
import Derived.Test.YtdmaodpmfbgcaaaGreatSessRun
import Derived.Test.YtdmaodpmfbgcaaaGreatAwake29
import Derived.Test.YtdmaodpmfbgcaaaGreatVOrc
set_option maxRecDepth 100000
namespace Go.Proofs.Tryz
open Go Go.V

theorem fns18 : (E orc0).fns.get 18 = some f18 := by kernel_rfl
theorem body18 : f18.body = some ((f18.body).getD .skip) := by kernel_rfl
theorem vntmps18 : f18.ntmps = 28 := by kernel_rfl
theorem vresults18 : f18.results.toList = [.tmp 2] := by kernel_rfl

/-- Short answers a Bool. -/
theorem short_call (strs : List ByteArray) (s : ByteArray) : ∃ n b m, V.call (E orc0) n 18 [.agg [.imm (strs.map .str) strs.length, .any, .str s, .any]] Mem.nil = some (.bool b, m) := by
  obtain ⟨n, ex, st, h1, h2, b, hb⟩ := short_run strs s
  refine ⟨n, b, st.mem, ?_⟩
  show callF (E orc0) (exec (E orc0) n) 18 _ _ = _
  unfold callF
  rw [show (E orc0).orc 18 _ = none from rfl, fns18]
  simp only
  rw [body18]
  simp only [vntmps18]
  rw [show (Nat.ble ([AVal.agg [.imm (strs.map .str) strs.length, .any, .str s, .any]]).length 28 && Nat.ble 28 256) = true from rfl, cond_true, h1]
  have hr : resultVals (E orc0) st f18.results.toList = some [.bool b] := by
    rw [vresults18]
    simp only [resultVals, Option.map_some]
    rw [show st.slot 2 = sget st.slots 2 from rfl, hb]
  rcases h2 with rfl | rfl <;> simp only [hr, Option.map_some, oneOr]

theorem roRel_of {Γ : Ctx} : ∀ (cells : List AVal) (b o : Nat), (∀ (i : Nat) (x : AVal), cells[i]? = some x → ∃ v, Γ.ro b (o + i) = some v ∧ VR Γ x v ∧ v.oneCell' = true) → roRel Γ cells b o
  | [], _, _, _ => by simp only [roRel]
  | c :: cells, b, o, h => by
    simp only [roRel]
    refine ⟨?_, roRel_of cells b (o + 1) fun i x hx => ?_⟩
    · obtain ⟨v, h1, h2, h3⟩ := h 0 c rfl
      exact ⟨v, by simpa using h1, h2, h3⟩
    · obtain ⟨v, h1, h2, h3⟩ := h (i + 1) x (by simpa using hx)
      exact ⟨v, by rw [show o + 1 + i = o + (i + 1) by omega]; exact h1, h2, h3⟩

/-- What the first world holds is only read; the arguments' cells. -/
def ctxOf (W : World) (cs : List Value) : Ctx := Ctx.still (fun b o => W.cell? ⟨b, o, none⟩) (fun k => cs.getD k undef)

theorem orcOk0 (Γ0 : Ctx) : OrcOk (E orc0) Γ0 := fun _ _ _ h => by cases h

theorem tagsAt_tags : ∀ (n k : Nat) (cs : List AVal), tagsAt k n cs = true → cs = tags k n
  | 0, k, [], _ => rfl
  | 0, k, _ :: _, h => by cases h
  | n + 1, k, [], h => by cases h
  | n + 1, k, c :: cs, h => by
    cases c <;> first | (cases h; done) | skip
    rename_i j
    simp only [tagsAt, Bool.and_eq_true, nbeq, decide_eq_true_eq] at h
    rw [tags, h.1, tagsAt_tags n (k + 1) cs h.2]

/-- The change is read so. -/
def ReadsOp (Γ : Ctx) (strs : List ByteArray) (s : ByteArray) (vs : List Value) : Prop := VRs Γ [.agg [.imm (strs.map .str) strs.length, .any, .str s, .any]] vs

theorem orcS_ok {W : World} {c0 c1 c2 c3 : Value} {strs : List ByteArray} {s : ByteArray} (h : ReadsOp (ctxOf W [c0, c1, c2, c3]) strs s [.agg #[c0, c1, c2, c3]]) : ∃ b, OrcOk (E (orcS b)) (ctxOf W [c0, c1, c2, c3]) := by
  obtain ⟨n, b, m, hs⟩ := short_call strs s
  obtain ⟨na, ma, hawake⟩ := okB_call awake29_run
  have hE : EnvOk (E orc0) (ctxOf W [c0, c1, c2, c3]) := envOk (fun _ h => h) (orcOk0 _)
  refine ⟨b, fun f args v hv => ?_⟩
  have hv' : orcS b f args = some v := hv
  unfold orcS at hv'
  rw [nbeq, nbeq, cond_eq_ite, cond_eq_ite] at hv'
  split at hv'
  · rename_i hf
    simp only [decide_eq_true_eq] at hf
    subst hf
    split at hv'
    · cases hv'
      refine ⟨(call_sound hE na).fn 17 [] Mem.nil _ hawake, fun Γ vs w hb ha hro => ?_⟩
      have hvs : vs.toList = [] := by simpa [VRs] using ha
      exact orc_bool hE hawake hb (by rw [hvs]; simp [VRs]) hro
    · cases hv'
  · split at hv'
    · rename_i hf
      simp only [decide_eq_true_eq] at hf
      subst hf
      split at hv'
      · rename_i cs
        rw [cond_eq_ite] at hv'
        split at hv'
        · rename_i ht
          cases hv'
          have hcs := tagsAt_tags 4 0 cs ht
          subst hcs
          refine ⟨(call_sound hE n).fn 18 _ Mem.nil _ hs, fun Γ vs w hb ha hro => ?_⟩
          have hi : Γ.inp = (ctxOf W [c0, c1, c2, c3]).inp := hb.inp
          have hvs : vs.toList = [.agg #[c0, c1, c2, c3]] := by
            simp only [VRs, VR, tags] at ha
            obtain ⟨v, l, h1, ⟨us, rfl, ⟨x0, l0, h2, ⟨e0, _⟩, x1, l1, h3, ⟨e1, _⟩, x2, l2, h4, ⟨e2, _⟩, x3, l3, h5, ⟨e3, _⟩, h6⟩, _⟩, rfl⟩ := ha
            subst h6 h5 h4 h3
            rw [hi] at e0 e1 e2 e3
            have e0 : x0 = c0 := e0
            have e1 : x1 = c1 := e1
            have e2 : x2 = c2 := e2
            have e3 : x3 = c3 := e3
            subst e0 e1 e2 e3
            rw [h1]
            have : us = #[x0, x1, x2, x3] := by cases us; simpa using h2
            rw [this]
          exact orc_bool hE hs hb (by rw [hvs]; exact h) hro
        · cases hv'
      · cases hv'
    · cases hv'

theorem sess_calls {W : World} {c0 c1 c2 c3 : Value} {strs : List ByteArray} {s : ByteArray} (h : ReadsOp (ctxOf W [c0, c1, c2, c3]) strs s [.agg #[c0, c1, c2, c3]]) (h0 : c0.oneCell' = true) (h1 : c1.oneCell' = true) (h2 : c2.oneCell' = true) (h3 : c3.oneCell' = true) :
    Calls prog 4 #[.agg #[c0, c1, c2, c3]] W fun e w' => e = .returned (.bool true) ∧ V.Grown W w' := by
  obtain ⟨b, hb⟩ := orcS_ok h
  have hE : EnvOk (E (orcS b)) (ctxOf W [c0, c1, c2, c3]) := envOk (fun _ h => h) hb
  have hc : ∃ k m, V.call (E (orcS b)) k 4 [.agg (tags 0 4)] Mem.nil = some (.bool true, m) := by
    cases b with
    | true => exact okB_call sess_t
    | false => exact okB_call sess_f
  obtain ⟨k, m, hc⟩ := hc
  refine (still_calls (vs := #[.agg #[c0, c1, c2, c3]]) (w := W) hE hc ?_ fun _ _ _ h => h).mono fun e w' he => ?_
  · simp only [VRs, VR, tags]
    refine ⟨_, [], rfl, ⟨#[c0, c1, c2, c3], rfl, ⟨c0, _, rfl, ⟨rfl, h0⟩, c1, _, rfl, ⟨rfl, h1⟩, c2, _, rfl, ⟨rfl, h2⟩, c3, [], rfl, ⟨rfl, h3⟩, rfl⟩, ?_⟩, rfl⟩
    intro u hu
    simp only [List.mem_cons, List.not_mem_nil, or_false] at hu
    rcases hu with rfl | rfl | rfl | rfl <;> assumption
  · obtain ⟨Δ, u, rfl, hu, hg⟩ := he
    simp only [VR] at hu
    subst hu
    exact ⟨rfl, hg⟩
end Go.Proofs.Tryz
