/-
  What all rows of this seat share: the arguments read behind the call as they did; what a law's row says.
-/
import Derived.Test.YtdmaodpmfbgcaaaGreatRows
import Derived.Test.YtdmaodpmfbgcaaaGreatRead
import Derived.ProofKit
import Derived.SliceStrings
import Derived.SizedLaws
set_option maxRecDepth 100000
namespace Go.Proofs.YtdmaodpmfbgcaaaGreat
open Go.ChangeShapes Go.WideShapes Go.ChangeAt Go.RowKit

theorem Tryz.own : ownKnob Tryz.prog.godebug = Option.none := by kernel_rfl
theorem Tryz.laidOut : laidOutB Tryz.prog = true := by kernel_rfl
theorem Tryz.cells65 : Tryz.prog.cellsOf 65 = 4 := by kernel_rfl
theorem Tryz.cells9 : Tryz.prog.cellsOf 9 = 1 := by kernel_rfl

theorem below_of_grown {w w' : World} (h : V.Grown w w') : Below w.heap.size w w' := ⟨h.os, h.tape, h.output, h.size, h.keep⟩

/-- The arguments read behind the call as they did. -/
theorem args_kept {H : Type} {enc : TypeId × Value → H} {W W' : World} (hb : Below W.heap.size W W') : ∀ (ts : List TypeId) (vs : List Value) (ds : List (DataW H)) (ps : List MemPlace), (∀ t ∈ ts, Tryz.prog.readableRec t = true ∧ t < Tryz.prog.types.size) → (∀ x ∈ ps, x.block < W.heap.size) →
    DataW.TrodAll enc Tryz.prog W 0 (fun _ => true) true ts vs ds ps → DataW.TrodAll enc Tryz.prog W' 0 (fun b => decide (b < W.heap.size)) true ts vs ds ps
  | [], [], [], _, _, _, h => h
  | [], _ :: _, _, _, _, _, h => h.elim
  | [], [], _ :: _, _, _, _, h => h.elim
  | _ :: _, [], _, _, _, _, h => h.elim
  | _ :: _, _ :: _, [], _, _, _, h => h.elim
  | t :: ts, v :: vs, d :: ds, ps, ht, hp, h => by
    obtain ⟨p, q, h1, h2, rfl⟩ := h
    refine ⟨p, q, ?_, args_kept hb ts vs ds q (fun t h => ht t (List.mem_cons_of_mem _ h)) (fun x hx => hp x (List.mem_append_right _ hx)) h2, rfl⟩
    exact Below.trod Tryz.laidOut (ht t (List.mem_cons_self ..)).1 (ht t (List.mem_cons_self ..)).2 h1 hb fun x hx => hp x (List.mem_append_left _ hx)

/-- What a law's row says, where the call left all memory as it was. -/
theorem law_post {H : Type} {enc : TypeId × Value → H} {f : Func} {s : ChangeSpec} {fresh : Bool} {W W' : World} {args : Array Value} {ds : List (DataW H)} {p before : List MemPlace} (hs : s.vars = []) (hr : f.resultTypes = #[4])
    (ht : (f.params.toList.all fun t => Tryz.prog.readableRec t && decide (t < Tryz.prog.types.size)) = true)
    (hW : DataW.Whole enc Tryz.prog f.params.toList s.vars false W args.toList ds [] before) (hA : DataW.TrodAll enc Tryz.prog W 0 (fun _ => true) true f.params.toList args.toList ds p) (hp : before = p)
    (hfn : s.fn H (ds ++ []) = { results := [.lit (.bool true)], args := ds }) (hb : Below W.heap.size W W') :
    s.post enc Tryz.prog f false fresh false false W args (.bool true) W' := by
  have hlt : ∀ x ∈ p, x.block < W.heap.size := fun x hx => by simpa using hW.lt x (by rw [hp]; exact hx)
  have ht' : ∀ t ∈ f.params.toList, Tryz.prog.readableRec t = true ∧ t < Tryz.prog.types.size := fun t h => by
    have := List.all_eq_true.1 ht t h
    simpa using this
  refine ⟨ds, [], before, [], p, [], hW, ?_, ?_, ?_, hb.frame _, fun h => by cases h⟩
  · rw [hfn, hr]
    show DataW.TrodAll enc Tryz.prog W' _ _ false [4] [.bool true] [.lit (.bool true)] []
    exact ⟨[], [], shut_bool Tryz.underlying4 true, rfl, rfl⟩
  · rw [hfn]; exact args_kept hb _ _ _ _ ht' hlt hA
  · rw [hfn, hs]; rfl

/-- The text in a string's one cell. -/
def strOfV : List Value → ByteArray
  | [.string t] => t
  | _ => ByteArray.empty

/-- A change as it lies in memory. -/
theorem op_read {H : Type} {enc : TypeId × Value → H} {W : World} {fuel : Nat} {cs : List Value} {x : DataW H × List MemPlace} (h : Tryz.TR enc W fuel 65 cs x) (hF : Tryz.Fit 65 x.1) :
    ∃ (strs : List ByteArray) (s : ByteArray), cs.length = 4 ∧ (∀ c ∈ cs, c.oneCell' = true) ∧ ∀ Γ : V.Ctx, (∀ b o, Γ.ro b o = W.cell? ⟨b, o, Option.none⟩) → V.VRs Γ [.imm (strs.map .str) strs.length, .any, .str s, .any] cs := by
  obtain ⟨n2, rfl, hl, hg⟩ := Tryz.trod_field Tryz.underlying65 h hF
  rw [Tryz.cells65] at hl
  obtain ⟨c0, c1, c2, c3, rfl⟩ : ∃ c0 c1 c2 c3, cs = [c0, c1, c2, c3] := by
    match cs, hl with
    | [c0, c1, c2, c3], _ => exact ⟨_, _, _, _, rfl⟩
  obtain ⟨z0, hz0, f0⟩ := hg 0 _ rfl
  obtain ⟨z1, hz1, f1⟩ := hg 1 _ rfl
  obtain ⟨z2, hz2, f2⟩ := hg 2 _ rfl
  obtain ⟨z3, hz3, f3⟩ := hg 3 _ rfl
  have c63 : Tryz.prog.cellsOf 63 = 1 := by kernel_rfl
  have c3' : Tryz.prog.cellsOf 3 = 1 := by kernel_rfl
  have c2' : Tryz.prog.cellsOf 2 = 1 := by kernel_rfl
  have b9 : 0 < Tryz.prog.bytesOf 9 := of_decide_eq_true (by kernel_rfl)
  obtain ⟨i1, h1⟩ := Tryz.int_read Tryz.underlying3 (show Tryz.TR enc W n2 3 [c1] z1 by simpa [c3'] using hz1)
  obtain ⟨s, h2⟩ := Tryz.str_read Tryz.underlying9 (show Tryz.TR enc W n2 9 [c2] z2 by simpa [Tryz.cells9] using hz2)
  obtain ⟨i3, h3⟩ := Tryz.int_read Tryz.underlying2 (show Tryz.TR enc W n2 2 [c3] z3 by simpa [c2'] using hz3)
  have h0 : Tryz.TR enc W n2 63 [c0] z0 := by simpa [c63] using hz0
  cases h1; cases h2; cases h3
  obtain ⟨v, len, n, el, b, o, e0, ho, _, _, hel, a, c, rfl, hc, ha⟩ := Tryz.slice_read Tryz.underlying63 Tryz.cells9 (by decide) b9 h0 f0
  cases e0
  have hstr : ∀ i, i < len → ∃ t, el i = [.string t] := fun i hi => by
    obtain ⟨_, ⟨y, hy, _⟩, _⟩ := hel i hi
    exact Tryz.str_read Tryz.underlying9 hy
  refine ⟨(List.range len).map (fun i => strOfV (el i)), s, rfl, ?_, fun Γ hΓ => ?_⟩
  · intro c hc
    simp only [List.mem_cons, List.not_mem_nil, or_false] at hc
    rcases hc with rfl | rfl | rfl | rfl <;> rfl
  · have himm : V.VR Γ (.imm (((List.range len).map (fun i => strOfV (el i))).map .str) ((List.range len).map (fun i => strOfV (el i))).length) (.slice a len c) := by
      rw [V.VR]
      refine ⟨a, c, by simp, by simpa using hc, fun hne => ⟨⟨b, o, Option.none⟩, ha ?_, rfl, Tryz.roRel_of _ _ _ fun i x hx => ?_⟩⟩
      · cases len with
        | zero => simp at hne
        | succ _ => omega
      · rw [List.map_map, List.getElem?_map] at hx
        cases hg' : (List.range len)[i]? with
        | none => rw [hg'] at hx; cases hx
        | some k =>
          rw [hg'] at hx
          cases hx
          have hi : i < len := by
            have := (List.getElem?_eq_some_iff.1 hg').1
            simpa using this
          rw [List.getElem?_range hi] at hg'
          cases hg'
          obtain ⟨t, ht⟩ := hstr i hi
          obtain ⟨_, _, hcell⟩ := hel i hi
          have := hcell 0 (by decide)
          rw [ht, Nat.mul_one, Nat.add_zero] at this
          refine ⟨.string t, by rw [hΓ]; exact this, ?_, rfl⟩
          simp only [Function.comp, ht, strOfV, V.VR]
    simp only [V.VRs]
    exact ⟨_, _, rfl, himm, _, _, rfl, by simp only [V.VR], _, _, rfl, by simp only [V.VR], _, _, rfl, by simp only [V.VR], rfl⟩
end Go.Proofs.YtdmaodpmfbgcaaaGreat
