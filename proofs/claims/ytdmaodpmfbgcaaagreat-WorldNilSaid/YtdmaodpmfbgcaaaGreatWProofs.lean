/-
  WorldNil answers true for every step and number, and these read afterwards as they did. No condition.
-/
import Derived.Test.YtdmaodpmfbgcaaaGreatRows
import Derived.Test.YtdmaodpmfbgcaaaGreatWWorld
import Derived.Test.YtdmaodpmfbgcaaaGreatWFacts
import Derived.ProofKit
import Derived.SliceStrings
set_option maxRecDepth 100000
namespace Go.Proofs.YtdmaodpmfbgcaaaGreat
open Go.ChangeShapes Go.WideShapes Go.ChangeAt Go.RowKit

theorem Tryz.own : ownKnob Tryz.prog.godebug = Option.none := by kernel_rfl
theorem Tryz.laidOut : laidOutB Tryz.prog = true := by kernel_rfl

theorem below_of_grown {w w' : World} (h : V.Grown w w') : Below w.heap.size w w' := ⟨h.os, h.tape, h.output, h.size, h.keep⟩

/-- The arguments read behind the call as they did. -/
theorem args_kept {H : Type} {enc : TypeId × Value → H} {W W' : World} (hb : Below W.heap.size W W') : ∀ (ts : List TypeId) (vs : List Value) (ds : List (DataW H)) (ps : List MemPlace), (∀ t ∈ ts, Tryz.prog.readableRec t = true ∧ t < Tryz.prog.types.size) → (∀ x ∈ ps, x.block < W.heap.size) →
    DataW.TrodAll enc Tryz.prog W 0 (fun _ => true) true ts vs ds ps → DataW.TrodAll enc Tryz.prog W' 0 (fun b => decide (b < W.heap.size)) true ts vs ds ps
  | [], [], [], _, _, _, h => h
  | [], _ :: _, _, _, _, _, h => h.elim
  | [], [], _ :: _, _, _, _, h => h.elim
  | _ :: _, [], _, _, _, _, h => h.elim
  | _ :: _, _ :: _, [], _, _, _, h => h.elim
  | t :: ts, v :: vs, d :: ds, ps, ht, hp, h => by
    obtain ⟨p, q, h1, h2, rfl⟩ := h
    refine ⟨p, q, ?_, args_kept hb ts vs ds q (fun t h => ht t (List.mem_cons_of_mem _ h)) (fun x hx => hp x (List.mem_append_right _ hx)) h2, rfl⟩
    exact Below.trod Tryz.laidOut (ht t (List.mem_cons_self ..)).1 (ht t (List.mem_cons_self ..)).2 h1 hb fun x hx => hp x (List.mem_append_left _ hx)

/-- What a law's row says, where the call left all memory as it was. -/
theorem law_post {H : Type} {enc : TypeId × Value → H} {f : Func} {s : ChangeSpec} {fresh : Bool} {W W' : World} {args : Array Value} {ds : List (DataW H)} {p before : List MemPlace} (hs : s.vars = []) (hr : f.resultTypes = #[4])
    (ht : (f.params.toList.all fun t => Tryz.prog.readableRec t && decide (t < Tryz.prog.types.size)) = true)
    (hW : DataW.Whole enc Tryz.prog f.params.toList s.vars false W args.toList ds [] before) (hA : DataW.TrodAll enc Tryz.prog W 0 (fun _ => true) true f.params.toList args.toList ds p) (hp : before = p)
    (hfn : s.fn H (ds ++ []) = { results := [.lit (.bool true)], args := ds }) (hb : Below W.heap.size W W') :
    s.post enc Tryz.prog f false fresh false false W args (.bool true) W' := by
  have hlt : ∀ x ∈ p, x.block < W.heap.size := fun x hx => by simpa using hW.lt x (by rw [hp]; exact hx)
  have ht' : ∀ t ∈ f.params.toList, Tryz.prog.readableRec t = true ∧ t < Tryz.prog.types.size := fun t h => by
    have := List.all_eq_true.1 ht t h
    simpa using this
  refine ⟨ds, [], before, [], p, [], hW, ?_, ?_, ?_, hb.frame _, fun h => by cases h⟩
  · rw [hfn, hr]
    show DataW.TrodAll enc Tryz.prog W' _ _ false [4] [.bool true] [.lit (.bool true)] []
    exact ⟨[], [], shut_bool Tryz.underlying4 true, rfl, rfl⟩
  · rw [hfn]; exact args_kept hb _ _ _ _ ht' hlt hA
  · rw [hfn, hs]; rfl

section
variable {H : Type} {enc : TypeId × Value → H} {W : World}

/-- A trod of all memory. -/
abbrev TR (enc : TypeId × Value → H) (W : World) (fuel : Nat) (t : TypeId) (cs : List Value) (x : DataW H × List MemPlace) : Prop := DataW.trod enc Tryz.prog W 0 (fun _ => true) true fuel t cs = some x

theorem trod_field {fuel : Nat} {t : TypeId} {fs : Array Field} {cs : List Value} {x : DataW H × List MemPlace} (ht : Tryz.prog.underlying t = some (.struct fs)) (h : TR enc W fuel t cs x) :
    ∃ n, cs.length = Tryz.prog.cellsOf t ∧ ∀ (i : Nat) (f : Field), fs[i]? = some f → ∃ y, TR enc W n f.type ((cs.drop f.offset).take (Tryz.prog.cellsOf f.type)) y := by
  obtain ⟨xs, n, h1, rfl, h3, h4, h5⟩ := DataW.trod_struct ht h
  refine ⟨n, h3, fun i f hfi => ?_⟩
  have := h5 i f hfi
  have hi : i < xs.length := by rw [h4]; exact (Array.getElem?_eq_some_iff.1 hfi).1
  rw [List.getElem?_eq_getElem hi] at this
  exact ⟨_, this⟩

theorem int_one {fuel : Nat} {t : TypeId} {k : IntKind} {cs : List Value} {x : DataW H × List MemPlace} (ht : Tryz.prog.underlying t = some (.int k)) (h : TR enc W fuel t cs x) : ∀ c ∈ cs, c.oneCell' = true := by
  obtain ⟨n, rfl, _⟩ := DataW.trod_int ht h
  intro c hc; simp only [List.mem_singleton] at hc; subst hc; rfl
theorem str_one {fuel : Nat} {t : TypeId} {cs : List Value} {x : DataW H × List MemPlace} (ht : Tryz.prog.underlying t = some .string) (h : TR enc W fuel t cs x) : ∀ c ∈ cs, c.oneCell' = true := by
  obtain ⟨n, rfl, _⟩ := DataW.trod_string ht h
  intro c hc; simp only [List.mem_singleton] at hc; subst hc; rfl
theorem slice_one {fuel : Nat} {t e : TypeId} {cs : List Value} {x : DataW H × List MemPlace} (ht : Tryz.prog.underlying t = some (.slice e)) (h : TR enc W fuel t cs x) : ∀ c ∈ cs, c.oneCell' = true := by
  rcases DataW.trod_slice ht h with ⟨rfl, _⟩ | ⟨a, len, cap, elems, rest, n, rfl, rfl, _⟩ <;>
    (intro c hc; simp only [List.mem_singleton] at hc; subst hc; rfl)

theorem op_one {fuel : Nat} {cs : List Value} {x : DataW H × List MemPlace} (h : TR enc W fuel 65 cs x) : ∀ c ∈ cs, c.oneCell' = true := by
  obtain ⟨n, hl, hg⟩ := trod_field Tryz.underlying65 h
  have hl : cs.length = 4 := hl.trans (by kernel_rfl)
  obtain ⟨c0, c1, c2, c3, rfl⟩ : ∃ c0 c1 c2 c3, cs = [c0, c1, c2, c3] := by
    match cs, hl with
    | [c0, c1, c2, c3], _ => exact ⟨_, _, _, _, rfl⟩
  obtain ⟨z0, hz0⟩ := hg 0 _ rfl
  obtain ⟨z1, hz1⟩ := hg 1 _ rfl
  obtain ⟨z2, hz2⟩ := hg 2 _ rfl
  obtain ⟨z3, hz3⟩ := hg 3 _ rfl
  have c63 : Tryz.prog.cellsOf 63 = 1 := by kernel_rfl
  have c3' : Tryz.prog.cellsOf 3 = 1 := by kernel_rfl
  have c9 : Tryz.prog.cellsOf 9 = 1 := by kernel_rfl
  have c2' : Tryz.prog.cellsOf 2 = 1 := by kernel_rfl
  have k0 := slice_one Tryz.underlying63 (show TR enc W n 63 [c0] z0 by simpa [c63] using hz0)
  have k1 := int_one Tryz.underlying3 (show TR enc W n 3 [c1] z1 by simpa [c3'] using hz1)
  have k2 := str_one Tryz.underlying9 (show TR enc W n 9 [c2] z2 by simpa [c9] using hz2)
  have k3 := int_one Tryz.underlying2 (show TR enc W n 2 [c3] z3 by simpa [c2'] using hz3)
  intro c hc
  simp only [List.mem_cons, List.not_mem_nil, or_false] at hc
  rcases hc with rfl | rfl | rfl | rfl
  · exact k0 _ (List.mem_singleton.2 rfl)
  · exact k1 _ (List.mem_singleton.2 rfl)
  · exact k2 _ (List.mem_singleton.2 rfl)
  · exact k3 _ (List.mem_singleton.2 rfl)

/-- A step as it lies in memory. -/
theorem step_one {fuel : Nat} {cs : List Value} {x : DataW H × List MemPlace} (h : TR enc W fuel 115 cs x) : cs.length = 9 ∧ ∀ c ∈ cs, c.oneCell' = true := by
  obtain ⟨n, hl, hg⟩ := trod_field Tryz.underlying115 h
  have hl : cs.length = 9 := hl.trans (by kernel_rfl)
  obtain ⟨c0, c1, c2, c3, c4, c5, c6, c7, c8, rfl⟩ : ∃ c0 c1 c2 c3 c4 c5 c6 c7 c8, cs = [c0, c1, c2, c3, c4, c5, c6, c7, c8] := by
    match cs, hl with
    | [c0, c1, c2, c3, c4, c5, c6, c7, c8], _ => exact ⟨_, _, _, _, _, _, _, _, _, rfl⟩
  obtain ⟨z0, hz0⟩ := hg 0 _ rfl
  obtain ⟨z1, hz1⟩ := hg 1 _ rfl
  obtain ⟨z2, hz2⟩ := hg 2 _ rfl
  obtain ⟨z3, hz3⟩ := hg 3 _ rfl
  obtain ⟨z4, hz4⟩ := hg 4 _ rfl
  obtain ⟨z5, hz5⟩ := hg 5 _ rfl
  have c3' : Tryz.prog.cellsOf 3 = 1 := by kernel_rfl
  have c5' : Tryz.prog.cellsOf 5 = 1 := by kernel_rfl
  have c65 : Tryz.prog.cellsOf 65 = 4 := by kernel_rfl
  have k0 := int_one Tryz.underlying3 (show TR enc W n 3 [c0] z0 by simpa [c3'] using hz0)
  have k1 := int_one Tryz.underlying3 (show TR enc W n 3 [c1] z1 by simpa [c3'] using hz1)
  have k2 := int_one Tryz.underlying3 (show TR enc W n 3 [c2] z2 by simpa [c3'] using hz2)
  have k3 := int_one Tryz.underlying3 (show TR enc W n 3 [c3] z3 by simpa [c3'] using hz3)
  have k4 := int_one Tryz.underlying5 (show TR enc W n 5 [c4] z4 by simpa [c5'] using hz4)
  have k5 := op_one (show TR enc W n 65 [c5, c6, c7, c8] z5 by simpa [c65] using hz5)
  refine ⟨rfl, fun c hc => ?_⟩
  rw [show [c0, c1, c2, c3, c4, c5, c6, c7, c8] = [c0] ++ ([c1] ++ ([c2] ++ ([c3] ++ ([c4] ++ [c5, c6, c7, c8])))) from rfl] at hc
  simp only [List.mem_append] at hc
  rcases hc with h | h | h | h | h | h
  · exact k0 _ h
  · exact k1 _ h
  · exact k2 _ h
  · exact k3 _ h
  · exact k4 _ h
  · exact k5 _ h
end

theorem world_lifted (os : Os) (started : os.Started) (H : Type) (enc : TypeId × Value → H) :
    ReturnsInHanded {} Tryz.checked os 6 .any (Rows.worldNilSpec.pre6 enc Tryz.prog Tryz.f6 Rows.worldNilRow.domain false) (Rows.worldNilSpec.post enc Tryz.prog Tryz.f6 false true false false) := by
  refine returnsInHanded_of_change (C := Tryz.checked) Tryz.own started (by kernel_rfl) Tryz.func6
    (ChangeSpec.witness6 (enc := enc) (C := Tryz.checked) false ⟨#[], #[.agg #[.int .i64 0, .int .i64 0, .int .i64 0, .int .i64 0, .int .u8 0, .slice Option.none 0 0, .int .i64 0, .string ByteArray.empty, .int .i64 0], .int .i64 0], []⟩ 8 (by kernel_rfl) (by kernel_rfl) (by kernel_rfl) (by kernel_rfl)) ?_
  intro W base args ds gs before hval0 hW hcnd _
  have hval : ∀ (j : Nat) t v, Tryz.f6.params[j]? = some t → args[j]? = some v → Value.okWide Tryz.prog W .any base t v := hval0
  have hW' := hW
  obtain ⟨p, q, hA0, hV, rfl, hfz, hnd⟩ := hW
  have hA : DataW.TrodAll enc Tryz.prog W 0 (fun _ => true) true Tryz.f6.params.toList args.toList ds p := hA0
  rw [Tryz.params6] at hA hval
  obtain ⟨v0, v1, d0, d1, p0, p1, rfl, rfl, rfl, h0, h1⟩ := trodAll_two hA
  obtain ⟨rfl, rfl⟩ := trodVars_none hV
  obtain ⟨us, rfl, _⟩ := okWide_struct Tryz.underlying115 (hval 0 115 v0 rfl rfl)
  obtain ⟨f0, t0⟩ := h0
  obtain ⟨l0, o0⟩ := step_one (x := (d0, p0)) t0
  have l0' : us.toList.length = 9 := l0
  refine (Tryz.world_calls (v := v1) l0' o0).mono fun e W' ⟨he, hw⟩ => ?_
  subst he
  exact ⟨_, rfl, law_post rfl (by kernel_rfl) (by kernel_rfl) hW' hA0 (by simp) rfl (below_of_grown hw)⟩

theorem worldNil_holds : Rows.WorldNilSaid :=
  OpenClaim.holds_of_wide 6 Tryz.f6 rfl rfl rfl rfl rfl rfl rfl ⟨rfl, rfl, rfl, rfl, rfl⟩ rfl rfl rfl rfl rfl worldNil_named Tryz.func6 worldNil_facts worldNil_instance worldNil_wrapper
    (fun os started H enc _ => world_lifted os started H enc)

#print axioms worldNil_holds
end Go.Proofs.YtdmaodpmfbgcaaaGreat
