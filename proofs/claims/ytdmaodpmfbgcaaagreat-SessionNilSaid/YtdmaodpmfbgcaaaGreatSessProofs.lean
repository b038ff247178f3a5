/-
  SessionNil answers true for every change, and the change reads afterwards as it did. No condition.
-/
import Derived.Test.YtdmaodpmfbgcaaaGreatRows
import Derived.Test.YtdmaodpmfbgcaaaGreatSess
import Derived.Test.YtdmaodpmfbgcaaaGreatSessFacts
import Derived.ProofKit
import Derived.SliceStrings
import Derived.Lib.SmallJoins
set_option maxRecDepth 100000
namespace Go.Proofs.YtdmaodpmfbgcaaaGreat
open Go.ChangeShapes Go.WideShapes Go.ChangeAt Go.RowKit

theorem Tryz.own : ownKnob Tryz.prog.godebug = Option.none := by kernel_rfl
theorem Tryz.laidOut : laidOutB Tryz.prog = true := by kernel_rfl
theorem Tryz.cells65 : Tryz.prog.cellsOf 65 = 4 := by kernel_rfl
theorem Tryz.cells9 : Tryz.prog.cellsOf 9 = 1 := by kernel_rfl

theorem below_of_grown {w w' : World} (h : V.Grown w w') : Below w.heap.size w w' := ⟨h.os, h.tape, h.output, h.size, h.keep⟩

/-- The arguments read behind the call as they did. -/
theorem args_kept {H : Type} {enc : TypeId × Value → H} {W W' : World} (hb : Below W.heap.size W W') : ∀ (ts : List TypeId) (vs : List Value) (ds : List (DataW H)) (ps : List MemPlace), (∀ t ∈ ts, Tryz.prog.readableRec t = true ∧ t < Tryz.prog.types.size) → (∀ x ∈ ps, x.block < W.heap.size) →
    DataW.TrodAll enc Tryz.prog W 0 (fun _ => true) true ts vs ds ps → DataW.TrodAll enc Tryz.prog W' 0 (fun b => decide (b < W.heap.size)) true ts vs ds ps
  | [], [], [], _, _, _, h => h
  | [], _ :: _, _, _, _, _, h => h.elim
  | [], [], _ :: _, _, _, _, h => h.elim
  | _ :: _, [], _, _, _, _, h => h.elim
  | _ :: _, _ :: _, [], _, _, _, h => h.elim
  | t :: ts, v :: vs, d :: ds, ps, ht, hp, h => by
    obtain ⟨p, q, h1, h2, rfl⟩ := h
    refine ⟨p, q, ?_, args_kept hb ts vs ds q (fun t h => ht t (List.mem_cons_of_mem _ h)) (fun x hx => hp x (List.mem_append_right _ hx)) h2, rfl⟩
    exact Below.trod Tryz.laidOut (ht t (List.mem_cons_self ..)).1 (ht t (List.mem_cons_self ..)).2 h1 hb fun x hx => hp x (List.mem_append_left _ hx)

/-- What a law's row says, where the call left all memory as it was. -/
theorem law_post {H : Type} {enc : TypeId × Value → H} {f : Func} {s : ChangeSpec} {fresh : Bool} {W W' : World} {args : Array Value} {ds : List (DataW H)} {p before : List MemPlace} (hs : s.vars = []) (hr : f.resultTypes = #[4])
    (ht : (f.params.toList.all fun t => Tryz.prog.readableRec t && decide (t < Tryz.prog.types.size)) = true)
    (hW : DataW.Whole enc Tryz.prog f.params.toList s.vars false W args.toList ds [] before) (hA : DataW.TrodAll enc Tryz.prog W 0 (fun _ => true) true f.params.toList args.toList ds p) (hp : before = p)
    (hfn : s.fn H (ds ++ []) = { results := [.lit (.bool true)], args := ds }) (hb : Below W.heap.size W W') :
    s.post enc Tryz.prog f false fresh false false W args (.bool true) W' := by
  have hlt : ∀ x ∈ p, x.block < W.heap.size := fun x hx => by simpa using hW.lt x (by rw [hp]; exact hx)
  have ht' : ∀ t ∈ f.params.toList, Tryz.prog.readableRec t = true ∧ t < Tryz.prog.types.size := fun t h => by
    have := List.all_eq_true.1 ht t h
    simpa using this
  refine ⟨ds, [], before, [], p, [], hW, ?_, ?_, ?_, hb.frame _, fun h => by cases h⟩
  · rw [hfn, hr]
    show DataW.TrodAll enc Tryz.prog W' _ _ false [4] [.bool true] [.lit (.bool true)] []
    exact ⟨[], [], shut_bool Tryz.underlying4 true, rfl, rfl⟩
  · rw [hfn]; exact args_kept hb _ _ _ _ ht' hlt hA
  · rw [hfn, hs]; rfl

/-- A change as it lies in memory. -/
theorem op_reads {H : Type} {enc : TypeId × Value → H} {W : World} {base : Nat} {v : Value} {d : DataW H} {p : List MemPlace} (hv : Value.okWide Tryz.prog W .any base 65 v) (h : DataW.Trod enc Tryz.prog W 0 (fun _ => true) true 65 v d p) :
    ∃ (c0 c1 c2 c3 : Value) (strs : List ByteArray) (s : ByteArray), v = .agg #[c0, c1, c2, c3] ∧ Tryz.ReadsOp (Tryz.ctxOf W [c0, c1, c2, c3]) strs s [.agg #[c0, c1, c2, c3]] ∧ c0.oneCell' = true ∧ c1.oneCell' = true ∧ c2.oneCell' = true ∧ c3.oneCell' = true := by
  obtain ⟨c0, c1, c2, c3, y0, y1, y2, y3, n, rfl, _, _, t0, t1, t2, t3⟩ := Joins.open_agg4 Tryz.underlying65 (by kernel_rfl) Tryz.cells65 hv h
  have e1 : ∃ k z, c1 = .int k z := by
    obtain ⟨z, hz, _⟩ := DataW.trod_int Tryz.underlying3 (show DataW.trod enc Tryz.prog W 0 (fun _ => true) true n 3 [c1] = some y1 from t1)
    exact ⟨_, z, by simpa using hz⟩
  have e2 : ∃ s, c2 = .string s := by
    obtain ⟨z, hz, _⟩ := DataW.trod_string Tryz.underlying9 (show DataW.trod enc Tryz.prog W 0 (fun _ => true) true n 9 [c2] = some y2 from t2)
    exact ⟨z, by simpa using hz⟩
  have e3 : ∃ k z, c3 = .int k z := by
    obtain ⟨z, hz, _⟩ := DataW.trod_int Tryz.underlying2 (show DataW.trod enc Tryz.prog W 0 (fun _ => true) true n 2 [c3] = some y3 from t3)
    exact ⟨_, z, by simpa using hz⟩
  obtain ⟨k1, z1, rfl⟩ := e1
  obtain ⟨s, rfl⟩ := e2
  obtain ⟨k3, z3, rfl⟩ := e3
  have all : ∀ (strs : List ByteArray) (c0 : Value), c0.oneCell' = true → V.VR (Tryz.ctxOf W [c0, .int k1 z1, .string s, .int k3 z3]) (.imm (strs.map .str) strs.length) c0 →
      Tryz.ReadsOp (Tryz.ctxOf W [c0, .int k1 z1, .string s, .int k3 z3]) strs s [.agg #[c0, .int k1 z1, .string s, .int k3 z3]] := by
    intro strs c0 ho h0
    simp only [Tryz.ReadsOp, V.VRs]
    refine ⟨_, [], rfl, ?_, rfl⟩
    rw [V.VR]
    refine ⟨_, rfl, ?_, ?_⟩
    · simp only [V.VRs]
      refine ⟨_, _, rfl, h0, _, _, rfl, by simp only [V.VR], _, _, rfl, by simp only [V.VR], _, _, rfl, by simp only [V.VR], rfl⟩
    · intro u hu
      simp only [List.mem_cons, List.not_mem_nil, or_false] at hu
      rcases hu with rfl | rfl | rfl | rfl <;> first | assumption | rfl
  rcases open_strings Tryz.underlying63 Tryz.underlying9 Tryz.cells9 (show DataW.trod enc Tryz.prog W 0 (fun _ => true) true n 63 [c0] = some y0 from t0) with ⟨hcs, _⟩ | ⟨a, len, cap, ss, hcs, _, hl, _, hz, _, hcell, _⟩
  · obtain rfl : c0 = .slice Option.none 0 0 := by simpa using hcs
    refine ⟨_, _, _, _, [], s, rfl, all [] _ rfl ?_, rfl, rfl, rfl, rfl⟩
    rw [V.VR]
    exact ⟨_, 0, rfl, Nat.le_refl _, fun h => absurd rfl h⟩
  · obtain rfl : c0 = .slice (some a) len cap := by simpa using hcs
    have hz' : ss.length = cap := by simpa using hz
    have hlen : (ss.take len).length = len := by rw [List.length_take]; omega
    refine ⟨_, _, _, _, ss.take len, s, rfl, all (ss.take len) _ rfl ?_, rfl, rfl, rfl, rfl⟩
    rw [V.VR]
    refine ⟨some a, cap, by rw [hlen], by rw [hlen]; exact hl, fun hne => ⟨a, rfl, ?_, ?_⟩⟩
    · have hpos : 0 < ss.length := by
        cases ss with
        | nil => simp at hne
        | cons _ _ => simp
      have := hcell 0 hpos
      cases hs : a.spot with
      | none => rfl
      | some q =>
        rw [show a.add 0 = a from rfl] at this
        unfold World.cell? at this
        rw [hs] at this
        split at this
        · simp at this
        · cases this
    · refine Tryz.roRel_of _ _ _ fun i x hx => ?_
      rw [List.getElem?_map] at hx
      cases hg : (ss.take len)[i]? with
      | none => rw [hg] at hx; cases hx
      | some b =>
        rw [hg] at hx
        cases hx
        have hi : i < len := by
          have := (List.getElem?_eq_some_iff.1 hg).1
          omega
        rw [List.getElem?_take_of_lt hi] at hg
        have hi2 := (List.getElem?_eq_some_iff.1 hg).1
        refine ⟨.string b, ?_, by simp only [V.VR], rfl⟩
        have := hcell i hi2
        rw [List.getD_eq_getElem?_getD, hg] at this
        show W.cell? ⟨a.block, a.off + i, Option.none⟩ = _
        have hsp : (a.add i).spot = Option.none := by
          cases hs : (a.add i).spot with
          | none => rfl
          | some q =>
            unfold World.cell? at this
            rw [hs] at this
            split at this
            · simp at this
            · cases this
        have hadd : (⟨a.block, a.off + i, Option.none⟩ : Addr) = a.add i := by
          unfold Addr.add at hsp ⊢
          by_cases h0 : i = 0
          · subst h0
            simp only [if_pos] at hsp ⊢
            rw [← hsp]; rfl
          · rw [if_neg h0]
        rw [hadd]; exact this

theorem sess_lifted (os : Os) (started : os.Started) (H : Type) (enc : TypeId × Value → H) :
    ReturnsInHanded {} Tryz.checked os 4 .any (Rows.sessionNilSpec.pre6 enc Tryz.prog Tryz.f4 Rows.sessionNilRow.domain false) (Rows.sessionNilSpec.post enc Tryz.prog Tryz.f4 false true false false) := by
  refine returnsInHanded_of_change (C := Tryz.checked) Tryz.own started (by kernel_rfl) Tryz.func4
    (ChangeSpec.witness6 (enc := enc) (C := Tryz.checked) false ⟨#[], #[.agg #[.slice Option.none 0 0, .int .i64 0, .string ByteArray.empty, .int .i64 0]], []⟩ 8 (by kernel_rfl) (by kernel_rfl) (by kernel_rfl) (by kernel_rfl)) ?_
  intro W base args ds gs before hval0 hW hcnd _
  have hval : ∀ (j : Nat) t v, Tryz.f4.params[j]? = some t → args[j]? = some v → Value.okWide Tryz.prog W .any base t v := hval0
  have hW' := hW
  obtain ⟨p, q, hA0, hV, rfl, hfz, hnd⟩ := hW
  have hA : DataW.TrodAll enc Tryz.prog W 0 (fun _ => true) true Tryz.f4.params.toList args.toList ds p := hA0
  rw [Tryz.params4] at hA hval
  obtain ⟨v0, d0, rfl, rfl, h0⟩ := trodAll_one hA
  obtain ⟨rfl, rfl⟩ := trodVars_none hV
  obtain ⟨c0, c1, c2, c3, strs, s, rfl, hr, o0, o1, o2, o3⟩ := op_reads (hval 0 65 v0 rfl rfl) h0
  refine (Tryz.sess_calls hr o0 o1 o2 o3).mono fun e W' ⟨he, hw⟩ => ?_
  subst he
  exact ⟨_, rfl, law_post rfl (by kernel_rfl) (by kernel_rfl) hW' hA0 (by simp) rfl (below_of_grown hw)⟩

theorem sessionNil_holds : Rows.SessionNilSaid :=
  OpenClaim.holds_of_wide 4 Tryz.f4 rfl rfl rfl rfl rfl rfl rfl ⟨rfl, rfl, rfl, rfl, rfl⟩ rfl rfl rfl rfl rfl sessionNil_named Tryz.func4 sessionNil_facts sessionNil_instance sessionNil_wrapper
    (fun os started H enc _ => sess_lifted os started H enc)

#print axioms sessionNil_holds
end Go.Proofs.YtdmaodpmfbgcaaaGreat
