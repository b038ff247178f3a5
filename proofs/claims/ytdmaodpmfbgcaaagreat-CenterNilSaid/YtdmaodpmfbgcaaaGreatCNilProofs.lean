/-
  CenterNil answers true for every number, change and message, and these read afterwards as they did. No condition.
-/
import Derived.Test.YtdmaodpmfbgcaaaGreatLaw
import Derived.Test.YtdmaodpmfbgcaaaGreatCNil
import Derived.Test.YtdmaodpmfbgcaaaGreatCNilFacts
set_option maxRecDepth 100000
namespace Go.Proofs.YtdmaodpmfbgcaaaGreat
open Go.ChangeShapes Go.WideShapes Go.ChangeAt Go.RowKit

theorem fit_of {H : Type} {ts : List TypeId} {ds : List (DataW H)} {j : Nat} {t : TypeId} {d : DataW H} (h : (DataW.weightsEach Tryz.prog ts ds).all (· ≤ reachBytes) = true) (ht : ts[j]? = some t) (hd : ds[j]? = some d) : Tryz.Fit t d := fun n hn => by
  have := List.all_eq_true.1 h n (DataW.weights_mem_each ht hd n hn)
  simpa using this

theorem cnil_lifted (os : Os) (started : os.Started) (H : Type) (enc : TypeId × Value → H) :
    ReturnsInHanded {} Tryz.checked os 5 .any (Rows.centerNilSpec.pre6 enc Tryz.prog Tryz.f5 Rows.centerNilRow.domain false) (Rows.centerNilSpec.post enc Tryz.prog Tryz.f5 false true false false) := by
  refine returnsInHanded_of_change_sized (C := Tryz.checked) Tryz.own started (by kernel_rfl) Tryz.func5
    (ChangeSpec.witness6 (enc := enc) (C := Tryz.checked) false ⟨#[], #[.int .i64 0, .agg #[.slice Option.none 0 0, .int .i64 0, .string ByteArray.empty, .int .i64 0],
      .agg #[.int .i64 0, .int .i64 0, .int .i64 0, .int .i64 0, .int .i64 0, .int .i64 0, .int .i64 0, .slice Option.none 0 0, .slice Option.none 0 0, .slice Option.none 0 0, .slice Option.none 0 0]], []⟩ 8 (by kernel_rfl) (by kernel_rfl) (by kernel_rfl) (by kernel_rfl)) ?_
  intro W base args ds gs before hval0 hW hcnd hsz _
  have hval : ∀ (j : Nat) t v, Tryz.f5.params[j]? = some t → args[j]? = some v → Value.okWide Tryz.prog W .any base t v := hval0
  have hsz' : (DataW.weightsEach Tryz.prog (Tryz.f5.params.toList ++ Rows.centerNilSpec.plain.varTypes Tryz.prog) (ds ++ gs)).all (· ≤ reachBytes) = true := hsz
  have hW' := hW
  obtain ⟨p, q, hA0, hV, rfl, hfz, hnd⟩ := hW
  have hA : DataW.TrodAll enc Tryz.prog W 0 (fun _ => true) true Tryz.f5.params.toList args.toList ds p := hA0
  rw [Tryz.params5] at hA hval hsz'
  obtain ⟨v0, v1, v2, d0, d1, d2, p0, p1, p2, rfl, rfl, rfl, h0, h1, h2⟩ := trodAll_three hA
  obtain ⟨rfl, rfl⟩ := trodVars_none hV
  obtain ⟨us1, rfl, _⟩ := okWide_struct Tryz.underlying65 (hval 1 65 v1 rfl rfl)
  obtain ⟨us2, rfl, _⟩ := okWide_struct Tryz.underlying89 (hval 2 89 v2 rfl rfl)
  obtain ⟨f1, t1⟩ := h1
  obtain ⟨f2, t2⟩ := h2
  obtain ⟨strs, s, l1, o1, r1⟩ := op_read (x := (d1, p1)) t1 (fit_of (j := 1) hsz' rfl rfl)
  obtain ⟨b, o, l2, o2, r2⟩ := Tryz.msg_read (x := (d2, p2)) t2 (fit_of (j := 2) hsz' rfl rfl)
  have l1' : us1.toList.length = 4 := l1
  have l2' : us2.toList.length = 11 := l2
  obtain ⟨bss, n, kss, c, hb, hT, hdeep, htags⟩ := r2 (Tryz.ctxM W (us1.toList ++ us2.toList) b o) (fun _ _ => rfl)
    (fun i hi => by
      show (if 4 + i < 100 then _ else _) = _
      rw [if_pos (by omega), List.getD_eq_getElem?_getD, List.getElem?_append_right (by omega), show 4 + i - us1.toList.length = i by omega, ← List.getD_eq_getElem?_getD]; rfl)
    (fun q => by
      show (if 100 + q < 100 then _ else _) = _
      rw [if_neg (by omega), show 100 + q - 100 = q by omega])
  have hcalls := Tryz.cnil_calls (W := W) (v0 := v0) (b := b) (o := o) l1' l2' o1 o2 (r1 _ fun _ _ => rfl) hb hT hdeep htags
  rw [Array.toArray_toList, Array.toArray_toList] at hcalls
  refine hcalls.mono fun e W' ⟨he, hw⟩ => ?_
  subst he
  exact ⟨_, rfl, law_post rfl (by kernel_rfl) (by kernel_rfl) hW' hA0 (by simp) rfl (below_of_grown hw)⟩

theorem centerNil_holds : Rows.CenterNilSaid :=
  OpenClaim.holds_of_wide 5 Tryz.f5 rfl rfl rfl rfl rfl rfl rfl ⟨rfl, rfl, rfl, rfl, rfl⟩ rfl rfl rfl rfl rfl centerNil_named Tryz.func5 centerNil_facts centerNil_instance centerNil_wrapper
    (fun os started H enc _ => cnil_lifted os started H enc)

#print axioms centerNil_holds
end Go.Proofs.YtdmaodpmfbgcaaaGreat
