/-
  Short answers a Bool, whatever the change: on the abstract machine.
-/
import Derived.Test.YtdmaodpmfbgcaaaGreatVWalk
import Derived.Test.YtdmaodpmfbgcaaaGreatOrc
set_option maxRecDepth 100000
namespace Go.Proofs.Tryz
open Go Go.V
attribute [local simp] runOp wanted isHeavy light St.ev St.slot_mk sget_put St.put_mk AVal.cells? NewV.at nblt nble ofConst ofConst1 fieldOf shift readCells lget mkVal VD.isAgg lenOf sliceLen bin arith cmpInt natOf_cast elemAddr argSlots
theorem ty65 : ∃ z q e, (E orc0).ty.get 65 = some ⟨.struct [(63, 0), (3, 1), (9, 2), (2, 3)], 4, q, z, e⟩ := ⟨_, _, _, rfl⟩
theorem ty63 : ∃ z q e, (E orc0).ty.get 63 = some ⟨.slice 9, 1, q, z, e⟩ := ⟨_, _, _, rfl⟩
theorem ty9 : ∃ z q e, (E orc0).ty.get 9 = some ⟨.str, 1, q, z, e⟩ := ⟨_, _, _, rfl⟩

noncomputable def loop18 : Code := match f18.body with
  | some (.seq _ (.seq _ (.seq (.seq _ (.block _ l)) _))) => l
  | _ => .skip

theorem short_loop (strs : List ByteArray) (s : ByteArray) (m : Mem) (hm : m.get 0 = some ⟨65, [.imm (strs.map .str) strs.length, .any, .str s, .any], 0⟩) (hle : strs.length ≤ 9) : ∀ (j k : Nat) (sl : Slots), k + j = strs.length →
    sget sl 1 = .ptr 0 4 0 → sget sl 16 = .int .i64 (strs.length : Nat) → sget sl 17 = .int .i64 (k : Nat) →
    vwp (E orc0) loop18 (fun ex st => (ex = .exit 0 ∧ ∃ sl', st = ⟨18, 28, sl', m⟩) ∨ (ex = .ret ∧ ∃ b, sget st.slots 2 = .bool b)) ⟨18, 28, sl, m⟩ := by
  obtain ⟨z65, q65, e65, t65⟩ := ty65
  obtain ⟨z63, q63, e63, t63⟩ := ty63
  obtain ⟨z9, q9, e9, t9⟩ := ty9
  intro j
  induction j with
  | zero =>
    intro k sl hk h1 h16 h17
    have hk' : ¬ (k : Int) < (strs.length : Int) := by omega
    unfold loop18 f18
    refine vwp_loop (vwp_seq ?_)
    refine vwp_region ?_
    iterate 1 (refine vops_cons (n := 0) (by simp [h16, h17, hk']; rfl) ?_)
    refine vops_nil ?_
    refine vwp_seq (vwp_cond (t := false) (by simp [St.ev, St.slot_mk, sget_put]) (vwp_exit ?_))
    exact .inl ⟨rfl, _, rfl⟩
  | succ j ih =>
    intro k sl hk h1 h16 h17
    have hk' : (k : Int) < (strs.length : Int) := by omega
    have hk2 : k < strs.length := by omega
    have hk3 : k + 1 ≤ strs.length := by omega
    unfold loop18 f18
    refine vwp_loop (vwp_seq ?_)
    refine vwp_region ?_
    iterate 1 (refine vops_cons (n := 0) (by simp [h16, h17, hk']; rfl) ?_)
    refine vops_nil ?_
    refine vwp_seq (vwp_cond (t := true) (by simp [St.ev, St.slot_mk, sget_put]) (vwp_skip ?_))
    refine vwp_seq (vwp_block (vwp_seq ?_))
    refine vwp_region ?_
    iterate 2 (refine vops_cons (n := 0) (by simp [h17]; rfl) ?_)
    refine vops_nil ?_
    obtain ⟨x, rest, hx⟩ : ∃ x rest, strs.drop k = x :: rest := ⟨strs[k], strs.drop (k + 1), List.drop_eq_getElem_cons hk2⟩
    have hd : (strs.map AVal.str).drop k = .str x :: rest.map .str := by rw [← List.map_drop, hx]; rfl
    refine vwp_seq ?_
    refine vwp_region ?_
    iterate 7 (refine vops_cons (n := 0) (by simp [t65, t63, t9, hm, h1, hk2, hk3, hd]; rfl) ?_)
    refine vops_nil ?_
    by_cases c : (99 : Int) < (x.size : Int)
    · refine vwp_cond (t := true) (by simp [St.ev, St.slot_mk, sget_put, c]) ?_
      refine vwp_seq ?_
      refine vwp_region ?_
      iterate 1 (refine vops_cons (n := 0) (by simp; rfl) ?_)
      refine vops_nil ?_
      exact vwp_ret (.inr ⟨rfl, false, by simp [sget_put]⟩)
    · refine vwp_cond (t := false) (by simp [St.ev, St.slot_mk, sget_put, c]) ?_
      refine vwp_skip ?_
      refine vwp_region ?_
      iterate 2 (refine vops_cons (n := 0) (by simp [h17, wrap_succ (show k < 1000000000 by omega)]; rfl) ?_)
      refine vops_nil ?_
      refine ih (k + 1) _ (by omega) ?_ ?_ ?_
      · simp [sget_put, h1]
      · simp [sget_put, h16]
      · simp [sget_put]

theorem short_run (strs : List ByteArray) (s : ByteArray) : vwp (E orc0) ((f18.body).getD .skip) (fun ex st => (ex = .normal ∨ ex = .ret) ∧ ∃ b, sget st.slots 2 = .bool b)
    ⟨18, 28, argSlots 0 [.agg [.imm (strs.map .str) strs.length, .any, .str s, .any]] Slots.nil, Mem.nil⟩ := by
  obtain ⟨z65, q65, e65, t65⟩ := ty65
  obtain ⟨z63, q63, e63, t63⟩ := ty63
  obtain ⟨z9, q9, e9, t9⟩ := ty9
  have hm := get_add0 ⟨65, [.imm (strs.map .str) strs.length, .any, .str s, .any], 0⟩
  have hn : Mem.nil.next = 0 := rfl
  unfold f18
  simp only [Option.getD_some]
  refine vwp_seq ?_
  refine vwp_region ?_
  iterate 2 (refine vops_cons (n := 0) (by simp [hn]; rfl) ?_)
  refine vops_nil ?_
  have rest : ∀ (sl : Slots) (c : Code), sget sl 13 = .bool (decide (9 < strs.length) || decide (99 < s.size)) → sget sl 1 = .ptr 0 4 0 → True := fun _ _ _ _ => trivial
  clear rest
  by_cases c9 : (9 : Int) < (strs.length : Int)
  · refine vwp_seq (vwp_seq ?_)
    refine vwp_region ?_
    iterate 10 (refine vops_cons (n := 0) (by simp [t65, t63, hm, c9]; rfl) ?_)
    refine vops_nil ?_
    refine vwp_cond (t := true) (by simp [St.ev, St.slot_mk, sget_put]) ?_
    refine vwp_seq ?_
    refine vwp_region ?_
    iterate 1 (refine vops_cons (n := 0) (by simp; rfl) ?_)
    refine vops_nil ?_
    exact vwp_ret ⟨.inr rfl, false, by simp [sget_put]⟩
  · by_cases c99 : (99 : Int) < (s.size : Int)
    · refine vwp_seq (vwp_seq ?_)
      refine vwp_region ?_
      iterate 10 (refine vops_cons (n := 0) (by simp [t65, t63, t9, hm, c9, c99]; rfl) ?_)
      refine vops_nil ?_
      refine vwp_cond (t := true) (by simp [St.ev, St.slot_mk, sget_put]) ?_
      refine vwp_seq ?_
      refine vwp_region ?_
      iterate 1 (refine vops_cons (n := 0) (by simp; rfl) ?_)
      refine vops_nil ?_
      exact vwp_ret ⟨.inr rfl, false, by simp [sget_put]⟩
    · refine vwp_seq (vwp_seq ?_)
      refine vwp_region ?_
      iterate 10 (refine vops_cons (n := 0) (by simp [t65, t63, t9, hm, c9, c99]; rfl) ?_)
      refine vops_nil ?_
      refine vwp_cond (t := false) (by simp [St.ev, St.slot_mk, sget_put]) ?_
      refine vwp_skip ?_
      refine vwp_seq (vwp_seq ?_)
      refine vwp_region ?_
      iterate 4 (refine vops_cons (n := 0) (by simp [t65, t63, hm]; rfl) ?_)
      refine vops_nil ?_
      refine vwp_block ?_
      refine (short_loop strs s _ hm (by omega) strs.length 0 _ (by omega) ?_ ?_ ?_).mono ?_
      · simp [sget_put]
      · simp [sget_put]
      · simp [sget_put]
      · intro ex st h
        rcases h with ⟨rfl, sl', rfl⟩ | ⟨rfl, b, hb⟩
        · simp only [Ex.blockV, Ex.thenV]
          refine vwp_seq ?_
          refine vwp_region ?_
          iterate 1 (refine vops_cons (n := 0) (by simp; rfl) ?_)
          refine vops_nil ?_
          exact vwp_ret ⟨.inr rfl, true, by simp [sget_put]⟩
        · exact ⟨.inr rfl, b, hb⟩
end Go.Proofs.Tryz
