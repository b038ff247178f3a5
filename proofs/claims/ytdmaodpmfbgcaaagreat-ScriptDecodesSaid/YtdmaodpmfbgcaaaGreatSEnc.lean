/-
  A script put, whole, on the abstract machine.
-/
import Derived.Test.YtdmaodpmfbgcaaaGreatSConv
import Derived.Test.YtdmaodpmfbgcaaaGreatSRef
set_option maxRecDepth 100000
namespace Go.Proofs.Tryz
open Go Go.V Go.SC
attribute [local simp] runOp wanted isHeavy light St.ev St.slot_mk sget_put St.put_mk cl_int cl_bool cl_str cl_ptr cl_nil cl_ref cl_imm cl_agg cl_nilp NewV.at nblt nble nbeq ofConst ofConst1 fieldOf sh_ptr sh_iptr rc_ptr rc_iptr lget mkVal VD.isAgg lenOf bin ar_add ar_sub ar_mul ar_eql ar_neq ar_lss ar_leq ar_gtr ar_geq argSlots un heavy writeCells lput eqVals next_add next_upd fillA zeros natOf_cast natOf_succ
theorem fns51 : ES.fns.get 51 = some f51 := by kernel_rfl
theorem vntmps51 : f51.ntmps = 92 := by kernel_rfl
theorem vresults51 : f51.results.toList = [.tmp 2, .tmp 3] := by kernel_rfl
theorem body51 : f51.body = some ((f51.body).getD .skip) := by kernel_rfl
noncomputable def loopA51 : Code := match f51.body with
  | some (.seq _ (.seq _ (.seq _ (.seq (.seq _ (.block _ l)) _)))) => l
  | _ => .skip
noncomputable def loopB51 : Code := match f51.body with
  | some (.seq _ (.seq _ (.seq _ (.seq _ (.seq (.seq _ (.block _ l)) _))))) => l
  | _ => .skip
noncomputable def loopC51 : Code := match loopB51 with
  | .loop (.seq _ (.seq _ (.seq (.block _ (.seq _ (.seq (.seq _ (.block _ l)) _))) _))) => l
  | _ => .skip
noncomputable def loopD51 : Code := match loopB51 with
  | .loop (.seq _ (.seq _ (.seq (.block _ (.seq _ (.seq _ (.seq (.seq _ (.block _ l)) _)))) _))) => l
  | _ => .skip
theorem OutR.fr0 {m m' : Mem} {k o : Nat} {bs : List UInt8} (hF : Fr S0 m m' k) (h : OutR m o bs) : OutR m' o bs := by
  obtain ⟨v, h1, h2⟩ := h; exact ⟨v, hF.keep o _ h1 rfl, h2.fr hF rfl⟩
theorem numsB_append (a b : List Int) : numsB (a ++ b) = numsB a ++ numsB b := by simp [numsB]
theorem numB_le10 {n : Int} (h1 : -9223372036854775808 ≤ n) (h2 : n ≤ 9223372036854775807) : (numB n).length ≤ 10 := enc7_len 9 _ (by
  have : (18446744073709551616 : Nat) ≤ 2 ^ (7 * (9 + 1)) := by decide
  have := zig_lt h1 h2
  omega)


theorem encA_loop (m : Mem) (w : AVal) (o : Nat) (bs : List UInt8) (l : List Int) (hw : SlV m 3 1 w (intE l)) (hl : l.length ≤ 100) (hb : ∀ n ∈ l, -9223372036854775808 ≤ n ∧ n ≤ 9223372036854775807) (hm : m.next ≤ 700000) (hbl : bs.length ≤ 500000) :
    ∀ (j k : Nat) (sl : Slots) (mm : Mem), k + j = l.length → sget sl 25 = w → sget sl 4 = .ptr o 1 0 → sget sl 26 = .int .i64 (l.length : Nat) → sget sl 27 = .int .i64 (k : Nat) → OutR mm o (bs ++ numsB (l.take k)) → Fr SO m mm (30 * k) → (numsB (l.take k)).length ≤ 10 * k →
    vwp ES loopA51 (fun ex st => ex = .exit 0 ∧ ∃ sl' mm', st = ⟨51, 92, sl', mm'⟩ ∧ (∀ d ∈ [1, 4], sget sl' d = sget sl d) ∧ OutR mm' o (bs ++ numsB l) ∧ Fr SO m mm' (30 * l.length)) ⟨51, 92, sl, mm⟩ := by
  intro j
  induction j with
  | zero =>
    intro k sl mm hij hS hO hL hI hR hF hlen
    obtain rfl : k = l.length := by omega
    unfold loopA51  f51
    refine vwp_loop (vwp_seq ?_)
    refine vwp_region ?_
    iterate 1 (refine vops_cons (n := 0) (by simp (maxSteps := 1000000) [hL, hI]; rfl) ?_)
    refine vops_nil ?_
    refine vwp_seq (vwp_cond (t := false) (by simp [St.ev, St.slot_mk, sget_put]) (vwp_exit ?_))
    rw [List.take_length] at hR
    refine ⟨rfl, _, mm, rfl, ?_, hR, hF⟩
    intro d hd
    simp only [List.mem_cons, List.not_mem_nil, or_false] at hd
    rcases hd with rfl | rfl <;> simp
  | succ j ih =>
    intro k sl mm hij hS hO hL hI hR hF hlen
    have hk : k < l.length := by omega
    have hk' : (k : Int) < (l.length : Int) := by omega
    obtain ⟨n, hn⟩ : ∃ n, l[k]? = some n := ⟨l[k], List.getElem?_eq_getElem hk⟩
    have hnb := hb n (List.mem_of_getElem? hn)
    have htk : l.take (k + 1) = l.take k ++ [n] := by rw [List.take_add_one, hn]; rfl
    have hmx := hF.most
    obtain ⟨q, hA, hRd⟩ := (hw.fr hF rfl).elem (E := ES) ty230 rfl ty3 rfl (by decide) (i := k) (x := [.int .i64 n]) (by simp [intE, hn])
    unfold loopA51  f51
    refine vwp_loop (vwp_seq ?_)
    refine vwp_region ?_
    iterate 1 (refine vops_cons (n := 0) (by simp (maxSteps := 1000000) [hL, hI, hk']; rfl) ?_)
    refine vops_nil ?_
    refine vwp_seq (vwp_cond (t := true) (by simp [St.ev, St.slot_mk, sget_put]) (vwp_skip ?_))
    refine vwp_seq (vwp_block (vwp_seq (vwp_region ?_)))
    iterate 1 (refine vops_cons (n := 0) (by simp (maxSteps := 1000000) [hS, hI, hA]; rfl) ?_)
    refine vops_load (v := .int .i64 n) rfl rfl ty3 (by simp; exact hRd) rfl ⟨_, by simp; rfl, ?_⟩
    iterate 1 (refine vops_cons (n := 0) (by simp (maxSteps := 1000000) []; rfl) ?_)
    refine vops_nil (vwp_region ?_)
    iterate 1 (refine vops_cons (n := 0) (by simp (maxSteps := 1000000) []; rfl) ?_)
    refine vops_callv (g := 128) (first := []) (cap := []) (avs := [.ptr o 1 0, .int .i64 n]) rfl rfl rfl (by simp [hO]) ?_
    refine (outNum_ok (m := mm) hR hnb.1 hnb.2 (by omega) (by rw [List.length_append]; omega)).mono fun r m1 h => ?_
    obtain ⟨rfl, hR1, hF1⟩ := h
    refine ⟨_, by simp; rfl, vops_nil ?_⟩
    refine vwp_region ?_
    iterate 2 (refine vops_cons (n := 0) (by simp (maxSteps := 1000000) [hI, wrap_up (show k < 1000000000 by omega)]; rfl) ?_)
    refine vops_nil ?_
    have hnn : bs ++ numsB (l.take (k + 1)) = bs ++ numsB (l.take k) ++ numB n := by rw [htk]; simp [numsB]
    have h10 := numB_le10 hnb.1 hnb.2
    refine (ih (k + 1) _ m1 (by omega) (by simp [hS]) (by simp [hO]) (by simp [hL]) (by simp) (by rw [hnn]; exact hR1) ((hF.trans hF1 (Nat.le_refl _)).le (by omega)) (by rw [htk, numsB_append, List.length_append]; simp [numsB] at *; omega)).mono ?_
    rintro ex st ⟨rfl, sl', mm', rfl, hK, h1, h2⟩
    refine ⟨rfl, sl', mm', rfl, ?_, h1, h2⟩
    intro d hd
    rw [hK d hd]
    simp only [List.mem_cons, List.not_mem_nil, or_false] at hd
    rcases hd with rfl | rfl <;> simp


theorem encC_loop (m : Mem) (w : AVal) (o : Nat) (bs : List UInt8) (l : List Int) (hw : SlV m 3 1 w (intE l)) (hl : l.length ≤ 100) (hb : ∀ n ∈ l, -9223372036854775808 ≤ n ∧ n ≤ 9223372036854775807) (hm : m.next ≤ 700000) (hbl : bs.length ≤ 500000) :
    ∀ (j k : Nat) (sl : Slots) (mm : Mem), k + j = l.length → sget sl 56 = w → sget sl 4 = .ptr o 1 0 → sget sl 57 = .int .i64 (l.length : Nat) → sget sl 58 = .int .i64 (k : Nat) → OutR mm o (bs ++ numsB (l.take k)) → Fr SO m mm (30 * k) → (numsB (l.take k)).length ≤ 10 * k →
    vwp ES loopC51 (fun ex st => ex = .exit 4 ∧ ∃ sl' mm', st = ⟨51, 92, sl', mm'⟩ ∧ (∀ d ∈ [1, 4, 8, 35, 36, 37], sget sl' d = sget sl d) ∧ OutR mm' o (bs ++ numsB l) ∧ Fr SO m mm' (30 * l.length)) ⟨51, 92, sl, mm⟩ := by
  intro j
  induction j with
  | zero =>
    intro k sl mm hij hS hO hL hI hR hF hlen
    obtain rfl : k = l.length := by omega
    unfold loopC51 loopB51 f51
    refine vwp_loop (vwp_seq ?_)
    refine vwp_region ?_
    iterate 1 (refine vops_cons (n := 0) (by simp (maxSteps := 1000000) [hL, hI]; rfl) ?_)
    refine vops_nil ?_
    refine vwp_seq (vwp_cond (t := false) (by simp [St.ev, St.slot_mk, sget_put]) (vwp_exit ?_))
    rw [List.take_length] at hR
    refine ⟨rfl, _, mm, rfl, ?_, hR, hF⟩
    intro d hd
    simp only [List.mem_cons, List.not_mem_nil, or_false] at hd
    rcases hd with rfl | rfl | rfl | rfl | rfl | rfl <;> simp
  | succ j ih =>
    intro k sl mm hij hS hO hL hI hR hF hlen
    have hk : k < l.length := by omega
    have hk' : (k : Int) < (l.length : Int) := by omega
    obtain ⟨n, hn⟩ : ∃ n, l[k]? = some n := ⟨l[k], List.getElem?_eq_getElem hk⟩
    have hnb := hb n (List.mem_of_getElem? hn)
    have htk : l.take (k + 1) = l.take k ++ [n] := by rw [List.take_add_one, hn]; rfl
    have hmx := hF.most
    obtain ⟨q, hA, hRd⟩ := (hw.fr hF rfl).elem (E := ES) ty230 rfl ty3 rfl (by decide) (i := k) (x := [.int .i64 n]) (by simp [intE, hn])
    unfold loopC51 loopB51 f51
    refine vwp_loop (vwp_seq ?_)
    refine vwp_region ?_
    iterate 1 (refine vops_cons (n := 0) (by simp (maxSteps := 1000000) [hL, hI, hk']; rfl) ?_)
    refine vops_nil ?_
    refine vwp_seq (vwp_cond (t := true) (by simp [St.ev, St.slot_mk, sget_put]) (vwp_skip ?_))
    refine vwp_seq (vwp_block (vwp_seq (vwp_region ?_)))
    iterate 1 (refine vops_cons (n := 0) (by simp (maxSteps := 1000000) [hS, hI, hA]; rfl) ?_)
    refine vops_load (v := .int .i64 n) rfl rfl ty3 (by simp; exact hRd) rfl ⟨_, by simp; rfl, ?_⟩
    iterate 1 (refine vops_cons (n := 0) (by simp (maxSteps := 1000000) []; rfl) ?_)
    refine vops_nil (vwp_region ?_)
    iterate 1 (refine vops_cons (n := 0) (by simp (maxSteps := 1000000) []; rfl) ?_)
    refine vops_callv (g := 128) (first := []) (cap := []) (avs := [.ptr o 1 0, .int .i64 n]) rfl rfl rfl (by simp [hO]) ?_
    refine (outNum_ok (m := mm) hR hnb.1 hnb.2 (by omega) (by rw [List.length_append]; omega)).mono fun r m1 h => ?_
    obtain ⟨rfl, hR1, hF1⟩ := h
    refine ⟨_, by simp; rfl, vops_nil ?_⟩
    refine vwp_region ?_
    iterate 2 (refine vops_cons (n := 0) (by simp (maxSteps := 1000000) [hI, wrap_up (show k < 1000000000 by omega)]; rfl) ?_)
    refine vops_nil ?_
    have hnn : bs ++ numsB (l.take (k + 1)) = bs ++ numsB (l.take k) ++ numB n := by rw [htk]; simp [numsB]
    have h10 := numB_le10 hnb.1 hnb.2
    refine (ih (k + 1) _ m1 (by omega) (by simp [hS]) (by simp [hO]) (by simp [hL]) (by simp) (by rw [hnn]; exact hR1) ((hF.trans hF1 (Nat.le_refl _)).le (by omega)) (by rw [htk, numsB_append, List.length_append]; simp [numsB] at *; omega)).mono ?_
    rintro ex st ⟨rfl, sl', mm', rfl, hK, h1, h2⟩
    refine ⟨rfl, sl', mm', rfl, ?_, h1, h2⟩
    intro d hd
    rw [hK d hd]
    simp only [List.mem_cons, List.not_mem_nil, or_false] at hd
    rcases hd with rfl | rfl | rfl | rfl | rfl | rfl <;> simp


def textsB (l : List (List UInt8)) : List UInt8 := (l.map txtB).flatten
theorem encD_loop (m : Mem) (w : AVal) (o : Nat) (bs : List UInt8) (l : List (List UInt8)) (hw : SlV m 9 1 w (strE l)) (hl : l.length ≤ 100) (hb : ∀ n ∈ l, n.length ≤ 30) (hm : m.next ≤ 700000) (hbl : bs.length ≤ 500000) :
    ∀ (j k : Nat) (sl : Slots) (mm : Mem), k + j = l.length → sget sl 67 = w → sget sl 4 = .ptr o 1 0 → sget sl 68 = .int .i64 (l.length : Nat) → sget sl 69 = .int .i64 (k : Nat) → OutR mm o (bs ++ textsB (l.take k)) → Fr SO m mm (31 * k) → (textsB (l.take k)).length ≤ 31 * k →
    vwp ES loopD51 (fun ex st => ex = .exit 6 ∧ ∃ sl' mm', st = ⟨51, 92, sl', mm'⟩ ∧ (∀ d ∈ [1, 4, 8, 35, 36, 37], sget sl' d = sget sl d) ∧ OutR mm' o (bs ++ textsB l) ∧ Fr SO m mm' (31 * l.length)) ⟨51, 92, sl, mm⟩ := by
  intro j
  induction j with
  | zero =>
    intro k sl mm hij hS hO hL hI hR hF hlen
    obtain rfl : k = l.length := by omega
    unfold loopD51 loopB51 f51
    refine vwp_loop (vwp_seq ?_)
    refine vwp_region ?_
    iterate 1 (refine vops_cons (n := 0) (by simp (maxSteps := 1000000) [hL, hI]; rfl) ?_)
    refine vops_nil ?_
    refine vwp_seq (vwp_cond (t := false) (by simp [St.ev, St.slot_mk, sget_put]) (vwp_exit ?_))
    rw [List.take_length] at hR
    refine ⟨rfl, _, mm, rfl, ?_, hR, hF⟩
    intro d hd
    simp only [List.mem_cons, List.not_mem_nil, or_false] at hd
    rcases hd with rfl | rfl | rfl | rfl | rfl | rfl <;> simp
  | succ j ih =>
    intro k sl mm hij hS hO hL hI hR hF hlen
    have hk : k < l.length := by omega
    have hk' : (k : Int) < (l.length : Int) := by omega
    obtain ⟨n, hn⟩ : ∃ n, l[k]? = some n := ⟨l[k], List.getElem?_eq_getElem hk⟩
    have hnb := hb n (List.mem_of_getElem? hn)
    have htk : l.take (k + 1) = l.take k ++ [n] := by rw [List.take_add_one, hn]; rfl
    have hmx := hF.most
    obtain ⟨q, hA, hRd⟩ := (hw.fr hF rfl).elem (E := ES) ty63 rfl ty9 rfl (by decide) (i := k) (x := [.str (mkS n)]) (by simp [strE, hn])
    unfold loopD51 loopB51 f51
    refine vwp_loop (vwp_seq ?_)
    refine vwp_region ?_
    iterate 1 (refine vops_cons (n := 0) (by simp (maxSteps := 1000000) [hL, hI, hk']; rfl) ?_)
    refine vops_nil ?_
    refine vwp_seq (vwp_cond (t := true) (by simp [St.ev, St.slot_mk, sget_put]) (vwp_skip ?_))
    refine vwp_seq (vwp_block (vwp_seq (vwp_region ?_)))
    iterate 1 (refine vops_cons (n := 0) (by simp (maxSteps := 1000000) [hS, hI, hA]; rfl) ?_)
    refine vops_load (v := .str (mkS n)) rfl rfl ty9 (by simp; exact hRd) rfl ⟨_, by simp; rfl, ?_⟩
    iterate 1 (refine vops_cons (n := 0) (by simp (maxSteps := 1000000) []; rfl) ?_)
    refine vops_nil (vwp_region ?_)
    iterate 1 (refine vops_cons (n := 0) (by simp (maxSteps := 1000000) []; rfl) ?_)
    refine vops_callv (g := 129) (first := []) (cap := []) (avs := [.ptr o 1 0, .str (mkS n)]) rfl rfl rfl (by simp [hO]) ?_
    refine (outText_ok (m := mm) hR (by omega) (by rw [List.length_append]; omega) (by omega)).mono fun r m1 h => ?_
    obtain ⟨rfl, hR1, hF1⟩ := h
    refine ⟨_, by simp; rfl, vops_nil ?_⟩
    refine vwp_region ?_
    iterate 2 (refine vops_cons (n := 0) (by simp (maxSteps := 1000000) [hI, wrap_up (show k < 1000000000 by omega)]; rfl) ?_)
    refine vops_nil ?_
    have hnn : bs ++ textsB (l.take (k + 1)) = bs ++ textsB (l.take k) ++ txtB n := by rw [htk]; simp [textsB]
    have h10 := txtB_len hnb
    have hln2 : (textsB (l.take (k + 1))).length = (textsB (l.take k)).length + (txtB n).length := by rw [htk]; simp [textsB]
    refine (ih (k + 1) _ m1 (by omega) (by simp [hS]) (by simp [hO]) (by simp [hL]) (by simp) (by rw [hnn]; exact hR1) ((hF.trans hF1 (Nat.le_refl _)).le (by omega)) (by omega)).mono ?_
    rintro ex st ⟨rfl, sl', mm', rfl, hK, h1, h2⟩
    refine ⟨rfl, sl', mm', rfl, ?_, h1, h2⟩
    intro d hd
    rw [hK d hd]
    simp only [List.mem_cons, List.not_mem_nil, or_false] at hd
    rcases hd with rfl | rfl | rfl | rfl | rfl | rfl <;> simp

end Go.Proofs.Tryz
