/-
  The reference's bytes of a script, on the abstract machine.
-/
import Derived.Test.YtdmaodpmfbgcaaaGreatSEnc2
set_option maxRecDepth 100000
namespace Go.Proofs.Tryz
open Go Go.V Go.SC
attribute [local simp] runOp wanted isHeavy light St.ev St.slot_mk sget_put St.put_mk cl_int cl_bool cl_str cl_ptr cl_nil cl_ref cl_imm cl_agg cl_nilp NewV.at nblt nble nbeq ofConst ofConst1 fieldOf sh_ptr sh_iptr rc_ptr rc_iptr lget mkVal VD.isAgg lenOf bin ar_add ar_sub ar_mul ar_eql ar_neq ar_lss ar_leq ar_gtr ar_geq argSlots un heavy writeCells lput eqVals next_add next_upd fillA zeros natOf_cast natOf_succ
theorem fns55 : ES.fns.get 55 = some f55 := by kernel_rfl
theorem vntmps55 : f55.ntmps = 86 := by kernel_rfl
theorem vresults55 : f55.results.toList = [.tmp 2] := by kernel_rfl
theorem body55 : f55.body = some ((f55.body).getD .skip) := by kernel_rfl
noncomputable def loopA55 : Code := match f55.body with
  | some (.seq _ (.seq _ (.seq (.seq _ (.block _ l)) _))) => l
  | _ => .skip
noncomputable def loopB55 : Code := match loopA55 with
  | .loop (.seq _ (.seq _ (.seq (.block _ (.seq _ (.seq _ (.seq _ (.seq (.seq _ (.block _ l)) _))))) _))) => l
  | _ => .skip
/-- Bytes that a call answered are appended to what grows. -/
theorem grow_step {base mm m1 : Mem} {a c : Nat} {v : AVal} {bs : List UInt8} (xs : List UInt8) (hv : GV mm v bs) (hN : NewR base v) (hB : Fr S0 base mm c) (h1 : Fr S0 mm m1 a) (hm1 : m1.next < 1048576) (hl : bs.length + xs.length ≤ 1048576) :
    ∃ v' m2, appendTo m1 5 ⟨.int .u8, 1, 1, [.int .u8 (0)], (some [.i])⟩ v xs.length (B8 xs) = some (v', m2) ∧ GV m2 v' (bs ++ xs) ∧ NewR base v' ∧ Fr S5 mm m2 (a + 1) ∧ Fr S0 base m2 (c + a + 1) ∧ m2.next ≤ m1.next + 1 := by
  obtain ⟨v', m2, a1, a2, a3, a4, a5, a6, a7⟩ := GV.more (show GV m1 v bs from hv.fr h1 rfl) xs hm1 hl
  have hB1 := hB.trans h1 (Nat.le_refl _)
  exact ⟨v', m2, a1, a2, hN.grow hB1 a6, (h1.mono (Nat.le_refl _) (fun _ _ => rfl)).trans a7 (Nat.le_refl _), hB1.growNew a3 a4 a5 hN, a4⟩

theorem refTexts_loop (m base : Mem) (p : AVal) (b5 c0 : Nat) (bs : List UInt8) (x : LStep) (hw : SlV m 9 1 p (strE x.path)) (hb5 : m.at b5 ⟨115, [.int .i64 x.kind, .int .i64 x.a, .int .i64 x.n, .int .i64 x.n2, .int .u8 (x.who.toNat : Nat), p, .int .i64 x.act, .str (mkS x.s), .int .i64 x.num], 0⟩) (hl : x.path.length ≤ 100) (hb : ∀ n ∈ x.path, n.length ≤ 30) (hm : m.next ≤ 700000) (hbl : bs.length ≤ 500000) :
    ∀ (j k : Nat) (v : AVal) (sl : Slots) (mm : Mem), k + j = x.path.length → sget sl 3 = v → sget sl 5 = .ptr b5 9 0 → sget sl 51 = .int .i64 (x.path.length : Nat) → sget sl 52 = .int .i64 (k : Nat) → GV mm v (bs ++ textsB (x.path.take k)) → NewR base v → Fr S5 m mm (32 * k) → Fr S0 base mm (c0 + 32 * k) → (textsB (x.path.take k)).length ≤ 31 * k →
    vwp ES loopB55 (fun ex st => ex = .exit 2 ∧ ∃ sl' mm' v', st = ⟨55, 86, sl', mm'⟩ ∧ (∀ d ∈ [1, 5, 20, 21], sget sl' d = sget sl d) ∧ sget sl' 3 = v' ∧ GV mm' v' (bs ++ textsB x.path) ∧ NewR base v' ∧ Fr S5 m mm' (32 * x.path.length) ∧ Fr S0 base mm' (c0 + 32 * x.path.length)) ⟨55, 86, sl, mm⟩ := by
  have hpl : sliceLen p = some x.path.length := by rw [hw.len, strE_len]
  have hpc := hw.cl
  intro j
  induction j with
  | zero =>
    intro k v sl mm hij s3 s5 s51 s52 hv hN hF hB hlen
    obtain rfl : k = x.path.length := by omega
    unfold loopB55 loopA55 f55
    refine vwp_loop (vwp_seq ?_)
    refine vwp_region ?_
    iterate 1 (refine vops_cons (n := 0) (by simp (maxSteps := 1000000) [s51, s52]; rfl) ?_)
    refine vops_nil ?_
    refine vwp_seq (vwp_cond (t := false) (by simp [St.ev, St.slot_mk, sget_put]) (vwp_exit ?_))
    rw [List.take_length] at hv
    refine ⟨rfl, _, mm, v, rfl, ?_, by simp [s3], hv, hN, hF, hB⟩
    intro d hd
    simp only [List.mem_cons, List.not_mem_nil, or_false] at hd
    rcases hd with rfl | rfl | rfl | rfl <;> simp
  | succ j ih =>
    intro k v sl mm hij s3 s5 s51 s52 hv hN hF hB hlen
    have hk : k < x.path.length := by omega
    have hk' : (k : Int) < (x.path.length : Int) := by omega
    obtain ⟨n, hn⟩ : ∃ n, x.path[k]? = some n := ⟨x.path[k], List.getElem?_eq_getElem hk⟩
    have hnb := hb n (List.mem_of_getElem? hn)
    have htk : x.path.take (k + 1) = x.path.take k ++ [n] := by rw [List.take_add_one, hn]; rfl
    have hmx := hF.most
    have hb5' := hF.keep _ _ hb5 rfl
    obtain ⟨q, hA, hRd⟩ := (hw.fr hF rfl).elem (E := ES) ty63 rfl ty9 rfl (by decide) (i := k) (x := [.str (mkS n)]) (by simp [strE, hn])
    unfold loopB55 loopA55 f55
    refine vwp_loop (vwp_seq ?_)
    refine vwp_region ?_
    iterate 1 (refine vops_cons (n := 0) (by simp (maxSteps := 1000000) [s51, s52, hk']; rfl) ?_)
    refine vops_nil ?_
    refine vwp_seq (vwp_cond (t := true) (by simp [St.ev, St.slot_mk, sget_put]) (vwp_skip ?_))
    refine vwp_seq (vwp_block (vwp_seq ?_))
    refine vwp_region ?_
    iterate 2 (refine vops_cons (n := 0) (by simp (maxSteps := 1000000) [s52]; rfl) ?_)
    refine vops_nil ?_
    refine vwp_region ?_
    iterate 6 (refine vops_cons (n := 0) (by simp (maxSteps := 1000000) [s3, s5, ty115, ty65, ty63, hb5'.2, hpc, hA]; rfl) ?_)
    refine vops_load (v := .str (mkS n)) rfl rfl ty9 (by simp; exact hRd) rfl ⟨_, by simp; rfl, ?_⟩
    refine vops_callv (g := 143) (first := []) (cap := []) (avs := [.str (mkS n)]) rfl rfl rfl (by simp) ?_
    refine (refText_ok (m := mm) (by omega) (by omega)).mono fun r m1 h => ?_
    obtain ⟨hG1, _, hF1⟩ := h
    have hmx1 := hF1.most
    have h10 := txtB_len hnb
    refine ⟨_, by simp; rfl, ?_⟩
    obtain ⟨v', m2, hap, hG2, hN2, hF2, hB2, hn2⟩ := grow_step (txtB n) hv hN hB hF1 (by omega) (by rw [List.length_append]; omega)
    refine vops_append (v' := v') (m' := m2) rfl rfl rfl rfl ty22 rfl ty5 rfl (k := (txtB n).length) (cs := B8 (txtB n)) ?_ ?_ ⟨_, by simp; rfl, ?_⟩
    · simp; exact appended_bv hG1.bv
    · simp; exact hap
    iterate 1 (refine vops_cons (n := 0) (by simp (maxSteps := 1000000) []; rfl) ?_)
    refine vops_nil ?_
    refine vwp_region ?_
    iterate 2 (refine vops_cons (n := 0) (by simp (maxSteps := 1000000) [s52, wrap_up (show k < 1000000000 by omega)]; rfl) ?_)
    refine vops_nil ?_
    have hnn : bs ++ textsB (x.path.take (k + 1)) = bs ++ textsB (x.path.take k) ++ txtB n := by rw [htk]; simp [textsB]
    have hln2 : (textsB (x.path.take (k + 1))).length = (textsB (x.path.take k)).length + (txtB n).length := by rw [htk]; simp [textsB]
    refine (ih (k + 1) v' _ m2 (by omega) (by simp) (by simp [s5]) (by simp [s51]) (by simp) (by rw [hnn]; exact hG2) hN2 ((hF.trans hF2 (Nat.le_refl _)).le (by omega)) (hB2.le (by omega)) (by omega)).mono ?_
    rintro ex st ⟨rfl, sl', mm', v2, rfl, hK, h0, h1, h2, h3, h4⟩
    refine ⟨rfl, sl', mm', v2, rfl, ?_, h0, h1, h2, h3, h4⟩
    intro d hd
    rw [hK d hd]
    simp only [List.mem_cons, List.not_mem_nil, or_false] at hd
    rcases hd with rfl | rfl | rfl | rfl <;> simp

theorem refSteps_loop (m base : Mem) (w : AVal) (b1 c0 : Nat) (bs : List UInt8) (sc : LScript) (hw : StepsR m 115 w sc.steps) (hb1 : m.at b1 ⟨127, [.int .i64 sc.c, .int .i64 sc.s, .int .i64 sc.cap, w], 0⟩) (hl : sc.steps.length ≤ 200) (hok : ∀ y ∈ sc.steps, StepOk y) (hm : m.next ≤ 500000) (hbl : bs.length ≤ 100) :
    ∀ (j k : Nat) (v : AVal) (sl : Slots) (mm : Mem), k + j = sc.steps.length → sget sl 1 = .ptr b1 4 0 → sget sl 3 = v → sget sl 20 = .int .i64 (sc.steps.length : Nat) → sget sl 21 = .int .i64 (k : Nat) → GV mm v (bs ++ stepsB (sc.steps.take k)) → NewR base v → Fr S5 m mm (450 * k) → Fr S0 base mm (c0 + 450 * k) → (stepsB (sc.steps.take k)).length ≤ 160 * k →
    vwp ES loopA55 (fun ex st => ex = .exit 0 ∧ ∃ sl' mm' v', st = ⟨55, 86, sl', mm'⟩ ∧ sget sl' 3 = v' ∧ GV mm' v' (bs ++ stepsB sc.steps) ∧ NewR base v' ∧ Fr S0 base mm' (c0 + 450 * sc.steps.length)) ⟨55, 86, sl, mm⟩ := by
  intro j
  induction j with
  | zero =>
    intro k v sl mm hij s1 s3 s20 s21 hv hN hF hB hlen
    obtain rfl : k = sc.steps.length := by omega
    unfold loopA55 f55
    refine vwp_loop (vwp_seq ?_)
    refine vwp_region ?_
    iterate 1 (refine vops_cons (n := 0) (by simp (maxSteps := 1000000) [s20, s21]; rfl) ?_)
    refine vops_nil ?_
    refine vwp_seq (vwp_cond (t := false) (by simp [St.ev, St.slot_mk, sget_put]) (vwp_exit ?_))
    rw [List.take_length] at hv
    exact ⟨rfl, _, mm, v, rfl, by simp [s3], hv, hN, hB⟩
  | succ j ih =>
    intro k v sl mm hij s1 s3 s20 s21 hv hN hF hB hlen
    have hk : k < sc.steps.length := by omega
    have hk' : (k : Int) < (sc.steps.length : Int) := by omega
    obtain ⟨x, hx⟩ : ∃ x, sc.steps[k]? = some x := ⟨sc.steps[k], List.getElem?_eq_getElem hk⟩
    have hxo := hok x (List.mem_of_getElem? hx)
    have htk : sc.steps.take (k + 1) = sc.steps.take k ++ [x] := by rw [List.take_add_one, hx]; rfl
    have hmx := hF.most
    obtain ⟨els, hs, hsl, hse⟩ := hw.fr hF rfl rfl
    obtain ⟨cs, hcs1, p, rfl, hp⟩ := hse k x hx
    have hwc := hs.cl
    have hpc := hp.cl
    have hpl : sliceLen p = some x.path.length := by rw [hp.len, strE_len]
    have hb1' := hF.keep _ _ hb1 rfl
    obtain ⟨q, hA, hRd⟩ := hs.elem (E := ES) ty125 rfl ty115 rfl (by decide) hcs1
    have hnx : mm.next < 1048576 := by omega
    unfold loopA55 f55
    refine vwp_loop (vwp_seq ?_)
    refine vwp_region ?_
    iterate 1 (refine vops_cons (n := 0) (by simp (maxSteps := 1000000) [s20, s21, hk']; rfl) ?_)
    refine vops_nil ?_
    refine vwp_seq (vwp_cond (t := true) (by simp [St.ev, St.slot_mk, sget_put]) (vwp_skip ?_))
    refine vwp_seq (vwp_block (vwp_seq ?_))
    refine vwp_region ?_
    iterate 2 (refine vops_cons (n := 0) (by simp (maxSteps := 1000000) [s21]; rfl) ?_)
    refine vops_nil ?_
    refine vwp_seq (vwp_region ?_)
    iterate 4 (refine vops_cons (n := 0) (by simp (maxSteps := 1000000) [s1, ty127, ty125, hb1'.2, hwc, hA]; rfl) ?_)
    refine vops_load (cs := stepC x p) (v := .agg [.int .i64 x.kind, .int .i64 x.a, .int .i64 x.n, .int .i64 x.n2, .int .u8 (x.who.toNat : Nat), p, .int .i64 x.act, .str (mkS x.s), .int .i64 x.num]) rfl rfl ty115 (by simp; exact hRd) rfl ⟨_, by simp; rfl, ?_⟩
    iterate 1 (refine vops_cons (n := 0) (by simp (maxSteps := 1000000) [ty115, hnx]; rfl) ?_)
    have hz := at_add_self mm ⟨115, [.int .i64 0, .int .i64 0, .int .i64 0, .int .i64 0, .int .u8 0, .nil true, .int .i64 0, .str ⟨#[]⟩, .int .i64 0], 0⟩ hnx
    have hF1 := Fr.add (S := S0) mm ⟨115, [.int .i64 0, .int .i64 0, .int .i64 0, .int .i64 0, .int .u8 0, .nil true, .int .i64 0, .str ⟨#[]⟩, .int .i64 0], 0⟩ hnx
    have hn1 : (mm.add ⟨115, [.int .i64 0, .int .i64 0, .int .i64 0, .int .i64 0, .int .u8 0, .nil true, .int .i64 0, .str ⟨#[]⟩, .int .i64 0], 0⟩).next = mm.next + 1 := rfl
    generalize mm.add ⟨115, [.int .i64 0, .int .i64 0, .int .i64 0, .int .i64 0, .int .u8 0, .nil true, .int .i64 0, .str ⟨#[]⟩, .int .i64 0], 0⟩ = m1 at *
    have hn1' : m1.next ≤ 1048576 := by omega
    iterate 1 (refine vops_cons (n := 0) (by simp (maxSteps := 1000000) [ty115, hz.2]; rfl) ?_)
    show vops _ _ _ _ ⟨55, 86, _, m1.upd mm.next ⟨115, [.int .i64 x.kind, .int .i64 x.a, .int .i64 x.n, .int .i64 x.n2, .int .u8 (x.who.toNat : Nat), p, .int .i64 x.act, .str (mkS x.s), .int .i64 x.num], 0⟩⟩
    have hF2 : Fr S0 mm (m1.upd mm.next ⟨115, [.int .i64 x.kind, .int .i64 x.a, .int .i64 x.n, .int .i64 x.n2, .int .u8 (x.who.toNat : Nat), p, .int .i64 x.act, .str (mkS x.s), .int .i64 x.num], 0⟩) 1 := hF1.updNew hz hn1' (Nat.le_refl _) _
    have hb2 := at_upd_self hz hn1' ⟨115, [.int .i64 x.kind, .int .i64 x.a, .int .i64 x.n, .int .i64 x.n2, .int .u8 (x.who.toNat : Nat), p, .int .i64 x.act, .str (mkS x.s), .int .i64 x.num], 0⟩
    have hn2 : (m1.upd mm.next ⟨115, [.int .i64 x.kind, .int .i64 x.a, .int .i64 x.n, .int .i64 x.n2, .int .u8 (x.who.toNat : Nat), p, .int .i64 x.act, .str (mkS x.s), .int .i64 x.num], 0⟩).next = m1.next := rfl
    generalize m1.upd mm.next ⟨115, [.int .i64 x.kind, .int .i64 x.a, .int .i64 x.n, .int .i64 x.n2, .int .u8 (x.who.toNat : Nat), p, .int .i64 x.act, .str (mkS x.s), .int .i64 x.num], 0⟩ = m2 at *
    have hv2 := hv.fr hF2 rfl
    have hp2 := hp.fr hF2 rfl
    have hB2 := hB.trans hF2 (Nat.le_refl _)
    have hS0 : ∀ t, S5 t = false → S0 t = false := fun _ _ => rfl
    have hFm2 : Fr S5 m m2 (450 * k + 1) := hF.trans (hF2.mono (Nat.le_refl _) hS0) (Nat.le_refl _)
    refine vops_nil (vwp_seq (vwp_region ?_))
    have hnx2 : m2.next < 1048576 := by omega
    have ew : IntKind.i64.wrap ((x.who.toNat : Nat) : Int) = ((x.who.toNat : Nat) : Int) := by have := x.who.toNat_lt; exact i64n (by omega)
    iterate 17 (refine vops_cons (n := 0) (by simp (maxSteps := 1000000) [s3, ty115, ty65, ty3, ty5, ty63, ty230, hb2.2, hpc, hpl, hnx2, ew]; rfl) ?_)
    show vops _ _ _ _ ⟨55, 86, _, m2.add ⟨3, (intE [x.kind, x.a, x.n, x.n2, ((x.who.toNat : Nat) : Int), ((x.path.length : Nat) : Int)]).flatten, 0⟩⟩
    have ha3 := at_add_self m2 ⟨3, (intE [x.kind, x.a, x.n, x.n2, ((x.who.toNat : Nat) : Int), ((x.path.length : Nat) : Int)]).flatten, 0⟩ hnx2
    have hF3 := Fr.add (S := S0) m2 ⟨3, (intE [x.kind, x.a, x.n, x.n2, ((x.who.toNat : Nat) : Int), ((x.path.length : Nat) : Int)]).flatten, 0⟩ hnx2
    have hn3 : (m2.add ⟨3, (intE [x.kind, x.a, x.n, x.n2, ((x.who.toNat : Nat) : Int), ((x.path.length : Nat) : Int)]).flatten, 0⟩).next = m2.next + 1 := rfl
    generalize m2.add ⟨3, (intE [x.kind, x.a, x.n, x.n2, ((x.who.toNat : Nat) : Int), ((x.path.length : Nat) : Int)]).flatten, 0⟩ = m3 at *
    have hsl6 : SlV m3 3 1 (.ref m2.next 6 0 6 6 true 1) (intE [x.kind, x.a, x.n, x.n2, ((x.who.toNat : Nat) : Int), ((x.path.length : Nat) : Int)]) := .ref m2.next 6 0 6 true _ (intE [x.kind, x.a, x.n, x.n2, ((x.who.toNat : Nat) : Int), ((x.path.length : Nat) : Int)]) (intE_one _) ha3 rfl rfl rfl (Nat.le_refl _)
    have hpl3 := hxo.path
    have hbnd : ∀ n ∈ [x.kind, x.a, x.n, x.n2, ((x.who.toNat : Nat) : Int), ((x.path.length : Nat) : Int)], -9223372036854775808 ≤ n ∧ n ≤ 9223372036854775807 := by
      intro n hn
      have hw256 := x.who.toNat_lt
      simp only [List.mem_cons, List.not_mem_nil, or_false] at hn
      rcases hn with rfl | rfl | rfl | rfl | rfl | rfl
      · exact small64 hxo.kind
      · exact small64 hxo.a
      · exact small64 hxo.n
      · exact small64 hxo.n2
      · omega
      · omega
    have hl6 : (numsB [x.kind, x.a, x.n, x.n2, ((x.who.toNat : Nat) : Int), ((x.path.length : Nat) : Int)]).length ≤ 60 := by
      simp only [numsB, List.map_cons, List.map_nil, List.flatten_cons, List.flatten_nil, List.length_append, List.length_nil]
      have a0 := hbnd x.kind (by simp); have a1 := hbnd x.a (by simp); have a2 := hbnd x.n (by simp); have a3 := hbnd x.n2 (by simp); have a4 := hbnd ((x.who.toNat : Nat) : Int) (by simp); have a5 := hbnd ((x.path.length : Nat) : Int) (by simp)
      have b0 := numB_le10 a0.1 a0.2; have b1 := numB_le10 a1.1 a1.2; have b2 := numB_le10 a2.1 a2.2; have b3 := numB_le10 a3.1 a3.2; have b4 := numB_le10 a4.1 a4.2; have b5 := numB_le10 a5.1 a5.2
      omega
    refine vops_callv (g := 142) (first := []) (cap := []) (avs := [.ref m2.next 6 0 6 6 true 1]) rfl rfl rfl (by simp) ?_
    refine (nums_ok (m := m3) hsl6 (by simp) hbnd (by omega)).mono fun r m4 h => ?_
    obtain ⟨hG4, _, hF4⟩ := h
    rw [show ([x.kind, x.a, x.n, x.n2, ((x.who.toNat : Nat) : Int), ((x.path.length : Nat) : Int)] : List Int).length = 6 from rfl] at hF4
    have hmx4 := hF4.most
    refine ⟨_, by simp; rfl, ?_⟩
    obtain ⟨v5, m5, hap5, hG5, hN5, hS5, hB5, hn5⟩ := grow_step (numsB [x.kind, x.a, x.n, x.n2, ((x.who.toNat : Nat) : Int), ((x.path.length : Nat) : Int)]) hv2 hN hB2 (hF3.trans hF4 (Nat.le_refl _)) (by omega) (by rw [List.length_append]; omega)
    refine vops_append (v' := v5) (m' := m5) rfl rfl rfl rfl ty22 rfl ty5 rfl (k := (numsB [x.kind, x.a, x.n, x.n2, ((x.who.toNat : Nat) : Int), ((x.path.length : Nat) : Int)]).length) (cs := B8 (numsB [x.kind, x.a, x.n, x.n2, ((x.who.toNat : Nat) : Int), ((x.path.length : Nat) : Int)])) ?_ ?_ ⟨_, by simp; rfl, ?_⟩
    · simp only [St.ev, St.slot_mk, sget_put, Nat.reduceLT, Nat.reduceEqDiff, if_true, if_false, List.head?]; exact appended_bv hG4.bv
    · simp only [St.ev, St.slot_mk, sget_put, Nat.reduceLT, Nat.reduceEqDiff, if_true, if_false]; exact hap5
    iterate 1 (refine vops_cons (n := 0) (by simp (maxSteps := 1000000) []; rfl) ?_)
    have hb5 := hS5.keep _ _ hb2 rfl
    have hp5 := hp2.fr hS5 rfl
    have hFm5 := hFm2.trans hS5 (Nat.le_refl _)
    have hmx5 := hFm5.most
    refine vops_nil (vwp_seq (vwp_seq ?_))
    refine vwp_region ?_
    iterate 5 (refine vops_cons (n := 0) (by simp (maxSteps := 1000000) [ty115, ty65, ty63, hb5.2, hpc, hpl]; rfl) ?_)
    refine vops_nil ?_
    refine vwp_block ?_
    refine (refTexts_loop m5 base p mm.next _ (bs ++ stepsB (sc.steps.take k) ++ numsB [x.kind, x.a, x.n, x.n2, ((x.who.toNat : Nat) : Int), ((x.path.length : Nat) : Int)]) x hp5 hb5 (by omega) hxo.texts (by omega) (by rw [List.length_append, List.length_append]; omega) x.path.length 0 v5 _ m5 (by omega) (by simp) (by simp) (by simp) (by simp) (by rw [List.take_zero, show textsB [] = [] from rfl, List.append_nil]; exact hG5) hN5 (.refl _ _) hB5 (by simp [textsB])).mono ?_
    rintro ex st ⟨rfl, sl6, m6, v6, rfl, hK6, s3', hG6, hN6, hS6, hB6⟩
    have k1 := hK6 1 (by simp); have k2 := hK6 5 (by simp); have k3 := hK6 20 (by simp); have k4 := hK6 21 (by simp)
    simp [s1, s20, s21] at k1 k2 k3 k4
    clear hK6
    have hb6 := hS6.keep _ _ hb5 rfl
    have hFm6 := hFm5.trans hS6 (Nat.le_refl _)
    have hmx6 := hFm6.most
    have htl' : (textsB x.path).length ≤ 31 * x.path.length := texts_len x.path hxo.texts
    refine vwp_seq (vwp_region ?_)
    have hnx6 : m6.next < 1048576 := by omega
    iterate 5 (refine vops_cons (n := 0) (by simp (maxSteps := 1000000) [k2, s3', ty115, ty65, ty3, ty230, hb6.2, hnx6]; rfl) ?_)
    show vops _ _ _ _ ⟨55, 86, _, m6.add ⟨3, (intE [x.act]).flatten, 0⟩⟩
    have ha7 := at_add_self m6 ⟨3, (intE [x.act]).flatten, 0⟩ hnx6
    have hF7 := Fr.add (S := S0) m6 ⟨3, (intE [x.act]).flatten, 0⟩ hnx6
    have hn7 : (m6.add ⟨3, (intE [x.act]).flatten, 0⟩).next = m6.next + 1 := rfl
    generalize m6.add ⟨3, (intE [x.act]).flatten, 0⟩ = m7 at *
    have hsl7 : SlV m7 3 1 (.ref m6.next 1 0 1 1 true 1) (intE [x.act]) := .ref m6.next 1 0 1 true _ (intE [x.act]) (intE_one _) ha7 rfl rfl rfl (Nat.le_refl _)
    have hact := small64 hxo.act
    have hactl := numB_le10 hact.1 hact.2
    refine vops_callv (g := 142) (first := []) (cap := []) (avs := [.ref m6.next 1 0 1 1 true 1]) rfl rfl rfl (by simp) ?_
    refine (nums_ok (m := m7) hsl7 (by simp) (by intro n hn; rw [List.mem_singleton] at hn; rw [hn]; exact hact) (by omega)).mono fun r m8 h => ?_
    obtain ⟨hG8, _, hF8⟩ := h
    rw [show ([x.act] : List Int).length = 1 from rfl] at hF8
    rw [show numsB [x.act] = numB x.act by simp [numsB]] at hG8
    have hmx8 := hF8.most
    refine ⟨_, by simp; rfl, ?_⟩
    obtain ⟨v9, m9, hap9, hG9, hN9, hS9, hB9, hn9⟩ := grow_step (numB x.act) hG6 hN6 hB6 (hF7.trans hF8 (Nat.le_refl _)) (by omega) (by simp only [List.length_append]; omega)
    refine vops_append (v' := v9) (m' := m9) rfl rfl rfl rfl ty22 rfl ty5 rfl (k := (numB x.act).length) (cs := B8 (numB x.act)) ?_ ?_ ⟨_, by simp; rfl, ?_⟩
    · simp only [St.ev, St.slot_mk, sget_put, Nat.reduceLT, Nat.reduceEqDiff, if_true, if_false, List.head?]; exact appended_bv hG8.bv
    · simp only [St.ev, St.slot_mk, sget_put, Nat.reduceLT, Nat.reduceEqDiff, if_true, if_false]; exact hap9
    iterate 1 (refine vops_cons (n := 0) (by simp (maxSteps := 1000000) []; rfl) ?_)
    have hb9 := hS9.keep _ _ hb6 rfl
    have hFm9 := hFm6.trans hS9 (Nat.le_refl _)
    have hmx9 := hFm9.most
    refine vops_nil (vwp_seq (vwp_region ?_))
    iterate 4 (refine vops_cons (n := 0) (by simp (maxSteps := 1000000) [k2, ty115, ty65, ty9, hb9.2]; rfl) ?_)
    have hxs := hxo.s
    have hsl := txtB_len hxo.s
    refine vops_callv (g := 143) (first := []) (cap := []) (avs := [.str (mkS x.s)]) rfl rfl rfl (by simp) ?_
    refine (refText_ok (m := m9) (by omega) (by omega)).mono fun r m10 h => ?_
    obtain ⟨hG10, _, hF10⟩ := h
    have hmx10 := hF10.most
    refine ⟨_, by simp; rfl, ?_⟩
    obtain ⟨v11, m11, hap11, hG11, hN11, hS11, hB11, hn11⟩ := grow_step (txtB x.s) hG9 hN9 hB9 hF10 (by omega) (by simp only [List.length_append]; omega)
    refine vops_append (v' := v11) (m' := m11) rfl rfl rfl rfl ty22 rfl ty5 rfl (k := (txtB x.s).length) (cs := B8 (txtB x.s)) ?_ ?_ ⟨_, by simp; rfl, ?_⟩
    · simp only [St.ev, St.slot_mk, sget_put, Nat.reduceLT, Nat.reduceEqDiff, if_true, if_false, List.head?]; exact appended_bv hG10.bv
    · simp only [St.ev, St.slot_mk, sget_put, Nat.reduceLT, Nat.reduceEqDiff, if_true, if_false]; exact hap11
    iterate 1 (refine vops_cons (n := 0) (by simp (maxSteps := 1000000) []; rfl) ?_)
    have hb11 := hS11.keep _ _ hb9 rfl
    have hFm11 := hFm9.trans hS11 (Nat.le_refl _)
    have hmx11 := hFm11.most
    refine vops_nil (vwp_region ?_)
    iterate 4 (refine vops_cons (n := 0) (by simp (maxSteps := 1000000) [k2, ty115, ty65, ty2, hb11.2]; rfl) ?_)
    have hnum := hxo.num
    have em : mostInc = 1099511627776 := rfl
    have hnuml := numB_le10 (n := x.num) (by omega) (by omega)
    refine vops_callv (g := 144) (first := []) (cap := []) (avs := [.int .i64 x.num]) rfl rfl rfl (by simp) ?_
    refine (refNum_ok (m := m11) (by omega) (by omega) (by omega)).mono fun r m12 h => ?_
    obtain ⟨hG12, _, hF12⟩ := h
    have hmx12 := hF12.most
    refine ⟨_, by simp; rfl, ?_⟩
    obtain ⟨v13, m13, hap13, hG13, hN13, hS13, hB13, hn13⟩ := grow_step (numB x.num) hG11 hN11 hB11 hF12 (by omega) (by simp only [List.length_append]; omega)
    refine vops_append (v' := v13) (m' := m13) rfl rfl rfl rfl ty22 rfl ty5 rfl (k := (numB x.num).length) (cs := B8 (numB x.num)) ?_ ?_ ⟨_, by simp; rfl, ?_⟩
    · simp only [St.ev, St.slot_mk, sget_put, Nat.reduceLT, Nat.reduceEqDiff, if_true, if_false, List.head?]; exact appended_bv hG12.bv
    · simp only [St.ev, St.slot_mk, sget_put, Nat.reduceLT, Nat.reduceEqDiff, if_true, if_false]; exact hap13
    iterate 1 (refine vops_cons (n := 0) (by simp (maxSteps := 1000000) []; rfl) ?_)
    have hFm13 := hFm11.trans hS13 (Nat.le_refl _)
    refine vops_nil ?_
    have hG' : GV m13 v13 (bs ++ stepsB (sc.steps.take (k + 1))) := by
      have e : bs ++ stepsB (sc.steps.take (k + 1)) = bs ++ stepsB (sc.steps.take k) ++ numsB [x.kind, x.a, x.n, x.n2, ((x.who.toNat : Nat) : Int), ((x.path.length : Nat) : Int)] ++ textsB x.path ++ numB x.act ++ txtB x.s ++ numB x.num := by
        rw [htk, show stepsB (sc.steps.take k ++ [x]) = stepsB (sc.steps.take k) ++ stepB x by simp [stepsB], stepB_eq]
        simp only [List.append_assoc]
      rw [e]; exact hG13
    refine vwp_region ?_
    iterate 2 (refine vops_cons (n := 0) (by simp (maxSteps := 1000000) [k4, wrap_up (show k < 1000000000 by omega)]; rfl) ?_)
    refine vops_nil ?_
    exact ih (k + 1) v13 _ m13 (by omega) (by simp [k1]) (by simp) (by simp [k3]) (by simp) hG' hN13 (hFm13.le (by omega)) (hB13.le (by omega)) (by rw [htk, show stepsB (sc.steps.take k ++ [x]) = stepsB (sc.steps.take k) ++ stepB x by simp [stepsB], List.length_append]; have := stepB_len hxo; omega)

theorem refEncode_ok {m : Mem} {cs : List AVal} {x : LScript} (h : ScrR m 115 cs x) (hok : ScriptOk x) (hn : m.next ≤ 400000) :
    vcall ES 55 [.agg cs] m fun r m' => BV m' r (scriptB x) ∧ NewR m r ∧ Fr S0 m m' 95000 := by
  obtain ⟨w, rfl, hw⟩ := h
  have hnx : m.next < 1048576 := by omega
  have hwl := hw.len
  have hl200 := hok.len
  have hwc : AVal.cells? w = some [w] := by obtain ⟨els, h1, _⟩ := hw; exact h1.cl
  have ha1 := at_add_self m ⟨127, [.int .i64 x.c, .int .i64 x.s, .int .i64 x.cap, w], 0⟩ hnx
  have hF1 := Fr.add (S := S0) m ⟨127, [.int .i64 x.c, .int .i64 x.s, .int .i64 x.cap, w], 0⟩ hnx
  have hn1 : (m.add ⟨127, [.int .i64 x.c, .int .i64 x.s, .int .i64 x.cap, w], 0⟩).next = m.next + 1 := rfl
  have hw1 := hw.fr hF1 rfl rfl
  refine vcall_body (fn := f55) (c := ((f55.body).getD .skip)) rfl fns55 body55 (by rw [vntmps55]; show 1 ≤ 86; decide) (by rw [vntmps55]; decide) ?_
  rw [vntmps55]
  simp only [vresults55]
  unfold f55
  simp only [Option.getD_some]
  refine vwp_seq (vwp_region ?_)
  iterate 1 (refine vops_cons (n := 0) (by simp (maxSteps := 1000000) [hnx]; rfl) ?_)
  show vops _ _ _ _ ⟨55, 86, _, m.add ⟨127, [.int .i64 x.c, .int .i64 x.s, .int .i64 x.cap, w], 0⟩⟩
  generalize m.add ⟨127, [.int .i64 x.c, .int .i64 x.s, .int .i64 x.cap, w], 0⟩ = m1 at *
  iterate 1 (refine vops_cons (n := 0) (by simp (maxSteps := 1000000) []; rfl) ?_)
  refine vops_nil (vwp_seq (vwp_region ?_))
  have hnx1 : m1.next < 1048576 := by omega
  iterate 10 (refine vops_cons (n := 0) (by simp (maxSteps := 1000000) [ty127, ty3, ty125, ty230, ha1.2, hwl, hwc, hnx1]; rfl) ?_)
  show vops _ _ _ _ ⟨55, 86, _, m1.add ⟨3, (intE [x.c, x.s, x.cap, ((x.steps.length : Nat) : Int)]).flatten, 0⟩⟩
  have ha2 := at_add_self m1 ⟨3, (intE [x.c, x.s, x.cap, ((x.steps.length : Nat) : Int)]).flatten, 0⟩ hnx1
  have hF2 := Fr.add (S := S0) m1 ⟨3, (intE [x.c, x.s, x.cap, ((x.steps.length : Nat) : Int)]).flatten, 0⟩ hnx1
  have hn2 : (m1.add ⟨3, (intE [x.c, x.s, x.cap, ((x.steps.length : Nat) : Int)]).flatten, 0⟩).next = m1.next + 1 := rfl
  generalize m1.add ⟨3, (intE [x.c, x.s, x.cap, ((x.steps.length : Nat) : Int)]).flatten, 0⟩ = m2 at *
  have hb2 := hF2.keep _ _ ha1 rfl
  have hw2 := hw1.fr hF2 rfl rfl
  have hsl4 : SlV m2 3 1 (.ref m1.next 4 0 4 4 true 1) (intE [x.c, x.s, x.cap, ((x.steps.length : Nat) : Int)]) := .ref m1.next 4 0 4 true _ (intE [x.c, x.s, x.cap, ((x.steps.length : Nat) : Int)]) (intE_one _) ha2 rfl rfl rfl (Nat.le_refl _)
  have hbnd : ∀ n ∈ [x.c, x.s, x.cap, ((x.steps.length : Nat) : Int)], -9223372036854775808 ≤ n ∧ n ≤ 9223372036854775807 := by
    intro n hn
    simp only [List.mem_cons, List.not_mem_nil, or_false] at hn
    rcases hn with rfl | rfl | rfl | rfl
    · exact small64 hok.c
    · exact small64 hok.s
    · exact small64 hok.cap
    · omega
  have hl4 : (numsB [x.c, x.s, x.cap, ((x.steps.length : Nat) : Int)]).length ≤ 40 := by
    simp only [numsB, List.map_cons, List.map_nil, List.flatten_cons, List.flatten_nil, List.length_append, List.length_nil]
    have a0 := hbnd x.c (by simp); have a1 := hbnd x.s (by simp); have a2 := hbnd x.cap (by simp); have a3 := hbnd ((x.steps.length : Nat) : Int) (by simp)
    have b0 := numB_le10 a0.1 a0.2; have b1 := numB_le10 a1.1 a1.2; have b2 := numB_le10 a2.1 a2.2; have b3 := numB_le10 a3.1 a3.2
    omega
  refine vops_callv (g := 142) (first := []) (cap := []) (avs := [.ref m1.next 4 0 4 4 true 1]) rfl rfl rfl (by simp) ?_
  refine (nums_ok (m := m2) hsl4 (by simp) hbnd (by omega)).mono fun r m3 h => ?_
  obtain ⟨hG3, hN3, hF3⟩ := h
  rw [show ([x.c, x.s, x.cap, ((x.steps.length : Nat) : Int)] : List Int).length = 4 from rfl] at hF3
  have hmx3 := hF3.most
  have hb3 := hF3.keep _ _ hb2 rfl
  have hw3 := hw2.fr hF3 rfl rfl
  have hF13 : Fr S0 m m3 130 := (hF1.trans (hF2.trans hF3 (Nat.le_refl _)) (Nat.le_refl _)).le (by omega)
  have hN : NewR m r := fun b hb => by have := hN3 b hb; have := hF1.up; have := hF2.up; omega
  refine ⟨_, by simp; rfl, ?_⟩
  iterate 1 (refine vops_cons (n := 0) (by simp (maxSteps := 1000000) []; rfl) ?_)
  refine vops_nil (vwp_seq (vwp_seq ?_))
  refine vwp_region ?_
  iterate 4 (refine vops_cons (n := 0) (by simp (maxSteps := 1000000) [ty127, ty125, hb3.2, hwl, hwc]; rfl) ?_)
  refine vops_nil ?_
  refine vwp_block ?_
  refine (refSteps_loop m3 m w m.next 130 (numsB [x.c, x.s, x.cap, ((x.steps.length : Nat) : Int)]) x hw3 hb3 hl200 hok.steps (by omega) (by omega) x.steps.length 0 r _ m3 (by omega) (by simp) (by simp) (by simp) (by simp) (by rw [List.take_zero, show stepsB [] = [] from rfl, List.append_nil]; exact hG3) hN (.refl _ _) hF13 (by simp [stepsB])).mono ?_
  rintro ex st ⟨rfl, sl, m4, v, rfl, s3, hG4, hN4, hB4⟩
  rw [← scriptB_eq] at hG4
  refine vwp_seq ?_
  refine vwp_region ?_
  iterate 2 (refine vops_cons (n := 0) (by simp (maxSteps := 1000000) [s3]; rfl) ?_)
  refine vops_nil ?_
  exact vwp_ret ⟨.inr rfl, [v], by simp [resultVals], hG4.bv, hN4, hB4.le (by omega)⟩
end Go.Proofs.Tryz
