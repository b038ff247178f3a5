/-
  A script put, whole: the loop over its steps, and the whole.
-/
import Derived.Test.YtdmaodpmfbgcaaaGreatSEnc
set_option maxRecDepth 100000
namespace Go.Proofs.Tryz
open Go Go.V Go.SC
attribute [local simp] runOp wanted isHeavy light St.ev St.slot_mk sget_put St.put_mk cl_int cl_bool cl_str cl_ptr cl_nil cl_ref cl_imm cl_agg cl_nilp NewV.at nblt nble nbeq ofConst ofConst1 fieldOf sh_ptr sh_iptr rc_ptr rc_iptr lget mkVal VD.isAgg lenOf bin ar_add ar_sub ar_mul ar_eql ar_neq ar_lss ar_leq ar_gtr ar_geq argSlots un heavy writeCells lput eqVals next_add next_upd fillA zeros natOf_cast natOf_succ
theorem sl_ref (b e o n lo : Nat) (ex : Bool) (sz : Nat) : sliceLen (.ref b e o n lo ex sz) = some n := rfl
def stepsB (l : List LStep) : List UInt8 := (l.map stepB).flatten
theorem stepB_eq (x : LStep) : stepB x = numsB [x.kind, x.a, x.n, x.n2, ((x.who.toNat : Nat) : Int), ((x.path.length : Nat) : Int)] ++ (textsB x.path ++ (numB x.act ++ (txtB x.s ++ numB x.num))) := by simp [stepB, numsB, textsB]
theorem small64 {n : Int} (h : small n) : -9223372036854775808 ≤ n ∧ n ≤ 9223372036854775807 := by
  have h1 := h.1; have h2 := h.2
  have e : mostN = 2147483647 := rfl
  omega

theorem encB_loop (m : Mem) (w : AVal) (o : Nat) (bs : List UInt8) (l : List LStep) (hw : StepsR m 119 w l) (hl : l.length ≤ 200) (hok : ∀ y ∈ l, StepOk y) (hm : m.next ≤ 500000) (hbl : bs.length ≤ 100) :
    ∀ (j k : Nat) (sl : Slots) (mm : Mem), k + j = l.length → sget sl 4 = .ptr o 1 0 → sget sl 35 = w → sget sl 36 = .int .i64 (l.length : Nat) → sget sl 37 = .int .i64 (k : Nat) → OutR mm o (bs ++ stepsB (l.take k)) → Fr SO m mm (400 * k) → (stepsB (l.take k)).length ≤ 160 * k →
    vwp ES loopB51 (fun ex st => ex = .exit 2 ∧ ∃ sl' mm', st = ⟨51, 92, sl', mm'⟩ ∧ sget sl' 4 = .ptr o 1 0 ∧ OutR mm' o (bs ++ stepsB l) ∧ Fr SO m mm' (400 * l.length)) ⟨51, 92, sl, mm⟩ := by
  intro j
  induction j with
  | zero =>
    intro k sl mm hij s4 s35 s36 s37 hR hF hlen
    obtain rfl : k = l.length := by omega
    unfold loopB51 f51
    refine vwp_loop (vwp_seq ?_)
    refine vwp_region ?_
    iterate 1 (refine vops_cons (n := 0) (by simp (maxSteps := 1000000) [s36, s37]; rfl) ?_)
    refine vops_nil ?_
    refine vwp_seq (vwp_cond (t := false) (by simp [St.ev, St.slot_mk, sget_put]) (vwp_exit ?_))
    rw [List.take_length] at hR
    exact ⟨rfl, _, mm, rfl, by simp [s4], hR, hF⟩
  | succ j ih =>
    intro k sl mm hij s4 s35 s36 s37 hR hF hlen
    have hk : k < l.length := by omega
    have hk' : (k : Int) < (l.length : Int) := by omega
    obtain ⟨x, hx⟩ : ∃ x, l[k]? = some x := ⟨l[k], List.getElem?_eq_getElem hk⟩
    have hxo := hok x (List.mem_of_getElem? hx)
    have htk : l.take (k + 1) = l.take k ++ [x] := by rw [List.take_add_one, hx]; rfl
    have hmx := hF.most
    obtain ⟨els, hs, hsl, hse⟩ := hw.fr hF rfl rfl
    obtain ⟨cs, hcs1, p, rfl, hp⟩ := hse k x hx
    have hwc := hs.cl
    have hpc := hp.cl
    have hpl : sliceLen p = some x.path.length := by rw [hp.len, strE_len]
    obtain ⟨q, hA, hRd⟩ := hs.elem (E := ES) ty128 rfl ty119 rfl (by decide) hcs1
    have hnx : mm.next < 1048576 := by omega
    unfold loopB51 f51
    refine vwp_loop (vwp_seq ?_)
    refine vwp_region ?_
    iterate 1 (refine vops_cons (n := 0) (by simp (maxSteps := 1000000) [s36, s37, hk']; rfl) ?_)
    refine vops_nil ?_
    refine vwp_seq (vwp_cond (t := true) (by simp [St.ev, St.slot_mk, sget_put]) (vwp_skip ?_))
    refine vwp_seq (vwp_block (vwp_seq (vwp_region ?_)))
    iterate 1 (refine vops_cons (n := 0) (by simp (maxSteps := 1000000) [s35, s37, hA]; rfl) ?_)
    refine vops_load (cs := stepC x p) (v := .agg [.int .i64 x.kind, .int .i64 x.a, .int .i64 x.n, .int .i64 x.n2, .int .u8 (x.who.toNat : Nat), p, .int .i64 x.act, .str (mkS x.s), .int .i64 x.num]) rfl rfl ty119 (by simp; exact hRd) rfl ⟨_, by simp; rfl, ?_⟩
    iterate 1 (refine vops_cons (n := 0) (by simp (maxSteps := 1000000) [ty119, hnx]; rfl) ?_)
    have hz := at_add_self mm ⟨119, [.int .i64 0, .int .i64 0, .int .i64 0, .int .i64 0, .int .u8 0, .nil true, .int .i64 0, .str ⟨#[]⟩, .int .i64 0], 0⟩ hnx
    have hF1 := Fr.add (S := S0) mm ⟨119, [.int .i64 0, .int .i64 0, .int .i64 0, .int .i64 0, .int .u8 0, .nil true, .int .i64 0, .str ⟨#[]⟩, .int .i64 0], 0⟩ hnx
    have hn1 : (mm.add ⟨119, [.int .i64 0, .int .i64 0, .int .i64 0, .int .i64 0, .int .u8 0, .nil true, .int .i64 0, .str ⟨#[]⟩, .int .i64 0], 0⟩).next = mm.next + 1 := rfl
    generalize mm.add ⟨119, [.int .i64 0, .int .i64 0, .int .i64 0, .int .i64 0, .int .u8 0, .nil true, .int .i64 0, .str ⟨#[]⟩, .int .i64 0], 0⟩ = m1 at *
    have hn1' : m1.next ≤ 1048576 := by omega
    iterate 1 (refine vops_cons (n := 0) (by simp (maxSteps := 1000000) [ty119, hz.2]; rfl) ?_)
    show vops _ _ _ _ ⟨51, 92, _, m1.upd mm.next ⟨119, [.int .i64 x.kind, .int .i64 x.a, .int .i64 x.n, .int .i64 x.n2, .int .u8 (x.who.toNat : Nat), p, .int .i64 x.act, .str (mkS x.s), .int .i64 x.num], 0⟩⟩
    have hF2 : Fr S0 mm (m1.upd mm.next ⟨119, [.int .i64 x.kind, .int .i64 x.a, .int .i64 x.n, .int .i64 x.n2, .int .u8 (x.who.toNat : Nat), p, .int .i64 x.act, .str (mkS x.s), .int .i64 x.num], 0⟩) 1 := hF1.updNew hz hn1' (Nat.le_refl _) _
    have hb2 := at_upd_self hz hn1' ⟨119, [.int .i64 x.kind, .int .i64 x.a, .int .i64 x.n, .int .i64 x.n2, .int .u8 (x.who.toNat : Nat), p, .int .i64 x.act, .str (mkS x.s), .int .i64 x.num], 0⟩
    have hn2 : (m1.upd mm.next ⟨119, [.int .i64 x.kind, .int .i64 x.a, .int .i64 x.n, .int .i64 x.n2, .int .u8 (x.who.toNat : Nat), p, .int .i64 x.act, .str (mkS x.s), .int .i64 x.num], 0⟩).next = m1.next := rfl
    generalize m1.upd mm.next ⟨119, [.int .i64 x.kind, .int .i64 x.a, .int .i64 x.n, .int .i64 x.n2, .int .u8 (x.who.toNat : Nat), p, .int .i64 x.act, .str (mkS x.s), .int .i64 x.num], 0⟩ = m2 at *
    have hR2 := hR.fr0 hF2
    have hp2 := hp.fr hF2 rfl
    refine vops_nil (vwp_seq (vwp_seq (vwp_region ?_)))
    have hnx2 : m2.next < 1048576 := by omega
    have ew : IntKind.i64.wrap ((x.who.toNat : Nat) : Int) = ((x.who.toNat : Nat) : Int) := by have := x.who.toNat_lt; exact i64n (by omega)
    iterate 18 (refine vops_cons (n := 0) (by simp (maxSteps := 1000000) [ty119, ty65, ty3, ty5, ty63, ty230, hb2.2, hpc, hpl, hnx2, ew, sl_ref]; rfl) ?_)
    show vops _ _ _ _ ⟨51, 92, _, m2.add ⟨3, (intE [x.kind, x.a, x.n, x.n2, ((x.who.toNat : Nat) : Int), ((x.path.length : Nat) : Int)]).flatten, 0⟩⟩
    have ha3 := at_add_self m2 ⟨3, (intE [x.kind, x.a, x.n, x.n2, ((x.who.toNat : Nat) : Int), ((x.path.length : Nat) : Int)]).flatten, 0⟩ hnx2
    have hF3 := Fr.add (S := S0) m2 ⟨3, (intE [x.kind, x.a, x.n, x.n2, ((x.who.toNat : Nat) : Int), ((x.path.length : Nat) : Int)]).flatten, 0⟩ hnx2
    have hn3 : (m2.add ⟨3, (intE [x.kind, x.a, x.n, x.n2, ((x.who.toNat : Nat) : Int), ((x.path.length : Nat) : Int)]).flatten, 0⟩).next = m2.next + 1 := rfl
    generalize m2.add ⟨3, (intE [x.kind, x.a, x.n, x.n2, ((x.who.toNat : Nat) : Int), ((x.path.length : Nat) : Int)]).flatten, 0⟩ = m3 at *
    have hR3 := hR2.fr0 hF3
    have hb3 := hF3.keep _ _ hb2 rfl
    have hp3 := hp2.fr hF3 rfl
    have hsl6 : SlV m3 3 1 (.ref m2.next 6 0 6 6 true 1) (intE [x.kind, x.a, x.n, x.n2, ((x.who.toNat : Nat) : Int), ((x.path.length : Nat) : Int)]) := .ref m2.next 6 0 6 true _ (intE [x.kind, x.a, x.n, x.n2, ((x.who.toNat : Nat) : Int), ((x.path.length : Nat) : Int)]) (intE_one _) ha3 rfl rfl rfl (Nat.le_refl _)
    refine vops_nil (vwp_block ?_)
    have hbnd : ∀ n ∈ [x.kind, x.a, x.n, x.n2, ((x.who.toNat : Nat) : Int), ((x.path.length : Nat) : Int)], -9223372036854775808 ≤ n ∧ n ≤ 9223372036854775807 := by
      intro n hn
      have hw256 := x.who.toNat_lt
      have hp3' := hxo.path
      simp only [List.mem_cons, List.not_mem_nil, or_false] at hn
      rcases hn with rfl | rfl | rfl | rfl | rfl | rfl
      · exact small64 hxo.kind
      · exact small64 hxo.a
      · exact small64 hxo.n
      · exact small64 hxo.n2
      · omega
      · omega
    refine (encC_loop m3 (.ref m2.next 6 0 6 6 true 1) o (bs ++ stepsB (l.take k)) [x.kind, x.a, x.n, x.n2, ((x.who.toNat : Nat) : Int), ((x.path.length : Nat) : Int)] hsl6 (by simp) hbnd (by omega) (by rw [List.length_append]; omega) 6 0 _ m3 rfl (by simp) (by simp [s4]) (by simp) (by simp) (by simp [numsB]; exact hR3) (.refl _ _) (by simp [numsB])).mono ?_
    rintro ex st ⟨rfl, sl4, m4, rfl, hK4, hR4, hF4⟩
    have k1 := hK4 4 (by simp); have k2 := hK4 8 (by simp); have k3 := hK4 35 (by simp); have k4 := hK4 36 (by simp); have k5 := hK4 37 (by simp)
    simp [s4, s35, s36, s37] at k1 k2 k3 k4 k5
    clear hK4
    have hb4 := hF4.keep _ _ hb3 rfl
    have hp4 := hp3.fr hF4 rfl
    have hmx4 := hF4.most
    rw [show ([x.kind, x.a, x.n, x.n2, ((x.who.toNat : Nat) : Int), ((x.path.length : Nat) : Int)] : List Int).length = 6 from rfl] at hF4 hmx4
    refine vwp_seq (vwp_seq ?_)
    refine vwp_region ?_
    iterate 5 (refine vops_cons (n := 0) (by simp (maxSteps := 1000000) [k2, ty119, ty65, ty63, hb4.2, hpc, hpl]; rfl) ?_)
    refine vops_nil ?_
    refine vwp_block ?_
    have hl6 : (numsB [x.kind, x.a, x.n, x.n2, ((x.who.toNat : Nat) : Int), ((x.path.length : Nat) : Int)]).length ≤ 60 := by
      simp only [numsB, List.map_cons, List.map_nil, List.flatten_cons, List.flatten_nil, List.length_append, List.length_nil]
      have a0 := hbnd x.kind (by simp); have a1 := hbnd x.a (by simp); have a2 := hbnd x.n (by simp); have a3 := hbnd x.n2 (by simp); have a4 := hbnd ((x.who.toNat : Nat) : Int) (by simp); have a5 := hbnd ((x.path.length : Nat) : Int) (by simp)
      have b0 := numB_le10 a0.1 a0.2; have b1 := numB_le10 a1.1 a1.2; have b2 := numB_le10 a2.1 a2.2; have b3 := numB_le10 a3.1 a3.2; have b4 := numB_le10 a4.1 a4.2; have b5 := numB_le10 a5.1 a5.2
      omega
    have hpl3 := hxo.path
    refine (encD_loop m4 p o (bs ++ stepsB (l.take k) ++ numsB [x.kind, x.a, x.n, x.n2, ((x.who.toNat : Nat) : Int), ((x.path.length : Nat) : Int)]) x.path hp4 (by omega) hxo.texts (by omega) (by rw [List.length_append, List.length_append]; omega) x.path.length 0 _ m4 (by omega) (by simp) (by simp [k1]) (by simp) (by simp) (by simp [textsB]; simpa using hR4) (.refl _ _) (by simp [textsB])).mono ?_
    rintro ex st ⟨rfl, sl5, m5, rfl, hK5, hR5, hF5⟩
    have q1 := hK5 4 (by simp); have q2 := hK5 8 (by simp); have q3 := hK5 35 (by simp); have q4 := hK5 36 (by simp); have q5 := hK5 37 (by simp)
    simp [k1, k2, k3, k4, k5] at q1 q2 q3 q4 q5
    clear hK5
    have hmx5 := hF5.most
    have hb5 := hF5.keep _ _ hb4 rfl
    have htl := texts_len x.path hxo.texts
    have htl' : (textsB x.path).length ≤ 31 * x.path.length := htl
    refine vwp_seq (vwp_region ?_)
    iterate 3 (refine vops_cons (n := 0) (by simp (maxSteps := 1000000) [q2, ty119, ty65, ty3, hb5.2]; rfl) ?_)
    refine vops_callv (g := 128) (first := []) (cap := []) (avs := [.ptr o 1 0, .int .i64 x.act]) rfl rfl rfl (by simp [q1]) ?_
    refine (outNum_ok (m := m5) hR5 (small64 hxo.act).1 (small64 hxo.act).2 (by omega) (by simp only [List.length_append]; omega)).mono fun r m6 h => ?_
    obtain ⟨rfl, hR6, hF6⟩ := h
    have hmx6 := hF6.most
    have hb6 := hF6.keep _ _ hb5 rfl
    have hact := numB_le10 (small64 hxo.act).1 (small64 hxo.act).2
    refine ⟨_, by simp; rfl, vops_nil (vwp_seq (vwp_region ?_))⟩
    iterate 3 (refine vops_cons (n := 0) (by simp (maxSteps := 1000000) [q2, ty119, ty65, ty9, hb6.2]; rfl) ?_)
    refine vops_callv (g := 129) (first := []) (cap := []) (avs := [.ptr o 1 0, .str (mkS x.s)]) rfl rfl rfl (by simp [q1]) ?_
    have hxs := hxo.s
    refine (outText_ok (m := m6) hR6 (by omega) (by simp only [List.length_append]; omega) (by omega)).mono fun r m7 h => ?_
    obtain ⟨rfl, hR7, hF7⟩ := h
    have hmx7 := hF7.most
    have hb7 := hF7.keep _ _ hb6 rfl
    have hsl := txtB_len hxo.s
    refine ⟨_, by simp; rfl, vops_nil (vwp_region ?_)⟩
    iterate 3 (refine vops_cons (n := 0) (by simp (maxSteps := 1000000) [q2, ty119, ty65, ty2, hb7.2]; rfl) ?_)
    refine vops_callv (g := 128) (first := []) (cap := []) (avs := [.ptr o 1 0, .int .i64 x.num]) rfl rfl rfl (by simp [q1]) ?_
    have hnum := hxo.num
    have em : mostInc = 1099511627776 := rfl
    refine (outNum_ok (m := m7) hR7 (by omega) (by omega) (by omega) (by simp only [List.length_append]; omega)).mono fun r m8 h => ?_
    obtain ⟨rfl, hR8, hF8⟩ := h
    refine ⟨_, by simp; rfl, vops_nil ?_⟩
    have hR8' : OutR m8 o (bs ++ stepsB (l.take (k + 1))) := by
      have e : bs ++ stepsB (l.take (k + 1)) = bs ++ stepsB (l.take k) ++ numsB [x.kind, x.a, x.n, x.n2, ((x.who.toNat : Nat) : Int), ((x.path.length : Nat) : Int)] ++ textsB x.path ++ numB x.act ++ txtB x.s ++ numB x.num := by
        rw [htk, show stepsB (l.take k ++ [x]) = stepsB (l.take k) ++ stepB x by simp [stepsB], stepB_eq]
        simp only [List.append_assoc]
      rw [e]; exact hR8
    have hFS : ∀ t, SO t = false → S0 t = false := fun _ _ => rfl
    have hFF : Fr SO m m8 (400 * (k + 1)) := ((((((hF.trans (hF2.mono (Nat.le_refl _) hFS) (Nat.le_refl _)).trans (hF3.mono (Nat.le_refl _) hFS) (Nat.le_refl _)).trans hF4 (Nat.le_refl _)).trans hF5 (Nat.le_refl _)).trans hF6 (Nat.le_refl _)).trans hF7 (Nat.le_refl _)).trans hF8 (by omega)
    refine vwp_region ?_
    iterate 2 (refine vops_cons (n := 0) (by simp (maxSteps := 1000000) [q5, wrap_up (show k < 1000000000 by omega)]; rfl) ?_)
    refine vops_nil ?_
    exact ih (k + 1) _ m8 (by omega) (by simp [q1]) (by simp [q3]) (by simp [q4]) (by simp) hR8' hFF (by rw [htk, show stepsB (l.take k ++ [x]) = stepsB (l.take k) ++ stepB x by simp [stepsB], List.length_append]; have := stepB_len hxo; omega)

theorem scriptB_eq (x : LScript) : scriptB x = numsB [x.c, x.s, x.cap, ((x.steps.length : Nat) : Int)] ++ stepsB x.steps := by simp [scriptB, numsB, stepsB]

/-- A script's bytes, if it is right. -/
theorem encode_ok {m : Mem} {cs : List AVal} {x : LScript} (h : ScrR m 119 cs x) (hlen : x.steps.length ≤ 1000) (hn : m.next ≤ 400000) :
    vcall ES 51 [.agg cs] m fun r m' => Fr SO m m' 90000 ∧ (match scriptOkB x with
      | false => r = .tup [.nil true, .int .i64 1]
      | true => ∃ v, r = .tup [v, .int .i64 0] ∧ BV m' v (scriptB x) ∧ (v = .nil true ∨ ∃ a b c d e f g, v = .ref a b c d e f g)) := by
  obtain ⟨w, rfl, hw⟩ := h
  have hnx : m.next < 1048576 := by omega
  have hwl := hw.len
  have hwc : AVal.cells? w = some [w] := by obtain ⟨els, h1, _⟩ := hw; exact h1.cl
  have ha1 := at_add_self m ⟨130, [.int .i64 x.c, .int .i64 x.s, .int .i64 x.cap, w], 0⟩ hnx
  have hF1 := Fr.add (S := S0) m ⟨130, [.int .i64 x.c, .int .i64 x.s, .int .i64 x.cap, w], 0⟩ hnx
  have hn1 : (m.add ⟨130, [.int .i64 x.c, .int .i64 x.s, .int .i64 x.cap, w], 0⟩).next = m.next + 1 := rfl
  have hw1 := hw.fr hF1 rfl rfl
  refine vcall_body (fn := f51) (c := ((f51.body).getD .skip)) rfl fns51 body51 (by rw [vntmps51]; show 1 ≤ 92; decide) (by rw [vntmps51]; decide) ?_
  rw [vntmps51]
  simp only [vresults51]
  unfold f51
  simp only [Option.getD_some]
  refine vwp_seq (vwp_region ?_)
  iterate 1 (refine vops_cons (n := 0) (by simp (maxSteps := 1000000) [hnx]; rfl) ?_)
  show vops _ _ _ _ ⟨51, 92, _, m.add ⟨130, [.int .i64 x.c, .int .i64 x.s, .int .i64 x.cap, w], 0⟩⟩
  generalize m.add ⟨130, [.int .i64 x.c, .int .i64 x.s, .int .i64 x.cap, w], 0⟩ = m1 at *
  iterate 2 (refine vops_cons (n := 0) (by simp (maxSteps := 1000000) []; rfl) ?_)
  refine vops_nil (vwp_seq (vwp_seq (vwp_region ?_)))
  iterate 1 (refine vops_cons (n := 0) (by simp (maxSteps := 1000000) [ty130, ha1.2]; rfl) ?_)
  refine vops_callv (g := 53) (first := []) (cap := []) (avs := [.agg [.int .i64 x.c, .int .i64 x.s, .int .i64 x.cap, w]]) rfl rfl rfl (by simp) ?_
  refine (right_ok ⟨w, rfl, hw1⟩ hlen (by omega)).mono fun r m2 hr => ?_
  obtain ⟨rfl, hF2⟩ := hr
  have hmx2 := hF2.most
  have ha2 := hF2.keep _ _ ha1 rfl
  have hw2 := hw1.fr hF2 rfl rfl
  have hFS : ∀ t, SO t = false → S0 t = false := fun _ _ => rfl
  have hF02 : Fr SO m m2 4000 := (hF1.trans hF2 (Nat.le_refl _)).mono (by omega) hFS
  cases hok : scriptOkB x with
  | false =>
    refine ⟨_, by simp; rfl, ?_⟩
    iterate 1 (refine vops_cons (n := 0) (by simp (maxSteps := 1000000) []; rfl) ?_)
    refine vops_nil (vwp_cond (t := true) (by simp [St.ev, St.slot_mk, sget_put]) ?_)
    refine vwp_seq ?_
    refine vwp_region ?_
    iterate 2 (refine vops_cons (n := 0) (by simp (maxSteps := 1000000) []; rfl) ?_)
    refine vops_nil ?_
    exact vwp_ret ⟨.inr rfl, _, by simp [resultVals]; rfl, hF02.le (by omega), rfl⟩
  | true =>
    have hSO := (scriptOkB_iff x).1 hok
    have hl200 := hSO.len
    refine ⟨_, by simp; rfl, ?_⟩
    iterate 1 (refine vops_cons (n := 0) (by simp (maxSteps := 1000000) []; rfl) ?_)
    refine vops_nil (vwp_cond (t := false) (by simp [St.ev, St.slot_mk, sget_put]) (vwp_skip ?_))
    have hnx2 : m2.next < 1048576 := by omega
    refine vwp_seq ?_
    refine vwp_region ?_
    iterate 1 (refine vops_cons (n := 0) (by simp (maxSteps := 1000000) [ty229, hnx2]; rfl) ?_)
    refine vops_nil ?_
    show vwp _ _ _ ⟨51, 92, _, m2.add ⟨229, [.nil true], 0⟩⟩
    have hF3 := Fr.add (S := S0) m2 ⟨229, [.nil true], 0⟩ hnx2
    have hO3 : OutR (m2.add ⟨229, [.nil true], 0⟩) m2.next [] := ⟨.nil true, at_add_self _ _ hnx2, GrowV.nil _ _ _⟩
    have hn3 : (m2.add ⟨229, [.nil true], 0⟩).next = m2.next + 1 := rfl
    have ha3 := hF3.keep _ _ ha2 rfl
    have hw3 := hw2.fr hF3 rfl rfl
    generalize m2.add ⟨229, [.nil true], 0⟩ = m3 at *
    have hnx3 : m3.next < 1048576 := by omega
    refine vwp_seq (vwp_seq (vwp_region ?_))
    iterate 12 (refine vops_cons (n := 0) (by simp (maxSteps := 1000000) [ty130, ty3, ty128, ty230, ha3.2, hwl, hwc, hnx3, sl_ref]; rfl) ?_)
    show vops _ _ _ _ ⟨51, 92, _, m3.add ⟨3, (intE [x.c, x.s, x.cap, ((x.steps.length : Nat) : Int)]).flatten, 0⟩⟩
    have ha4 := at_add_self m3 ⟨3, (intE [x.c, x.s, x.cap, ((x.steps.length : Nat) : Int)]).flatten, 0⟩ hnx3
    have hF4 := Fr.add (S := S0) m3 ⟨3, (intE [x.c, x.s, x.cap, ((x.steps.length : Nat) : Int)]).flatten, 0⟩ hnx3
    have hn4 : (m3.add ⟨3, (intE [x.c, x.s, x.cap, ((x.steps.length : Nat) : Int)]).flatten, 0⟩).next = m3.next + 1 := rfl
    generalize m3.add ⟨3, (intE [x.c, x.s, x.cap, ((x.steps.length : Nat) : Int)]).flatten, 0⟩ = m4 at *
    have hO4 := hO3.fr0 hF4
    have hb4 := hF4.keep _ _ ha3 rfl
    have hw4 := hw3.fr hF4 rfl rfl
    have hsl4 : SlV m4 3 1 (.ref m3.next 4 0 4 4 true 1) (intE [x.c, x.s, x.cap, ((x.steps.length : Nat) : Int)]) := .ref m3.next 4 0 4 true _ (intE [x.c, x.s, x.cap, ((x.steps.length : Nat) : Int)]) (intE_one _) ha4 rfl rfl rfl (Nat.le_refl _)
    have hbnd : ∀ n ∈ [x.c, x.s, x.cap, ((x.steps.length : Nat) : Int)], -9223372036854775808 ≤ n ∧ n ≤ 9223372036854775807 := by
      intro n hn
      simp only [List.mem_cons, List.not_mem_nil, or_false] at hn
      rcases hn with rfl | rfl | rfl | rfl
      · exact small64 hSO.c
      · exact small64 hSO.s
      · exact small64 hSO.cap
      · omega
    refine vops_nil (vwp_block ?_)
    refine (encA_loop m4 (.ref m3.next 4 0 4 4 true 1) m2.next [] [x.c, x.s, x.cap, ((x.steps.length : Nat) : Int)] hsl4 (by simp) hbnd (by omega) (by simp) 4 0 _ m4 rfl (by simp) (by simp) (by simp) (by simp) (by simp [numsB]; exact hO4) (.refl _ _) (by simp [numsB])).mono ?_
    rintro ex st ⟨rfl, sl5, m5, rfl, hK5, hO5, hF5⟩
    have k1 := hK5 1 (by simp); have k4 := hK5 4 (by simp)
    simp at k1 k4
    clear hK5
    rw [List.nil_append] at hO5
    have hmx5 := hF5.most
    rw [show ([x.c, x.s, x.cap, ((x.steps.length : Nat) : Int)] : List Int).length = 4 from rfl] at hF5 hmx5
    have hb5 := hF5.keep _ _ hb4 rfl
    have hw5 := hw4.fr hF5 rfl rfl
    have hl4 : (numsB [x.c, x.s, x.cap, ((x.steps.length : Nat) : Int)]).length ≤ 40 := by
      simp only [numsB, List.map_cons, List.map_nil, List.flatten_cons, List.flatten_nil, List.length_append, List.length_nil]
      have a0 := hbnd x.c (by simp); have a1 := hbnd x.s (by simp); have a2 := hbnd x.cap (by simp); have a3 := hbnd ((x.steps.length : Nat) : Int) (by simp)
      have b0 := numB_le10 a0.1 a0.2; have b1 := numB_le10 a1.1 a1.2; have b2 := numB_le10 a2.1 a2.2; have b3 := numB_le10 a3.1 a3.2
      omega
    refine vwp_seq (vwp_seq ?_)
    refine vwp_region ?_
    iterate 4 (refine vops_cons (n := 0) (by simp (maxSteps := 1000000) [k1, ty130, ty128, hb5.2, hwl, hwc]; rfl) ?_)
    refine vops_nil ?_
    refine vwp_block ?_
    refine (encB_loop m5 w m2.next (numsB [x.c, x.s, x.cap, ((x.steps.length : Nat) : Int)]) x.steps hw5 hl200 hSO.steps (by omega) (by omega) x.steps.length 0 _ m5 (by omega) (by simp [k4]) (by simp) (by simp) (by simp) (by simp [stepsB]; exact hO5) (.refl _ _) (by simp [stepsB])).mono ?_
    rintro ex st ⟨rfl, sl6, m6, rfl, k4', hO6, hF6⟩
    have hmx6 := hF6.most
    rw [← scriptB_eq] at hO6
    have hsl := scriptB_len hSO
    refine vwp_seq (vwp_region ?_)
    refine vops_callv (g := 130) (first := []) (cap := []) (avs := [.ptr m2.next 1 0]) rfl rfl rfl (by simp [St.ev, St.slot_mk, k4']) ?_
    refine (outEnd_ok (m := m6) hO6 (by omega) (by omega)).mono fun r m7 hr => ?_
    obtain ⟨v, rfl, hB, hv, hF7⟩ := hr
    refine ⟨_, by simp; rfl, ?_⟩
    iterate 4 (refine vops_cons (n := 0) (by simp (maxSteps := 1000000) []; rfl) ?_)
    refine vops_nil (vwp_ret ⟨.inr rfl, _, by simp [resultVals]; rfl, ?_, _, rfl, hB, hv⟩)
    exact (((((hF02.trans (hF3.mono (Nat.le_refl _) hFS) (Nat.le_refl _)).trans (hF4.mono (Nat.le_refl _) hFS) (Nat.le_refl _)).trans hF5 (Nat.le_refl _)).trans hF6 (Nat.le_refl _)).trans (hF7.mono (Nat.le_refl _) hFS) (by omega))
end Go.Proofs.Tryz
