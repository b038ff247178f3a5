/-
  The codec's In: numbers and texts taken, on the abstract machine.
-/
import Derived.Test.YtdmaodpmfbgcaaaGreatSRight
set_option maxRecDepth 100000
namespace Go.Proofs.Tryz
open Go Go.V Go.SC
attribute [local simp] runOp wanted isHeavy light St.ev St.slot_mk sget_put St.put_mk cl_int cl_bool cl_str cl_ptr cl_nil cl_ref cl_imm cl_agg cl_nilp NewV.at nblt nble nbeq ofConst ofConst1 fieldOf sh_ptr sh_iptr rc_ptr rc_iptr lget mkVal VD.isAgg lenOf bin ar_add ar_sub ar_mul ar_eql ar_neq ar_lss ar_leq ar_gtr ar_geq argSlots un heavy writeCells lput eqVals next_add next_upd fillA zeros natOf_cast
/-! ### Bits -/
theorem andnot128 (c : UInt8) : arith .andNot .u8 ((c.toNat : Nat) : Int) 128 = some (.int .u8 ((c.toNat % 128 : Nat) : Int)) := by
  have h : ∀ k : Nat, k < 256 → (BitVec.ofNat 8 k &&& ~~~ BitVec.ofInt 8 128).toNat = k % 128 := by decide
  show some (AVal.int .u8 (IntKind.u8.wrap (BitVec.ofInt 8 ((c.toNat : Nat) : Int) &&& ~~~ BitVec.ofInt 8 128).toNat)) = _
  rw [BitVec.ofInt_natCast, h _ c.toNat_lt, u8w]
  congr 2; omega
theorem and128 (c : UInt8) : arith .and .u8 ((c.toNat : Nat) : Int) 128 = some (.int .u8 ((if c.toNat < 128 then 0 else 128 : Nat) : Int)) := by
  have h : ∀ k : Nat, k < 256 → (BitVec.ofNat 8 k &&& BitVec.ofInt 8 128).toNat = if k < 128 then 0 else 128 := by decide
  show some (AVal.int .u8 (IntKind.u8.wrap (BitVec.ofInt 8 ((c.toNat : Nat) : Int) &&& BitVec.ofInt 8 128).toNat)) = _
  rw [BitVec.ofInt_natCast, h _ c.toNat_lt, u8w]
  congr 2; split <;> rfl
theorem or_shift {u d k : Nat} (hu : u < 2 ^ (7 * k)) (hs : u + d * 2 ^ (7 * k) < 18446744073709551616) : arith .or .u64 ((u : Nat) : Int) ((d * 2 ^ (7 * k) : Nat) : Int) = some (.int .u64 ((u + d * 2 ^ (7 * k) : Nat) : Int)) := by
  show some (AVal.int .u64 (IntKind.u64.wrap (BitVec.ofInt 64 ((u : Nat) : Int) ||| BitVec.ofInt 64 ((d * 2 ^ (7 * k) : Nat) : Int)).toNat)) = _
  rw [BitVec.ofInt_natCast, BitVec.ofInt_natCast, BitVec.toNat_or, BitVec.toNat_ofNat, BitVec.toNat_ofNat, Nat.mod_eq_of_lt (by omega), Nat.mod_eq_of_lt (by omega), Nat.or_comm, Nat.mul_comm d, ← Nat.two_pow_add_eq_or_of_lt hu, Nat.add_comm, Nat.mul_comm, u64w, Nat.mod_eq_of_lt hs]
theorem and1 {u : Nat} (h : u < 18446744073709551616) : arith .and .u64 ((u : Nat) : Int) 1 = some (.int .u64 ((u % 2 : Nat) : Int)) := by
  show some (AVal.int .u64 (IntKind.u64.wrap (BitVec.ofInt 64 ((u : Nat) : Int) &&& BitVec.ofInt 64 ((1 : Nat) : Int)).toNat)) = _
  rw [BitVec.ofInt_natCast, BitVec.ofInt_natCast, BitVec.toNat_and, BitVec.toNat_ofNat, BitVec.toNat_ofNat, Nat.mod_eq_of_lt (by omega), Nat.mod_eq_of_lt (by decide), Nat.and_one_is_mod, u64w, Nat.mod_eq_of_lt (by omega)]
theorem i64b (z : Int) : IntKind.i64.wrap z = if z % 18446744073709551616 < 9223372036854775808 then z % 18446744073709551616 else z % 18446744073709551616 - 18446744073709551616 := by
  simp [IntKind.wrap, IntKind.bits, IntKind.signed]
  split <;> split <;> omega
theorem unzig_bits {u : Nat} (h : u < 18446744073709551616) : arith .xor .i64 ((u / 2 : Nat) : Int) (IntKind.i64.wrap (0 - ((u % 2 : Nat) : Int))) = some (.int .i64 (unzig u)) := by
  rcases Nat.mod_two_eq_zero_or_one u with h0 | h1
  · rw [h0]
    show some (AVal.int .i64 (IntKind.i64.wrap (BitVec.ofInt 64 ((u / 2 : Nat) : Int) ^^^ BitVec.ofInt 64 0).toNat)) = _
    rw [xor_none (by omega), i64n (by omega)]
    unfold unzig; rw [if_pos h0]
  · rw [h1]
    show some (AVal.int .i64 (IntKind.i64.wrap (BitVec.ofInt 64 ((u / 2 : Nat) : Int) ^^^ BitVec.ofInt 64 18446744073709551615).toNat)) = _
    rw [xor_all (by omega), i64b]
    unfold unzig; rw [if_neg (by omega)]
    congr 2
    split <;> omega

/-! ### In -/
def SI : TypeId → Bool := fun t => Nat.beq t 378
def InR (m : Mem) (i : Nat) : IS → Prop
  | none => m.at i ⟨378, [.nil true, .bool true], 0⟩
  | some bs => ∃ v, m.at i ⟨378, [v, .bool false], 0⟩ ∧ BV m v bs
theorem InR.upd {m : Mem} {i : Nat} {B : Block} {v : AVal} {bs : List UInt8} (h : m.at i B) (hn : m.next ≤ 1048576) (hB : B.ty = 378) (hv : BV m v bs) : InR (m.upd i ⟨378, [v, .bool false], 0⟩) i (some bs) :=
  ⟨v, at_upd_self h hn _, hv.fr (Fr.upd (S := SI) h hn (by rw [hB]; rfl) _) rfl⟩
theorem InR.fr {S : TypeId → Bool} {m m' : Mem} {k i : Nat} {st : IS} (hF : Fr S m m' k) (h1 : S 378 = false) (h2 : S 5 = false) (h : InR m i st) : InR m' i st := by
  cases st with
  | none => exact hF.keep i _ h h1
  | some bs => obtain ⟨v, h3, h4⟩ := h; exact ⟨v, hF.keep i _ h3 h1, h4.fr hF h2⟩
theorem fns248 : ES.fns.get 248 = some f248 := by kernel_rfl
theorem vntmps248 : f248.ntmps = 10 := by kernel_rfl
theorem vresults248 : f248.results.toList = [] := by kernel_rfl
theorem body248 : f248.body = some ((f248.body).getD .skip) := by kernel_rfl
theorem fns264 : ES.fns.get 264 = some f264 := by kernel_rfl
theorem vntmps264 : f264.ntmps = 56 := by kernel_rfl
theorem vresults264 : f264.results.toList = [.tmp 2, .tmp 3] := by kernel_rfl
theorem body264 : f264.body = some ((f264.body).getD .skip) := by kernel_rfl
theorem fns157 : ES.fns.get 157 = some f157 := by kernel_rfl
theorem vntmps157 : f157.ntmps = 49 := by kernel_rfl
theorem vresults157 : f157.results.toList = [.tmp 4] := by kernel_rfl
theorem body157 : f157.body = some ((f157.body).getD .skip) := by kernel_rfl
theorem fns249 : ES.fns.get 249 = some f249 := by kernel_rfl
theorem vntmps249 : f249.ntmps = 48 := by kernel_rfl
theorem vresults249 : f249.results.toList = [.tmp 4] := by kernel_rfl
theorem body249 : f249.body = some ((f249.body).getD .skip) := by kernel_rfl
theorem fns138 : ES.fns.get 138 = some f138 := by kernel_rfl
theorem vntmps138 : f138.ntmps = 5 := by kernel_rfl
theorem vresults138 : f138.results.toList = [.tmp 2] := by kernel_rfl
theorem body138 : f138.body = some ((f138.body).getD .skip) := by kernel_rfl
theorem fns139 : ES.fns.get 139 = some f139 := by kernel_rfl
theorem vntmps139 : f139.ntmps = 14 := by kernel_rfl
theorem vresults139 : f139.results.toList = [.tmp 4] := by kernel_rfl
theorem body139 : f139.body = some ((f139.body).getD .skip) := by kernel_rfl
theorem fns141 : ES.fns.get 141 = some f141 := by kernel_rfl
theorem vntmps141 : f141.ntmps = 20 := by kernel_rfl
theorem vresults141 : f141.results.toList = [.tmp 2] := by kernel_rfl
theorem body141 : f141.body = some ((f141.body).getD .skip) := by kernel_rfl
theorem fns137 : ES.fns.get 137 = some f137 := by kernel_rfl
theorem vntmps137 : f137.ntmps = 7 := by kernel_rfl
theorem vresults137 : f137.results.toList = [.tmp 2] := by kernel_rfl
theorem body137 : f137.body = some ((f137.body).getD .skip) := by kernel_rfl
theorem natOf_succ (k : IntKind) (n : Nat) : natOf (.int k ((n : Int) + 1)) = some (n + 1) := rfl
theorem fail_ok {m : Mem} {i : Nat} {st : IS} (h : InR m i st) (hn : m.next ≤ 1000000) : vcall ES 248 [.ptr i 2 0] m fun r m' => r = .tup [] ∧ InR m' i none ∧ Fr SI m m' 0 := by
  obtain ⟨v, b, hb, hc⟩ : ∃ v b, m.at i ⟨378, [v, .bool b], 0⟩ ∧ AVal.cells? v = some [v] := by
    cases st with
    | none => exact ⟨_, _, h, rfl⟩
    | some bs => obtain ⟨v, h1, h2⟩ := h; exact ⟨v, _, h1, h2.cl⟩
  have hN : m.next ≤ 1048576 := by omega
  have h1 := at_upd_self hb hN ⟨378, [.nil true, .bool b], 0⟩
  refine vcall_body (fn := f248) (c := ((f248.body).getD .skip)) rfl fns248 body248 (by rw [vntmps248]; show 1 ≤ 10; decide) (by rw [vntmps248]; decide) ?_
  rw [vntmps248]
  simp only [vresults248]
  unfold f248
  simp only [Option.getD_some]
  refine vwp_seq ?_
  refine vwp_region ?_
  iterate 2 (refine vops_cons (n := 0) (by simp (maxSteps := 1000000) [ty238]; rfl) ?_)
  refine vops_nil ?_
  refine vwp_cond (t := true) (by simp [St.ev, St.slot_mk, sget_put]) ?_
  refine vwp_region ?_
  iterate 8 (refine vops_cons (n := 0) (by simp (maxSteps := 1000000) [ty378, ty22, ty4, hb.2, h1.2]; rfl) ?_)
  refine vops_nil ?_
  exact ⟨.inl rfl, [], rfl, rfl, at_upd_self h1 hN _, (Fr.upd hb hN rfl _).trans (Fr.upd h1 hN rfl _) (Nat.le_refl _)⟩

noncomputable def loop264 : Code := match f264.body with
  | some (.seq _ (.seq _ (.seq (.seq _ (.block _ l)) _))) => l
  | _ => .skip

theorem raw_loop (i : Nat) (m : Mem) (bs : List UInt8) (v : AVal) (hb : m.at i ⟨378, [v, .bool false], 0⟩) (hv : BV m v bs) (hN : m.next ≤ 1000000) (hl : bs.length ≤ 1000000) :
    ∀ (j k u : Nat) (sl : Slots), k + j = bs.length → k ≤ 10 → u < 2 ^ (7 * k) → sget sl 0 = .ptr i 2 0 → sget sl 2 = .int .u64 0 → sget sl 4 = .int .u64 (u : Nat) → sget sl 10 = v → sget sl 11 = .int .i64 (bs.length : Nat) → sget sl 12 = .int .i64 (k : Nat) →
    vwp ES loop264 (fun ex st => ∃ sl', (rawL k u (bs.drop k) = none ∧ (ex = .exit 0 ∨ (ex = .ret ∧ sget sl' 3 = .bool false ∧ sget sl' 2 = .int .u64 0)) ∧ st = ⟨264, 56, sl', m⟩) ∨
      (∃ w r v', rawL k u (bs.drop k) = some (w, r) ∧ ex = .ret ∧ sget sl' 2 = .int .u64 (w : Nat) ∧ sget sl' 3 = .bool true ∧ BV m v' r ∧ st = ⟨264, 56, sl', m.upd i ⟨378, [v', .bool false], 0⟩⟩)) ⟨264, 56, sl, m⟩ := by
  intro j
  induction j with
  | zero =>
    intro k u sl hij hk10 hu s0 s2 s4 s10 s11 s12
    obtain rfl : k = bs.length := by omega
    unfold loop264 f264
    refine vwp_loop (vwp_seq ?_)
    refine vwp_region ?_
    iterate 1 (refine vops_cons (n := 0) (by simp (maxSteps := 1000000) [s11, s12]; rfl) ?_)
    refine vops_nil ?_
    refine vwp_seq (vwp_cond (t := false) (by simp [St.ev, St.slot_mk, sget_put]) (vwp_exit ?_))
    exact ⟨_, .inl ⟨by rw [List.drop_length]; rfl, .inl rfl, rfl⟩⟩
  | succ j ih =>
    intro k u sl hij hk10 hu s0 s2 s4 s10 s11 s12
    have hk : k < bs.length := by omega
    have hk' : (k : Int) < (bs.length : Int) := by omega
    obtain ⟨c, hc⟩ : ∃ c, bs[k]? = some c := ⟨bs[k], List.getElem?_eq_getElem hk⟩
    have hd : bs.drop k = c :: bs.drop (k + 1) := by
      rw [List.drop_eq_getElem_cons hk]; congr; exact (List.getElem?_eq_some_iff.1 hc).2
    have hclt := c.toNat_lt
    obtain ⟨q, hA, hR⟩ := hv.elem (E := ES) ty22 rfl ty5 rfl (by decide) (i := k) (x := u8 c) (by simp [E8, hc])
    rw [hd, rawL]
    unfold loop264 f264
    refine vwp_loop (vwp_seq ?_)
    refine vwp_region ?_
    iterate 1 (refine vops_cons (n := 0) (by simp (maxSteps := 1000000) [s11, s12, hk']; rfl) ?_)
    refine vops_nil ?_
    refine vwp_seq (vwp_cond (t := true) (by simp [St.ev, St.slot_mk, sget_put]) (vwp_skip ?_))
    refine vwp_seq (vwp_block (vwp_seq ?_))
    refine vwp_region ?_
    iterate 2 (refine vops_cons (n := 0) (by simp (maxSteps := 1000000) [s10, s12, hA]; rfl) ?_)
    refine vops_load (v := .int .u8 (c.toNat : Nat)) rfl rfl ty5 (by simp; exact hR) rfl ⟨_, by simp; rfl, ?_⟩
    iterate 2 (refine vops_cons (n := 0) (by simp (maxSteps := 1000000) []; rfl) ?_)
    refine vops_nil ?_
    refine vwp_seq (vwp_seq ?_)

    by_cases c1 : (10 : Int) ≤ (k : Int)
    · rw [if_pos (.inl (by omega))]
      refine vwp_region ?_
      iterate 10 (refine vops_cons (n := 0) (by simp (maxSteps := 1000000) [s4, c1]; rfl) ?_)
      refine vops_nil ?_
      refine vwp_cond (t := true) (by simp [St.ev, St.slot_mk, sget_put]) ?_
      refine vwp_seq ?_
      refine vwp_region ?_
      iterate 2 (refine vops_cons (n := 0) (by simp (maxSteps := 1000000) []; rfl) ?_)
      refine vops_nil ?_
      exact vwp_ret ⟨_, .inl ⟨rfl, .inr ⟨rfl, by simp, by simp⟩, rfl⟩⟩
    · by_cases c2 : ((k : Nat) : Int) = 9 ∧ (1 : Int) < ((c.toNat : Nat) : Int)
      · obtain ⟨c2, c3⟩ := c2
        rw [if_pos (.inr ⟨by omega, by omega⟩)]
        refine vwp_region ?_
        iterate 10 (refine vops_cons (n := 0) (by simp (maxSteps := 1000000) [s4, c1, c2, c3]; rfl) ?_)
        refine vops_nil ?_
        refine vwp_cond (t := true) (by simp [St.ev, St.slot_mk, sget_put]) ?_
        refine vwp_seq ?_
        refine vwp_region ?_
        iterate 2 (refine vops_cons (n := 0) (by simp (maxSteps := 1000000) []; rfl) ?_)
        refine vops_nil ?_
        exact vwp_ret ⟨_, .inl ⟨rfl, .inr ⟨rfl, by simp, by simp⟩, rfl⟩⟩
      · rw [if_neg (by omega)]
        have hsum : u + c.toNat % 128 * 2 ^ (7 * k) < 2 ^ (7 * (k + 1)) := by
          rw [pow7]
          have : c.toNat % 128 * 2 ^ (7 * k) ≤ 127 * 2 ^ (7 * k) := Nat.mul_le_mul_right _ (by omega)
          omega
        have hs64 : u + c.toNat % 128 * 2 ^ (7 * k) < 18446744073709551616 := by
          have hk9 : k ≤ 8 ∨ k = 9 := by omega
          rcases hk9 with h8 | rfl
          · have : (2 : Nat) ^ (7 * (k + 1)) ≤ 2 ^ 63 := Nat.pow_le_pow_right (by decide) (by omega)
            have : (2 : Nat) ^ 63 < 18446744073709551616 := by decide
            omega
          · have h1 : c.toNat ≤ 1 := by omega
            have h2 : c.toNat % 128 * 2 ^ (7 * 9) ≤ 1 * 2 ^ (7 * 9) := Nat.mul_le_mul_right _ (by omega)
            have h3 : (2 : Nat) ^ (7 * 9) = 9223372036854775808 := by decide
            rw [h3] at h2 hu
            omega
        have b1 := andnot128 c
        have b2 := and128 c
        have b3 := or_shift (d := c.toNat % 128) hu hs64
        have hd128 : c.toNat % 128 < 128 := by omega
        have e1 : IntKind.i64.wrap (7 * (k : Int)) = 7 * (k : Int) := i64w (by omega) (by omega)
        generalize c.toNat % 128 = d at *
        have e2 : IntKind.u64.wrap ((d : Nat) : Int) = ((d : Nat) : Int) := by rw [u64w, Nat.mod_eq_of_lt (by omega)]
        have e3 : bin ES .shl 371 (.int .u64 ((d : Nat) : Int)) (.int .i64 (7 * (k : Int))) = some (.int .u64 ((d * 2 ^ (7 * k) : Nat) : Int)) := by
          have h0 : ¬ (7 * (k : Int)) < 0 := by omega
          have h1 : min ((7 * (k : Int)).toNat) IntKind.u64.bits = 7 * k := by
            have : IntKind.u64.bits = 64 := rfl
            omega
          simp only [bin, h0, if_false, h1]
          rw [show ((d : Nat) : Int) * 2 ^ (7 * k) = ((d * 2 ^ (7 * k) : Nat) : Int) by simp, u64w, Nat.mod_eq_of_lt (by omega)]
        generalize hS : u + d * 2 ^ (7 * k) = S at *
        generalize hD : d * 2 ^ (7 * k) = D at *

        by_cases c2' : ((k : Nat) : Int) = 9
        · have c3 : ¬ (1 : Int) < ((c.toNat : Nat) : Int) := fun h => c2 ⟨c2', h⟩
          have hE : arith .eql .i64 ((k : Nat) : Int) 9 = some (.bool true) := by rw [ar_eql, decide_eq_true c2']
          refine vwp_region ?_
          iterate 10 (refine vops_cons (n := 0) (by simp (maxSteps := 1000000) [s4, c1, hE, c3, -ar_eql]; rfl) ?_)
          refine vops_nil ?_
          refine vwp_cond (t := false) (by simp [St.ev, St.slot_mk, sget_put]) (vwp_skip ?_)
          refine vwp_seq (vwp_region ?_)
          iterate 6 (refine vops_cons (n := 0) (by simp (maxSteps := 1000000) [b1, ty5, ty371, e1, e2]; rfl) ?_)
          refine vops_cons (n := 0) (by simp only [runOp, wanted, isHeavy, cond_false, light, St.ev, St.slot_mk, sget_put, Nat.reduceLT, Nat.reduceEqDiff, if_true, if_false, e3, Option.map_some]; exact St.put_mk _ _ _ _ _ _ (by decide)) ?_
          iterate 2 (refine vops_cons (n := 0) (by simp (maxSteps := 1000000) [s4, b3]; rfl) ?_)
          refine vops_nil ?_
          refine vwp_seq ?_
          by_cases c5 : c.toNat < 128
          · rw [if_pos c5] at b2
            rw [if_pos c5]
            refine vwp_region ?_
            iterate 3 (refine vops_cons (n := 0) (by simp (maxSteps := 1000000) [b2]; rfl) ?_)
            refine vops_nil ?_
            refine vwp_cond (t := true) (by simp [St.ev, St.slot_mk, sget_put]) ?_
            refine vwp_seq (vwp_seq ?_)
            obtain ⟨v', hcut, hv'⟩ := hv.drop (E := ES) ty22 rfl ty5 rfl (n := k + 1) (by rw [E8_len]; omega)
            rw [E8_drop] at hv'
            by_cases c6 : ((c.toNat : Nat) : Int) = 0
            · have hE0 : arith .eql .u8 ((c.toNat : Nat) : Int) 0 = some (.bool true) := by rw [ar_eql, decide_eq_true c6]
              by_cases c7 : (0 : Int) < (k : Int)
              · rw [if_pos ⟨by omega, by omega⟩]
                have hG : arith .gtr .i64 ((k : Nat) : Int) 0 = some (.bool true) := by rw [ar_gtr, decide_eq_true c7]
                refine vwp_region ?_
                iterate 6 (refine vops_cons (n := 0) (by simp (maxSteps := 1000000) [hE0, hG, -ar_gtr, -ar_eql]; rfl) ?_)
                refine vops_nil ?_
                refine vwp_cond (t := true) (by simp [St.ev, St.slot_mk, sget_put]) ?_
                refine vwp_seq ?_
                refine vwp_region ?_
                iterate 2 (refine vops_cons (n := 0) (by simp (maxSteps := 1000000) []; rfl) ?_)
                refine vops_nil ?_
                exact vwp_ret ⟨_, .inl ⟨rfl, .inr ⟨rfl, by simp, by simp⟩, rfl⟩⟩
              · rw [if_neg (by omega)]
                have hG : arith .gtr .i64 ((k : Nat) : Int) 0 = some (.bool false) := by rw [ar_gtr, decide_eq_false c7]
                refine vwp_region ?_
                iterate 6 (refine vops_cons (n := 0) (by simp (maxSteps := 1000000) [hE0, hG, -ar_gtr, -ar_eql]; rfl) ?_)
                refine vops_nil ?_
                have hcl := hv'.cl
                refine vwp_cond (t := false) (by simp [St.ev, St.slot_mk, sget_put]) (vwp_skip ?_)
                refine vwp_seq ?_
                refine vwp_region ?_
                iterate 11 (refine vops_cons (n := 0) (by simp (maxSteps := 1000000) [s0, ty378, ty22, hb.2, optNat, natOf_succ, hcut, hcl, wrap_up (show k < 1000000000 by omega)]; rfl) ?_)
                refine vops_nil ?_
                refine vwp_seq ?_
                refine vwp_region ?_
                iterate 3 (refine vops_cons (n := 0) (by simp (maxSteps := 1000000) []; rfl) ?_)
                refine vops_nil ?_
                exact vwp_ret ⟨_, .inr ⟨_, _, v', rfl, rfl, by simp, by simp, hv', rfl⟩⟩

            · rw [if_neg (by omega)]
              have hE0 : arith .eql .u8 ((c.toNat : Nat) : Int) 0 = some (.bool false) := by rw [ar_eql, decide_eq_false c6]
              refine vwp_region ?_
              iterate 6 (refine vops_cons (n := 0) (by simp (maxSteps := 1000000) [hE0, -ar_eql]; rfl) ?_)
              refine vops_nil ?_
              have hcl := hv'.cl
              refine vwp_cond (t := false) (by simp [St.ev, St.slot_mk, sget_put]) (vwp_skip ?_)
              refine vwp_seq ?_
              refine vwp_region ?_
              iterate 11 (refine vops_cons (n := 0) (by simp (maxSteps := 1000000) [s0, ty378, ty22, hb.2, optNat, natOf_succ, hcut, hcl, wrap_up (show k < 1000000000 by omega)]; rfl) ?_)
              refine vops_nil ?_
              refine vwp_seq ?_
              refine vwp_region ?_
              iterate 3 (refine vops_cons (n := 0) (by simp (maxSteps := 1000000) []; rfl) ?_)
              refine vops_nil ?_
              exact vwp_ret ⟨_, .inr ⟨_, _, v', rfl, rfl, by simp, by simp, hv', rfl⟩⟩

          · rw [if_neg c5] at b2
            rw [if_neg c5]
            refine vwp_region ?_
            iterate 3 (refine vops_cons (n := 0) (by simp (maxSteps := 1000000) [b2]; rfl) ?_)
            refine vops_nil ?_
            refine vwp_cond (t := false) (by simp [St.ev, St.slot_mk, sget_put]) (vwp_skip ?_)
            refine vwp_region ?_
            iterate 2 (refine vops_cons (n := 0) (by simp (maxSteps := 1000000) [s12, wrap_up (show k < 1000000000 by omega)]; rfl) ?_)
            refine vops_nil ?_
            exact ih (k + 1) S _ (by omega) (by omega) hsum (by simp [s0]) (by simp [s2]) (by simp) (by simp [s10]) (by simp [s11]) (by simp)
        · skip
          refine vwp_region ?_
          iterate 10 (refine vops_cons (n := 0) (by simp (maxSteps := 1000000) [s4, c1, c2']; rfl) ?_)
          refine vops_nil ?_
          refine vwp_cond (t := false) (by simp [St.ev, St.slot_mk, sget_put]) (vwp_skip ?_)
          refine vwp_seq (vwp_region ?_)
          iterate 6 (refine vops_cons (n := 0) (by simp (maxSteps := 1000000) [b1, ty5, ty371, e1, e2]; rfl) ?_)
          refine vops_cons (n := 0) (by simp only [runOp, wanted, isHeavy, cond_false, light, St.ev, St.slot_mk, sget_put, Nat.reduceLT, Nat.reduceEqDiff, if_true, if_false, e3, Option.map_some]; exact St.put_mk _ _ _ _ _ _ (by decide)) ?_
          iterate 2 (refine vops_cons (n := 0) (by simp (maxSteps := 1000000) [s4, b3]; rfl) ?_)
          refine vops_nil ?_
          refine vwp_seq ?_
          by_cases c5 : c.toNat < 128
          · rw [if_pos c5] at b2
            rw [if_pos c5]
            refine vwp_region ?_
            iterate 3 (refine vops_cons (n := 0) (by simp (maxSteps := 1000000) [b2]; rfl) ?_)
            refine vops_nil ?_
            refine vwp_cond (t := true) (by simp [St.ev, St.slot_mk, sget_put]) ?_
            refine vwp_seq (vwp_seq ?_)
            obtain ⟨v', hcut, hv'⟩ := hv.drop (E := ES) ty22 rfl ty5 rfl (n := k + 1) (by rw [E8_len]; omega)
            rw [E8_drop] at hv'
            by_cases c6 : ((c.toNat : Nat) : Int) = 0
            · have hE0 : arith .eql .u8 ((c.toNat : Nat) : Int) 0 = some (.bool true) := by rw [ar_eql, decide_eq_true c6]
              by_cases c7 : (0 : Int) < (k : Int)
              · rw [if_pos ⟨by omega, by omega⟩]
                have hG : arith .gtr .i64 ((k : Nat) : Int) 0 = some (.bool true) := by rw [ar_gtr, decide_eq_true c7]
                refine vwp_region ?_
                iterate 6 (refine vops_cons (n := 0) (by simp (maxSteps := 1000000) [hE0, hG, -ar_gtr, -ar_eql]; rfl) ?_)
                refine vops_nil ?_
                refine vwp_cond (t := true) (by simp [St.ev, St.slot_mk, sget_put]) ?_
                refine vwp_seq ?_
                refine vwp_region ?_
                iterate 2 (refine vops_cons (n := 0) (by simp (maxSteps := 1000000) []; rfl) ?_)
                refine vops_nil ?_
                exact vwp_ret ⟨_, .inl ⟨rfl, .inr ⟨rfl, by simp, by simp⟩, rfl⟩⟩
              · rw [if_neg (by omega)]
                have hG : arith .gtr .i64 ((k : Nat) : Int) 0 = some (.bool false) := by rw [ar_gtr, decide_eq_false c7]
                refine vwp_region ?_
                iterate 6 (refine vops_cons (n := 0) (by simp (maxSteps := 1000000) [hE0, hG, -ar_gtr, -ar_eql]; rfl) ?_)
                refine vops_nil ?_
                have hcl := hv'.cl
                refine vwp_cond (t := false) (by simp [St.ev, St.slot_mk, sget_put]) (vwp_skip ?_)
                refine vwp_seq ?_
                refine vwp_region ?_
                iterate 11 (refine vops_cons (n := 0) (by simp (maxSteps := 1000000) [s0, ty378, ty22, hb.2, optNat, natOf_succ, hcut, hcl, wrap_up (show k < 1000000000 by omega)]; rfl) ?_)
                refine vops_nil ?_
                refine vwp_seq ?_
                refine vwp_region ?_
                iterate 3 (refine vops_cons (n := 0) (by simp (maxSteps := 1000000) []; rfl) ?_)
                refine vops_nil ?_
                exact vwp_ret ⟨_, .inr ⟨_, _, v', rfl, rfl, by simp, by simp, hv', rfl⟩⟩

            · rw [if_neg (by omega)]
              have hE0 : arith .eql .u8 ((c.toNat : Nat) : Int) 0 = some (.bool false) := by rw [ar_eql, decide_eq_false c6]
              refine vwp_region ?_
              iterate 6 (refine vops_cons (n := 0) (by simp (maxSteps := 1000000) [hE0, -ar_eql]; rfl) ?_)
              refine vops_nil ?_
              have hcl := hv'.cl
              refine vwp_cond (t := false) (by simp [St.ev, St.slot_mk, sget_put]) (vwp_skip ?_)
              refine vwp_seq ?_
              refine vwp_region ?_
              iterate 11 (refine vops_cons (n := 0) (by simp (maxSteps := 1000000) [s0, ty378, ty22, hb.2, optNat, natOf_succ, hcut, hcl, wrap_up (show k < 1000000000 by omega)]; rfl) ?_)
              refine vops_nil ?_
              refine vwp_seq ?_
              refine vwp_region ?_
              iterate 3 (refine vops_cons (n := 0) (by simp (maxSteps := 1000000) []; rfl) ?_)
              refine vops_nil ?_
              exact vwp_ret ⟨_, .inr ⟨_, _, v', rfl, rfl, by simp, by simp, hv', rfl⟩⟩

          · rw [if_neg c5] at b2
            rw [if_neg c5]
            refine vwp_region ?_
            iterate 3 (refine vops_cons (n := 0) (by simp (maxSteps := 1000000) [b2]; rfl) ?_)
            refine vops_nil ?_
            refine vwp_cond (t := false) (by simp [St.ev, St.slot_mk, sget_put]) (vwp_skip ?_)
            refine vwp_region ?_
            iterate 2 (refine vops_cons (n := 0) (by simp (maxSteps := 1000000) [s12, wrap_up (show k < 1000000000 by omega)]; rfl) ?_)
            refine vops_nil ?_
            exact ih (k + 1) S _ (by omega) (by omega) hsum (by simp [s0]) (by simp [s2]) (by simp) (by simp [s10]) (by simp [s11]) (by simp)

end Go.Proofs.Tryz
