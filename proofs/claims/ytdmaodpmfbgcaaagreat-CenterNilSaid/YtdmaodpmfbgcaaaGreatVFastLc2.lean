/-
  The operations that only answer a value, of the machine made for the kernel: memory, parts, and all of them.
-/
import Derived.Test.YtdmaodpmfbgcaaaGreatVFastLc
namespace Go.V

theorem brec {α : Type} (c : Bool) (a b : α) : @Bool.rec (fun _ => α) b a c = bif c then a else b := by cases c <;> rfl
section
variable {E : Env} {s : Slots} {m : Mem} {v : AVal}

theorem ld1b_some {o : Option Block} {ext off : Nat} (h : ld1b o ext off = some v) : ∃ blk, o = some blk ∧ blk.cells.length = ext ∧ blk.cells[off]? = some v := by
  cases o with
  | none => cases h
  | some blk =>
    obtain ⟨ty, cells, fz⟩ := blk
    have h' : (@Bool.rec (fun _ => Option AVal) none (nthF cells off) (Nat.beq (lenF cells) ext)) = some v := h
    cases hb : Nat.beq (lenF cells) ext with
    | false => rw [hb] at h'; cases h'
    | true =>
      rw [hb] at h'
      rw [nbeq, decide_eq_true_eq, lenF_ok] at hb
      exact ⟨_, rfl, hb, by rw [← nthF_ok]; exact h'⟩

theorem ld1_ok {x : AVal} (h : ld1 x m = some v) : readCells m x 1 = some [v] := by
  unfold ld1 at h
  cases hp : asPtr x with
  | no => rw [hp] at h; cases h
  | ptr b ext off =>
    rw [hp] at h
    rw [asPtr_ptr hp]
    obtain ⟨blk, h1, h2, h3⟩ := ld1b_some h
    rw [mget_ok] at h1
    simp only [readCells, h1, nbeq, h2, decide_true, cond_true]
    exact lget_one h3
  | iptr cells =>
    rw [hp] at h
    rw [asPtr_iptr hp]
    simp only [readCells]
    exact lget_one (by rw [← nthF_ok]; exact h)

theorem ldN_ok {n : Nat} {x : AVal} (h : ldN n x m = some v) : ∃ cs, readCells m x n = some cs ∧ v = .agg cs := by
  unfold ldN at h
  cases hp : asPtr x with
  | no => rw [hp] at h; cases h
  | ptr b ext off =>
    rw [hp] at h
    rw [asPtr_ptr hp]
    have h' : ldNb (mget m b) n ext off = some v := h
    rw [mget_ok] at h'
    cases hg : m.get b with
    | none => rw [hg] at h'; cases h'
    | some blk =>
      obtain ⟨ty, cells, fz⟩ := blk
      rw [hg] at h'
      have h2 : (bif Nat.beq (lenF cells) ext then (bif Nat.ble (Nat.add off n) ext then some (AVal.agg (takeF n (dropF off cells))) else none) else none) = some v := h'
      rw [nbeq, nble, lenF_ok, cond_eq_ite, cond_eq_ite] at h2
      simp only [decide_eq_true_eq] at h2
      split at h2
      · rename_i hl
        split at h2
        · rename_i hle
          cases h2
          have hle : off + n ≤ cells.length := by rw [hl]; exact hle
          refine ⟨_, ?_, rfl⟩
          simp only [readCells, hg, nbeq, hl, decide_true, cond_true, takeF_ok, dropF_ok]
          exact lget_of_le hle
        · cases h2
      · cases h2
  | iptr cells =>
    rw [hp] at h
    rw [asPtr_iptr hp]
    have h2 : (bif Nat.ble n (lenF cells) then some (AVal.agg (takeF n cells)) else none) = some v := h
    rw [nble, lenF_ok, cond_eq_ite] at h2
    simp only [decide_eq_true_eq] at h2
    split at h2
    · rename_i hle
      cases h2
      refine ⟨_, ?_, rfl⟩
      simp only [readCells, takeF_ok]
      exact (lget_of_le (off := 0) (by omega)).trans (by simp)
    · cases h2

theorem loadC_ok {t : TypeId} {x : GC} (h : (loadC E t x).l s m = some v) : ∃ vt, E.ty.get t = some vt ∧ (readCells m (x.g s) vt.size).bind (mkVal vt) = some v := by
  unfold loadC at h
  split at h
  · rename_i vt hv
    refine ⟨vt, hv, ?_⟩
    rw [cond_eq_ite, cond_eq_ite, nbeq] at h
    split at h
    · rename_i ha
      obtain ⟨cs, h1, rfl⟩ := ldN_ok h
      rw [h1]; simp [mkVal, ha]
    · rename_i ha
      split at h
      · rename_i h1
        simp only [decide_eq_true_eq] at h1
        rw [h1, ld1_ok h]; simp [mkVal, ha]
      · cases h
  · cases h

theorem load_ok {t : TypeId} {x : Operand} (h : (loadC E t (opn x)).l s m = some v) : LV E m s (.load t x) v := by
  obtain ⟨vt, h1, h2⟩ := loadC_ok h
  show light E m (evF s) (.load t x) = _
  simp only [light, h1]
  have : (readCells m (evF s x) vt.size).bind (mkVal vt) = some v := h2
  rw [this]; rfl

theorem shiftF_ok {x : AVal} {n : Nat} (h : shiftF x n = some v) : shift x n = some v := by
  unfold shiftF at h
  cases hp : asPtr x with
  | no => rw [hp] at h; cases h
  | ptr b ext off => rw [hp] at h; rw [asPtr_ptr hp]; exact h
  | iptr cells =>
    rw [hp] at h; rw [asPtr_iptr hp]
    have h2 : some (AVal.iptr (dropF n cells)) = some v := h
    rw [dropF_ok] at h2; exact h2

theorem natF_ok {x : AVal} {i : Nat} (h : natF x = some i) : natOf x = some i := by
  unfold natF at h
  cases hi : asInt x with
  | no => rw [hi] at h; cases h
  | yes k n =>
    rw [hi] at h; rw [asInt_yes hi]
    cases n with
    | ofNat n => exact h
    | negSucc n => cases h

theorem shiftI_ok {x : AVal} {n size : Nat} {o : Option Nat} (h : shiftI x n size o = some v) : ∃ i, o = some i ∧ i < n ∧ shift x (i * size) = some v := by
  cases o with
  | none => cases h
  | some i =>
    have h2 : (@Bool.rec (fun _ => Option AVal) none (shiftF x (Nat.mul i size)) (Nat.blt i n)) = some v := h
    rw [brec, nblt, cond_eq_ite] at h2
    simp only [decide_eq_true_eq] at h2
    split at h2
    · rename_i hlt; exact ⟨i, rfl, hlt, shiftF_ok h2⟩
    · cases h2

theorem indexAddr_ok {t : TypeId} {x ix : Operand} (h : (indexAddrC E t (opn x) (opn ix)).l s m = some v) : LV E m s (.indexAddr t x ix) v := by
  show light E m (evF s) (.indexAddr t x ix) = _
  simp only [light]
  suffices hh : ∃ i, natOf (evF s ix) = some i ∧ elemAddr E t (evF s x) i = some v by
    obtain ⟨i, h1, h2⟩ := hh
    rw [h1]; simp [h2]
  have e1 : (opn x).g s = evF s x := rfl
  have e2 : (opn ix).g s = evF s ix := rfl
  unfold indexAddrC at h
  split at h
  · rename_i z e hv
    split at h
    · rename_i ve he
      simp only [e1, e2] at h
      unfold sliceI at h
      cases hn : natF (evF s ix) with
      | none => rw [hn] at h; cases h
      | some i =>
        rw [hn] at h
        refine ⟨i, natF_ok hn, ?_⟩
        simp only [elemAddr, hv, he]
        simp only at h
        cases hr : asRef (evF s x) with
        | no => rw [hr] at h; cases h
        | nil => rw [hr] at h; cases h
        | ref b ext off n lo ex sz =>
          rw [hr] at h; rw [asRef_ref hr]
          have h2 : (@Bool.rec (fun _ => Option AVal) none (some (AVal.ptr b ext (Nat.add off (Nat.mul i ve.size)))) (Nat.blt i n)) = some v := h
          rw [brec] at h2
          exact h2
        | imm cells n =>
          rw [hr] at h; rw [asRef_imm hr]
          have h2 : (bif Nat.blt i n && Nat.ble (Nat.mul (Nat.succ i) ve.size) (lenF cells) && Nat.blt 0 ve.size then some (AVal.iptr (dropF (Nat.mul i ve.size) cells)) else none) = some v := h
          rw [lenF_ok, dropF_ok] at h2
          exact h2
    · cases h
  · rename_i z n e hv
    split at h
    · rename_i ve he
      simp only [e1, e2] at h
      obtain ⟨i, h1, h2, h3⟩ := shiftI_ok h
      refine ⟨i, natF_ok h1, ?_⟩
      simp only [elemAddr, hv, he, nblt, h2, decide_true, cond_true]
      exact h3
    · cases h
  · cases h

theorem index_ok {t : TypeId} {x ix : Operand} (h : (indexC E t (opn x) (opn ix)).l s m = some v) : LV E m s (.index t x ix) v := by
  show light E m (evF s) (.index t x ix) = _
  simp only [light]
  suffices hh : (natOf (evF s ix)).bind (fun i => elemAt E t (evF s x) i) = some v by
    cases hn : natOf (evF s ix) with
    | none => rw [hn] at hh; cases hh
    | some i => rw [hn] at hh; simp only [Option.bind_some] at hh ⊢; rw [hh]; rfl
  have e1 : (opn x).g s = evF s x := rfl
  have e2 : (opn ix).g s = evF s ix := rfl
  unfold indexC at h
  split at h
  · rename_i nn e sz_ by_ z_ q_ hv
    split at h
    · rename_i ve he
      rw [cond_eq_ite] at h
      split at h
      · rename_i hc
        simp only [Bool.and_eq_true, Bool.not_eq_true', nbeq, decide_eq_true_eq] at hc
        simp only [e1, e2] at h
        unfold aggI at h
        cases hn : natF (evF s ix) with
        | none => rw [hn] at h; cases h
        | some i =>
          rw [hn] at h
          simp only at h
          rw [natF_ok hn, Option.bind_some]
          cases ha : asAgg (evF s x) with
          | none => rw [ha] at h; cases h
          | some cs =>
            rw [ha] at h; rw [asAgg_some ha]
            have h2 : (@Bool.rec (fun _ => Option AVal) none (nthF cs i) (Nat.blt i nn)) = some v := h
            rw [brec, nblt, cond_eq_ite, nthF_ok] at h2
            simp only [decide_eq_true_eq] at h2
            split at h2
            · rename_i hlt
              simp [elemAt, hv, he, nblt, hlt, hc.2, lget_one h2, mkVal, hc.1]
            · cases h2
      · exact h
    · cases h
  · exact h

theorem field_ok {t : TypeId} {x : Operand} {f : Nat} (h : (fieldC E t (opn x) f).l s m = some v) : LV E m s (.field t x f) v := by
  show light E m (evF s) (.field t x f) = _
  have e1 : (opn x).g s = evF s x := rfl
  unfold fieldC at h
  split at h
  · rename_i vt off hf
    rw [cond_eq_ite] at h
    split at h
    · rename_i hc
      simp only [Bool.and_eq_true, Bool.or_eq_true, nblt, nbeq, decide_eq_true_eq] at hc
      simp only [e1] at h
      unfold fieldF at h
      cases ha : asAgg (evF s x) with
      | none => rw [ha] at h; cases h
      | some cs =>
        rw [ha] at h
        have hx := asAgg_some ha
        simp only [light, hx, hf, nblt, hc.1, decide_true, cond_true]
        cases hg : vt.d.isAgg with
        | true =>
          have h2 : (@Bool.rec (fun _ => Option AVal) none (some (AVal.agg (takeF vt.size (dropF off cs)))) (Nat.ble (Nat.add off vt.size) (lenF cs))) = some v := by
            rw [hg] at h; exact h
          rw [brec, nble, lenF_ok, cond_eq_ite, takeF_ok, dropF_ok] at h2
          simp only [decide_eq_true_eq] at h2
          split at h2
          · rename_i hle
            cases h2
            rw [lget_of_le hle]; simp [mkVal, hg]
          · cases h2
        | false =>
          have h2 : nthF cs off = some v := by rw [hg] at h; exact h
          rw [nthF_ok] at h2
          have h1 : vt.size = 1 := by
            rcases hc.2 with hc2 | hc2
            · rw [hg] at hc2; cases hc2
            · exact hc2
          rw [h1, lget_one h2]; simp [mkVal, hg]
    · cases h
  · cases h

theorem len_ok {t : TypeId} {x : Operand} (h : (lenC E t (opn x)).l s m = some v) : (lenOf E t (evF s x)).map (fun (n : Nat) => AVal.int .i64 (n : Int)) = some v := by
  have e1 : (opn x).g s = evF s x := rfl
  unfold lenC at h
  split at h
  · rename_i z e hv
    simp only [e1] at h
    simp only [lenOf, hv]
    unfold slenF at h
    cases hr : asRef (evF s x) with
    | no => rw [hr] at h; cases h
    | nil => rw [hr] at h; obtain ⟨q, hq⟩ := asRef_nil hr; rw [hq]; exact h
    | ref b ext off n lo ex sz => rw [hr] at h; rw [asRef_ref hr]; exact h
    | imm cells n => rw [hr] at h; rw [asRef_imm hr]; exact h
  · exact h

theorem lightV_ok {op : Op} (h : lightV E m (evF s) op = some v) : LV E m s op v := by
  unfold lightV at h
  split at h
  · rename_i u hu; cases h; exact hu
  · cases h

theorem lc_ok (op : Op) (h : (lc E op).l s m = some v) : LV E m s op v := by
  cases op <;> try (first | exact lightV_ok h | (cases h; rfl))
  case pick c a b =>
    have h' : pickF (asBool (evF s c)) (evF s a) (evF s b) = some v := h
    show light E m (evF s) (.pick c a b) = _
    unfold pickF at h'
    cases hb : asBool (evF s c) with
    | none => rw [hb] at h'; cases h'
    | some t =>
      rw [hb] at h'
      simp only [light, asBool_some hb]
      cases t <;> (cases h'; rfl)
  case nilCheck x =>
    have h' : (@Bool.rec (fun _ => Option AVal) none (some (evF s x)) (notNil (evF s x))) = some v := h
    show light E m (evF s) (.nilCheck x) = _
    cases hb : notNil (evF s x) with
    | false => rw [hb] at h'; cases h'
    | true =>
      rw [hb] at h'
      cases h'
      rcases notNil_ok hb with ⟨b, e, o, hh⟩ | ⟨cs, hh⟩ | ⟨f, xs, ys, hh⟩ <;> simp only [light, hh]
  case binOp op xT x y yT =>
    have h' : (binC E op xT (opn x) (opn y)).l s m = some v := h
    show light E m (evF s) (.binOp op xT x y yT) = _
    simp only [light, binC_ok h']; rfl
  case unOp op xT x =>
    show light E m (evF s) (.unOp op xT x) = _
    cases op
    case not =>
      have h' : notF (asBool (evF s x)) = some v := h
      cases hb : asBool (evF s x) with
      | none => rw [hb] at h'; cases h'
      | some t =>
        rw [hb] at h'
        cases h'
        simp only [light, asBool_some hb, un, notB_ok, Option.map_some]
    case neg => exact congrArg (Option.map Light.val) (show un .neg (evF s x) = some v from h)
    case xor => exact congrArg (Option.map Light.val) (show un .xor (evF s x) = some v from h)
    case plus => exact congrArg (Option.map Light.val) (show un .plus (evF s x) = some v from h)
  case field t x f => exact field_ok h
  case fieldAddr t x f =>
    show light E m (evF s) (.fieldAddr t x f) = _
    simp only [lc] at h
    simp only [light]
    split at h
    · rename_i vt off hf
      rw [hf]
      simp only [cond_eq_ite] at h ⊢
      split at h
      · rename_i hc
        rw [if_pos hc]
        have : shift (evF s x) off = some v := shiftF_ok h
        rw [this]; rfl
      · cases h
    · cases h
  case indexAddr t x ix => exact indexAddr_ok h
  case index t x ix => exact index_ok h
  case extract x i =>
    have h' : extF (asTup (evF s x)) i = some v := h
    show light E m (evF s) (.extract x i) = _
    cases hb : asTup (evF s x) with
    | none => rw [hb] at h'; cases h'
    | some vs =>
      rw [hb] at h'
      have h2 : nthF vs i = some v := h'
      rw [nthF_ok] at h2
      simp only [light, asTup_some hb, h2]; rfl
  case load t x => exact load_ok h
  case build t parts =>
    have h' : buildVal E t (parts.toList.map fun (i, x) => (i, evF s x)) = some v := h
    show light E m (evF s) (.build t parts) = _
    simp only [light, h']; rfl
  case slice t x lo hi mx =>
    have h' : ((optNat (evF s) lo).bind fun l => (optNat (evF s) hi).bind fun h => (optNat (evF s) mx).bind fun k => sliceOp E t (evF s x) l h k) = some v := h
    show light E m (evF s) (.slice t x lo hi mx) = _
    simp only [light]
    cases h1 : optNat (evF s) lo with
    | none => rw [h1] at h'; cases h'
    | some l =>
      cases h2 : optNat (evF s) hi with
      | none => rw [h1, h2] at h'; cases h'
      | some hh =>
        cases h3 : optNat (evF s) mx with
        | none => rw [h1, h2, h3] at h'; cases h'
        | some k =>
          rw [h1, h2, h3] at h'
          simp only [Option.bind_some] at h' ⊢
          rw [h']; rfl
  case call c =>
    obtain ⟨callee, args, argTypes⟩ := c
    cases callee with
    | value f => exact lightV_ok h
    | invoke r n => exact lightV_ok h
    | builtin b =>
      cases b <;> try exact lightV_ok h
      case len =>
        simp only [lc] at h
        show light E m (evF s) _ = _
        simp only [light]
        split at h
        · rename_i x t h1 h2
          rw [h1, h2]
          have := len_ok h
          simp only
          cases hl : lenOf E t (evF s x) with
          | none => rw [hl] at this; cases this
          | some n => rw [hl] at this; cases this; rfl
        · cases h
end
end Go.V
