/-
  Operations that write.
-/
import Derived.Test.YtdmaodpmfbgcaaaGreatVMem
namespace Go.V
section
variable {E : Env} {w : World} {Γ : Ctx} {m : Mem} {ρ : Operand → AVal} {σ : Operand → Value}

theorem writeCells_ok (h : MemR Γ m w) {b ext off : Nat} {cs : List AVal} {us : List Value} {m' : Mem} (hw : writeCells m b ext off cs = some m') (hr : VRs Γ cs us) (h1 : ∀ u ∈ us, u.oneCell' = true) :
    ∃ cb tot Δ w', Γ.blk b = some ⟨ext, cb, tot⟩ ∧ (∀ P : Program, (storeCells ⟨cb, off, none⟩ us).run P w = .ok () w') ∧ Γ.le Δ ∧ MemR Δ m' w' ∧ Step Γ w Δ w' := by
  unfold writeCells at hw
  split at hw
  · rename_i B hb
    simp only [nbeq, nble, cond_eq_ite, Bool.and_eq_true, decide_eq_true_eq] at hw
    split at hw
    · rename_i hc
      obtain ⟨⟨he, hfz⟩, hle⟩ := hc
      simp only [Option.some.injEq] at hw
      subst hw; subst he
      obtain ⟨_, cb, css, e1, e2, hcr, hro⟩ := h.cellsR hb
      obtain ⟨Δ, k1, k2, k3⟩ := h.write hb e1 e2 hr h1 hfz hle
      refine ⟨cb, _, Δ, _, e1, fun P => ?_, k1, k2, k3⟩
      have hlen := hr.length
      have hc1 := hcr.1
      have := run_storeCells_at P cb off B.ty us 0 css w e2 (by omega) h1
      simpa [rowPut] using this
    · cases hw
  · cases hw

def AppX (P : Program) (w : World) (t2 : TypeId) (size : Nat) (z x : Value) (n : Nat) (news : List Value) : Prop :=
  (∃ kk k, P.underlying t2 = some (.int kk) ∧ x = .int k n ∧ n ≤ 1048576 ∧ news = (Builtin.zeroCells z.cells n).toList) ∨
  (∃ e2 a c, P.underlying t2 = some (.slice e2) ∧ x = .slice a n c ∧ (Builtin.firstCells size n x).run P w = .ok news.toArray w ∧ (Builtin.firstCells size n x).run P w.drew = .ok news.toArray w.drew) ∨
  (∃ s, P.underlying t2 = some .string ∧ x = .string s ∧ n = s.size ∧ news = s.data.toList.map fun b => Value.int .u8 b.toNat)

theorem wrap_small (n : Nat) (h : n ≤ 1048576) : IntKind.i64.wrap (n : Int) = n := by
  simp only [IntKind.wrap, IntKind.signed, IntKind.bits]
  have : (n : Int) % 2 ^ 64 = n := by omega
  simp; omega

theorem extract_all (s : ByteArray) : (s.extract 0 s.size).data = s.data := by
  simp [ByteArray.extract_zero_size]

theorem bytes_small {b n : Nat} (hb : b ≤ 65536) (h : n ≤ 1048576) : ¬ (281474976710656 < (n : Int) * (b : Int)) := by
  have : n * b ≤ 1048576 * 65536 := Nat.mul_le_mul h hb
  have h2 : ((n * b : Nat) : Int) ≤ 1048576 * 65536 := by omega
  rw [Int.natCast_mul] at h2
  omega

section
variable {P : Program} {t t2 ty e : TypeId} {ve : VT} {ei : TypeInfo} {ed : TypeDesc} {ez x : Value} {n sLen sCap : Nat} {news : List Value} {base : Option Addr}

theorem run_app_fits (ht : P.underlying t = some (.slice e)) (oke : TyOk P e ve ei ed ez) (hpos : 0 < ve.size) (hb : ve.bytes ≤ 65536) (hx : AppX P w t2 ve.size ez x n news) (hfit : sLen + n ≤ sCap) (w' : World)
    (hs : ∀ a, base = some a → (storeCells (a.add (sLen * ve.size)) news).run P w = .ok () w') (h0 : base = none → w' = w) :
    (Builtin.append_ #[t, t2] ty #[.slice base sLen sCap, x]).run P w = .ok (.slice base (sLen + n) sCap) w' := by
  have hbi : ei.bytes ≤ 65536 := by rw [← oke.bytes]; exact hb
  rcases hx with ⟨kk, k, hu, rfl, hn, rfl⟩ | ⟨e2, a, c, hu, rfl, hf, _⟩ | ⟨s, hu, rfl, rfl, rfl⟩
  · have h48 := bytes_small hbi hn
    have hng : ¬ ((n : Int) < 0) := by omega
    have hsz := oke.run_size (w := w)
    have hz := oke.run_zero (w := w)
    by_cases hn0 : n = 0
    · subst hn0
      have w0 : IntKind.i64.wrap 0 = 0 := by decide
      cases base with
      | none => have := h0 rfl; subst this; simp at hfit; simp [Builtin.append_, run_underlying ht, run_underlying hu, hsz, asInt, asIntOf, w0, oke.run_info, hfit]
      | some ad =>
        have := hs ad rfl
        simp [Builtin.zeroCells, storeCells] at this
        simp at hfit
        subst this
        simp [Builtin.append_, run_underlying ht, run_underlying hu, hsz, asInt, asIntOf, w0, oke.run_info, hfit, storeCells]
    · have hm : ¬ (n * ve.size = 0) := by have := Nat.mul_pos (Nat.pos_of_ne_zero hn0) hpos; omega
      have hm' : ¬ (n = 0 ∨ ve.size = 0) := by omega
      cases base with
      | none => have := h0 rfl; subst this; simp [Builtin.append_, run_underlying ht, run_underlying hu, hsz, asInt, asIntOf, wrap_small n hn, hng, oke.run_info, h48, hfit, hz]
      | some ad => simp [Builtin.append_, run_underlying ht, run_underlying hu, hsz, asInt, asIntOf, wrap_small n hn, hng, oke.run_info, h48, hfit, hm, hz, hs ad rfl]
  · have hsz := oke.run_size (w := w)
    cases base with
    | none => have := h0 rfl; subst this; simp [Builtin.append_, run_underlying ht, run_underlying hu, hsz, Builtin.lenOf, hfit, hf]
    | some ad => simp [Builtin.append_, run_underlying ht, run_underlying hu, hsz, Builtin.lenOf, hfit, hf, hs ad rfl]
  · have hsz := oke.run_size (w := w)
    have hd : (Array.map (fun b : UInt8 => Value.int .u8 (b.toNat : Int)) s.data).extract 0 s.size = Array.map (fun b : UInt8 => Value.int .u8 (b.toNat : Int)) s.data := by
      have : s.size = (Array.map (fun b : UInt8 => Value.int .u8 (b.toNat : Int)) s.data).size := by simp
      rw [this, Array.extract_size]
    cases base with
    | none => have := h0 rfl; subst this; simp [Builtin.append_, run_underlying ht, run_underlying hu, hsz, Builtin.lenOf, hfit, Builtin.firstCells]
    | some ad =>
      have := hs ad rfl
      simp [Builtin.append_, run_underlying ht, run_underlying hu, hsz, Builtin.lenOf, hfit, Builtin.firstCells, hd, this]

theorem run_app_grow (ht : P.underlying t = some (.slice e)) (oke : TyOk P e ve ei ed ez) (hpos : 0 < ve.size) (hb : ve.bytes ≤ 65536) (hx : AppX P w t2 ve.size ez x n news) (hlc : sLen ≤ sCap) (hg : sCap < sLen + n) (hsm : sLen + n ≤ 1048576)
    (olds : List Value) (ho : (Builtin.firstCells ve.size sLen (.slice base sLen sCap)).run P w.drew = .ok olds.toArray w.drew) :
    (Builtin.append_ #[t, t2] ty #[.slice base sLen sCap, x]).run P w =
      .ok (.slice (some ⟨w.heap.size, 0, none⟩) (sLen + n) (grownCap w (sLen + n) sCap e))
        (w.drew.alloc (.cells (olds.toArray ++ news.toArray ++ Builtin.zeroCells ez.cells (grownCap w (sLen + n) sCap e - (sLen + n))) e)) := by
  have hbi : ei.bytes ≤ 65536 := by rw [← oke.bytes]; exact hb
  have hn : ¬ (sLen + n ≤ sCap) := by omega
  have h63 : ¬ (9223372036854775807 < ((sLen : Int) + (n : Int))) := by omega
  have hfit : ¬ (281474976710656 < Builtin.nextslicecap (sLen + n) sCap * ei.bytes) := by
    have := growslice_fits (need := sLen + n) (old := sCap) (bytes := ei.bytes) hg (by
      have : (sLen + n) * ei.bytes ≤ 1048576 * 65536 := Nat.mul_le_mul hsm hbi
      omega)
    omega
  have hsz := oke.run_size (w := w)
  have hsz' := oke.run_size (w := w.drew)
  have hz := oke.run_zero (w := w.drew)
  rcases hx with ⟨kk, k, hu, rfl, hnn, rfl⟩ | ⟨e2, a, c, hu, rfl, _, hf⟩ | ⟨s, hu, rfl, rfl, rfl⟩
  · have h48 := bytes_small hbi hnn
    have hn0 : n ≠ 0 := by omega
    have hng : ¬ ((n : Int) < 0) := by omega
    have hm' : ¬ (n = 0 ∨ ve.size = 0) := by omega
    have hm : ¬ (n * ve.size = 0) := by have := Nat.mul_pos (Nat.pos_of_ne_zero hn0) hpos; omega
    simp [Builtin.append_, run_underlying ht, run_underlying hu, hsz, asInt, asIntOf, wrap_small n hnn, hng, oke.run_info, h48, hn, h63, hfit, Question.forced, ho, hm, hz, newRow, grownCap]
  · simp [Builtin.append_, run_underlying ht, run_underlying hu, hsz, Builtin.lenOf, hn, h63, hfit, oke.run_info, Question.forced, ho, hf, hz, newRow, grownCap]
    congr 2
    apply Array.ext'
    simp [List.append_assoc]
  · have hd : (Array.map (fun b : UInt8 => Value.int .u8 (b.toNat : Int)) s.data).extract 0 s.size = Array.map (fun b : UInt8 => Value.int .u8 (b.toNat : Int)) s.data := by
      have : s.size = (Array.map (fun b : UInt8 => Value.int .u8 (b.toNat : Int)) s.data).size := by simp
      rw [this, Array.extract_size]
    have hfs : (Builtin.firstCells ve.size s.size (.string s)).run P w.drew = .ok (Array.map (fun b : UInt8 => Value.int .u8 (b.toNat : Int)) s.data) w.drew := by simp [Builtin.firstCells]
    simp [Builtin.append_, run_underlying ht, run_underlying hu, hsz, Builtin.lenOf, hn, h63, hfit, oke.run_info, Question.forced, ho, hfs, hz, newRow, grownCap]
    congr 2
    apply Array.ext'
    simp [List.append_assoc]
end

/-- What an operation that writes is asked for. -/
def Wrote (P : Program) (o : Oper) (σ : Operand → Value) (Γ : Ctx) (w : World) (v : AVal) (m' : Mem) : Prop :=
  ∃ Δ w', Γ.le Δ ∧ MemR Δ m' w' ∧ Step Γ w Δ w' ∧
    ((v = .tup [] ∧ (execOp σ o).run P w = .ok .skip w') ∨ ∃ q, (execOp σ o).run P w = .ok (.value q) w' ∧ VR Δ v q)

theorem heavy_store (hT : TysOk E) (hm : MemR Γ m w) (hρ : ∀ x, VR Γ (ρ x) (σ x)) {call : CallFn} (o : Oper) {t : TypeId} {a x : Operand} (ho : o.op = .store t a x) {v : AVal} {m' : Mem} (h : heavy E call m ρ o.op = some (v, m')) :
    Wrote E.P o σ Γ w v m' := by
  rw [ho] at h
  simp only [heavy] at h
  split at h
  · rename_i vt b ext off cs hg ha hc
    obtain ⟨i, d, z, ok⟩ := hT _ _ hg
    simp only [nbeq, cond_eq_ite, decide_eq_true_eq] at h
    split at h
    · rename_i hl
      simp only [Option.map_eq_some_iff, Prod.mk.injEq] at h
      obtain ⟨m1, hw, rfl, rfl⟩ := h
      obtain ⟨k1, k2⟩ := cells_ok hc (hρ x)
      obtain ⟨cb, tot, Δ, w', e1, e2, e3, e4, e5⟩ := writeCells_ok hm hw k1 k2
      have hv := hρ a
      rw [ha] at hv
      simp only [VR] at hv
      obtain ⟨ad, hσ, _, hk⟩ := hv
      have := (hk _ e1).2 rfl
      subst this
      refine ⟨Δ, w', e3, e4, e5, .inl ⟨rfl, ?_⟩⟩
      have hlen := k1.length
      have hsz : (σ x).cells.size = vt.size := by simp at hlen; omega
      simp [execOp, ho, Instr.storeAt, hσ, Instr.sureAddr, storeVar, ok.run_size, hsz, e2 E.P]
    · cases h
  · cases h

theorem appended_ok (hT : TysOk E) (hm : MemR Γ m w) {ve : VT} {e : TypeId} {ei : TypeInfo} {ed : TypeDesc} {ez : Value} (oke : TyOk E.P e ve ei ed ez) (hz : ve.zero.length = ve.size) {t2 : TypeId} {x : AVal} {u : Value} {k : Nat} {cs : List AVal}
    (h : appended E m ve (some t2) x = some (k, cs)) (hv : VR Γ x u) : ∃ news, AppX E.P w t2 ve.size ez u k news ∧ VRs Γ cs news ∧ (∀ q ∈ news, q.oneCell' = true) ∧ news.length = k * ve.size := by
  have hzl := (oke.zrel (Γ := Γ)).length
  simp only [Array.length_toList] at hzl
  simp only [appended] at h
  split at h
  · rename_i kk _ _ _ _ hg
    obtain ⟨ti, d, z, ok⟩ := hT _ _ hg
    have hd := vdOf_int ok.d.symm
    subst hd
    cases hn : natOf x with
    | none => simp [hn] at h
    | some n =>
      simp only [hn, Option.bind_some, nble, cond_eq_ite, decide_eq_true_eq] at h
      split at h
      · rename_i hle
        simp only [Option.some.injEq, Prod.mk.injEq] at h
        obtain ⟨rfl, rfl⟩ := h
        obtain ⟨k', rfl⟩ := natOf_ok hn hv
        refine ⟨(Builtin.zeroCells ez.cells n).toList, .inl ⟨kk, k', ok.und, rfl, hle, rfl⟩, zeros_rel oke.zrel n _ rfl, ?_, ?_⟩
        · rcases Nat.eq_zero_or_pos ez.cells.size with h0 | h0
          · intro q hq; simp [Builtin.zeroCells, h0] at hq
          · exact zeros_cell oke.cell _ (.inr h0)
        · simp [Builtin.zeroCells]; rw [show ez.cells.size = ve.size by omega]
      · cases h
  · rename_i e2 _ _ _ _ hg
    obtain ⟨ti, d, z, ok⟩ := hT _ _ hg
    have hd := vdOf_slice ok.d.symm
    subst hd
    cases hl : sliceLen x with
    | none => simp [hl] at h
    | some n =>
      simp only [hl, Option.bind_some, Option.map_eq_some_iff, Prod.mk.injEq] at h
      obtain ⟨cs', hc, rfl, rfl⟩ := h
      obtain ⟨a, c, rfl, _⟩ := sliceLen_ok hl hv
      obtain ⟨us, k1, k2, k3, k4, _⟩ := sliceCells_ok (P := E.P) hm.view hc hv
      exact ⟨us, .inr (.inl ⟨e2, a, c, ok.und, rfl, k4 w rfl, k4 w.drew rfl⟩), k1, k3, k2⟩
  · rename_i _ _ _ _ hg
    obtain ⟨ti, d, z, ok⟩ := hT _ _ hg
    have hd := vdOf_str ok.d.symm
    subst hd
    split at h
    · rename_i s
      simp only [nbeq, cond_eq_ite, decide_eq_true_eq] at h
      split at h
      · rename_i h1
        simp only [Option.some.injEq, Prod.mk.injEq] at h
        obtain ⟨rfl, rfl⟩ := h
        simp only [VR] at hv
        subst hv
        refine ⟨_, .inr (.inr ⟨s, ok.und, rfl, rfl, rfl⟩), ?_, ?_, ?_⟩
        · refine VRs.of_get (by simp) (fun i a ha => ?_)
          simp only [List.getElem?_map, Option.map_eq_some_iff] at ha ⊢
          obtain ⟨b, hb, rfl⟩ := ha
          exact ⟨_, ⟨b, hb, rfl⟩, by simp [VR]⟩
        · intro q hq
          simp only [List.mem_map] at hq
          obtain ⟨b, _, rfl⟩ := hq
          rfl
        · simp [h1]
      · cases h
    · cases h
  · cases h
end
end Go.V
