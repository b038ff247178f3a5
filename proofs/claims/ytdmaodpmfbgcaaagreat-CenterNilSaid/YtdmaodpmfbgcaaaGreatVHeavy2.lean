/-
  Append, copy, clear.
-/
import Derived.Test.YtdmaodpmfbgcaaaGreatVHeavy
namespace Go.V
section
variable {E : Env} {w : World} {Γ : Ctx} {m : Mem} {ρ : Operand → AVal} {σ : Operand → Value}

theorem cellsR_row {cells : List AVal} {us : List Value} (h : VRs Γ cells us) (h1 : ∀ u ∈ us, u.oneCell' = true) (rest : Array Value) : CellsR Γ cells (us.toArray ++ rest) := by
  have hl := h.length
  refine ⟨by simp; omega, fun i a ha => ?_⟩
  obtain ⟨v, hv, hr⟩ := h.get ha
  have hlt := (List.getElem?_eq_some_iff.1 hv).1
  exact ⟨v, by rw [Array.getElem?_append_left (by simpa using hlt)]; simpa using hv, hr, h1 v (List.mem_of_getElem? hv)⟩

theorem alloc_drew (w : World) (o : Obj) : w.drew.alloc o = { w.alloc o with drawn := w.drawn + 1 } := rfl

theorem size_zeroCells' (z : Array Value) (n : Nat) : (Builtin.zeroCells z n).size = n * z.size := by simp [Builtin.zeroCells]

theorem append_ok {P : Program} {t t2 ty e : TypeId} {ve : VT} {ei : TypeInfo} {ed : TypeDesc} {ez x : Value} {k : Nat} {news : List Value} {cs : List AVal} {s v : AVal} {sv : Value} {m' : Mem}
    (hm : MemR Γ m w) (ht : P.underlying t = some (.slice e)) (oke : TyOk P e ve ei ed ez) (hpos : 0 < ve.size) (hb : ve.bytes ≤ 65536) (hz : ve.zero.length = ve.size)
    (hx : AppX P w t2 ve.size ez x k news) (hr : VRs Γ cs news) (h1 : ∀ q ∈ news, q.oneCell' = true) (hl : news.length = k * ve.size) (hs : VR Γ s sv)
    (h : appendTo m e ve s k cs = some (v, m')) :
    ∃ Δ w' q, Γ.le Δ ∧ MemR Δ m' w' ∧ Step Γ w Δ w' ∧ (Builtin.append_ #[t, t2] ty #[sv, x]).run P w = .ok q w' ∧ VR Δ v q := by
  have hzl := (oke.zrel (Γ := Γ)).length
  simp only [Array.length_toList] at hzl
  have hez : ez.cells.size = ve.size := by omega
  have hcl := hr.length
  unfold appendTo at h
  split at h
  · -- nil
    rename_i sure
    simp only [nbeq, nble, nblt, cond_eq_ite, Bool.and_eq_true, decide_eq_true_eq] at h
    simp only [VR] at hs
    obtain ⟨a, rfl, ha⟩ := hs
    split at h
    · rename_i hk
      subst hk
      simp only [Option.some.injEq, Prod.mk.injEq] at h
      obtain ⟨rfl, rfl⟩ := h
      have hn0 : news = [] := List.eq_nil_of_length_eq_zero (by simpa using hl)
      subst hn0
      refine ⟨Γ, w, _, .refl Γ, hm, .refl Γ w, run_app_fits ht oke hpos hb hx (Nat.le_refl _) w (fun a _ => by simp [storeCells]) (fun _ => rfl), ?_⟩
      simp only [VR]
      exact ⟨a, rfl, ha⟩
    · rename_i hk
      split at h
      · rename_i hk20
        obtain ⟨hk2, hsm⟩ := hk20
        simp only [Option.some.injEq, Prod.mk.injEq] at h
        obtain ⟨rfl, rfl⟩ := h
        · have ho : (Builtin.firstCells ve.size 0 (.slice a 0 0)).run P w.drew = .ok ([] : List Value).toArray w.drew := by
            cases a <;> simp [Builtin.firstCells, loadCells, loadCellsFrom]
          have hrun := run_app_grow (ty := ty) ht oke hpos hb hx (Nat.le_refl 0) (by omega) (by omega) [] ho
          have hge := grownCap_ge w (0 + k) 0 e
          have hm2 := hm.still (w' := w.drew) rfl
          have hcells := cellsR_row hr h1 (Builtin.zeroCells ez.cells (grownCap w (0 + k) 0 e - (0 + k)))
          obtain ⟨l1, l2, l3⟩ := hm2.add hsm (blk := ⟨e, cs, 0⟩) hcells
          refine ⟨_, _, _, l1, l2, (Step.still (w := w) (w' := w.drew) rfl rfl rfl rfl).trans l3, by simpa using hrun, ?_⟩
          simp only [VR, Nat.zero_add]
          refine ⟨_, _, rfl, Nat.le_refl _, by simpa using hge, by simp, by simp [Ctx.set], fun i hi => ?_⟩
          simp only [Ctx.set, if_true, Option.some.injEq] at hi
          subst hi
          refine ⟨by show k * ve.size ≤ cs.length; omega, fun _ => ⟨rfl, ?_⟩⟩
          simp only [Nat.zero_add] at hge
          simp only [Array.size_append, List.size_toArray, size_zeroCells', hez, hl, ← Nat.add_mul]
          rw [show k + (grownCap w k 0 e - k) = grownCap w k 0 e by omega]
          exact Nat.le_refl _
      · cases h
  · -- a block
    rename_i b ext off n lo exact sz
    have hs0 := hs
    simp only [VR] at hs
    obtain ⟨a, c, rfl, hnl, hlc, hex, hbn, hk⟩ := hs
    simp only [nbeq, nble, nblt, cond_eq_ite, decide_eq_true_eq, Bool.or_eq_true, Bool.not_eq_true', decide_eq_false_iff_not] at h
    split at h
    · rename_i hk0
      subst hk0
      simp only [Option.some.injEq, Prod.mk.injEq] at h
      obtain ⟨rfl, rfl⟩ := h
      have hn0 : news = [] := List.eq_nil_of_length_eq_zero (by simpa using hl)
      subst hn0
      exact ⟨Γ, w, _, .refl Γ, hm, .refl Γ w, run_app_fits ht oke hpos hb hx (by omega) w (fun a _ => by simp [storeCells]) (fun _ => rfl), hs0⟩
    · rename_i hk0
      split at h
      · cases h
      · rename_i hcond
        have hsz : sz = ve.size := by
          apply Classical.byContradiction
          intro hne
          exact hcond (.inl hne)
        have hsm : n + k ≤ 1048576 := by
          apply Classical.byContradiction
          intro hne
          exact hcond (.inr hne)
        subst hsz
        split at h
        · -- room that is known
          rename_i hfit
          simp only [Option.map_eq_some_iff, Prod.mk.injEq] at h
          obtain ⟨m1, hw, rfl, rfl⟩ := h
          obtain ⟨cb, tot, Δ, w', e1, e2, e3, e4, e5⟩ := writeCells_ok hm hw hr h1
          obtain ⟨ha, htot⟩ := (hk _ e1).2 rfl
          subst ha
          have hrun := run_app_fits (ty := ty) (base := some ⟨cb, off, none⟩) (sLen := n) (sCap := c) ht oke hpos hb hx (by omega) w' (fun a ha => by
            cases ha
            rw [Addr_add]
            exact e2 P) (fun h0 => by cases h0)
          refine ⟨Δ, w', _, e3, e4, e5, hrun, VR.mono e3 _ _ ?_⟩
          simp only [VR]
          refine ⟨_, c, rfl, hfit, hlc, hex, hbn, hk⟩
        · rename_i hnofit
          split at h
          · rename_i B hB
            split at h
            · cases h
            · rename_i he
              have he : B.cells.length = ext := by simpa using he
              obtain ⟨_, cb, css, g1, g2, g3, g4⟩ := hm.cellsR hB
              obtain ⟨ha, htot⟩ := (hk _ g1).2 he.symm
              subst ha
              split at h
              · -- its capacity is known: a new block
                rename_i hexact
                split at h
                · cases h
                · rename_i hsmall0
                  have hsmall : m.next < 65536 := by omega
                  simp only [Option.map_eq_some_iff, Prod.mk.injEq] at h
                  obtain ⟨old, hold, rfl, rfl⟩ := h
                  have hce := hex hexact
                  have hsc : sliceCells m (.ref b ext off n lo exact ve.size) n ve.size = some old := by
                    simp [sliceCells, nble, cond_eq_ite, hB, he, hold]
                  obtain ⟨us, u1, u2, u3, u4, _⟩ := sliceCells_ok (P := P) hm.view hsc hs0
                  have hrun := run_app_grow (ty := ty) ht oke hpos hb hx (by omega) (by omega) hsm us (u4 w.drew rfl)
                  have hge := grownCap_ge w (n + k) c e
                  have hm2 := hm.still (w' := w.drew) rfl
                  have hcells := cellsR_row (u1.append hr) (fun u hu => (List.mem_append.1 hu).elim (u3 u) (h1 u)) (Builtin.zeroCells ez.cells (grownCap w (n + k) c e - (n + k)))
                  obtain ⟨l1, l2, l3⟩ := hm2.add hsmall (blk := ⟨e, old ++ cs, 0⟩) hcells
                  refine ⟨_, _, _, l1, l2, (Step.still (w := w) (w' := w.drew) rfl rfl rfl rfl).trans l3, by simpa using hrun, ?_⟩
                  simp only [VR]
                  refine ⟨_, _, rfl, Nat.le_refl _, hge, by simp, by simp [Ctx.set], fun i hi => ?_⟩
                  simp only [Ctx.set, if_true, Option.some.injEq] at hi
                  subst hi
                  have u1l := u1.length
                  refine ⟨by show (n + k) * ve.size ≤ (old ++ cs).length; rw [List.length_append, Nat.add_mul]; omega, fun _ => ⟨rfl, ?_⟩⟩
                  simp only [Array.size_append, List.size_toArray, List.length_append, size_zeroCells', hez, hl, u2, Nat.zero_add, ← Nat.add_mul]
                  rw [show n + k + (grownCap w (n + k) c e - (n + k)) = grownCap w (n + k) c e by omega]
                  exact Nat.le_refl _
              · split at h
                · -- it grows
                  rename_i hne hc4
                  simp only [Bool.and_eq_true, decide_eq_true_eq] at hc4
                  obtain ⟨⟨⟨hoff, hfull⟩, hty⟩, hfz⟩ := hc4
                  simp only [Option.some.injEq, Prod.mk.injEq] at h
                  obtain ⟨rfl, rfl⟩ := h
                  subst hoff
                  have hkpos : 0 < k * ve.size := Nat.mul_pos (Nat.pos_of_ne_zero hk0) hpos
                  have hgrow : B.cells.length < (B.cells ++ cs).length := by rw [List.length_append]; omega
                  have hlenN : (n + k) * ve.size = (B.cells ++ cs).length := by rw [List.length_append, Nat.add_mul]; omega
                  by_cases hroom : n + k ≤ c
                  · -- in place
                    have hle : B.cells.length + news.length ≤ css.size := by
                      have : (n + k) * ve.size ≤ c * ve.size := Nat.mul_le_mul_right _ hroom
                      rw [Nat.add_mul] at this
                      have htot' : 0 + c * ve.size ≤ css.size := htot
                      omega
                    have hst := run_storeCells_at P cb B.cells.length B.ty news 0 css w g2 (by omega) h1
                    simp only [Nat.add_zero] at hst
                    have hrun := run_app_fits (ty := ty) (base := some ⟨cb, 0, none⟩) (sLen := n) (sCap := c) ht oke hpos hb hx hroom (w.setRow cb (rowPut css B.cells.length news)) (fun a ha => by
                      cases ha
                      rw [Addr_add, Nat.zero_add, hfull, ← he]
                      exact hst) (fun h0 => by cases h0)
                    obtain ⟨l1, l2, l3⟩ := hm.change (w' := w.setRow cb (rowPut css B.cells.length news)) (B' := { B with cells := B.cells ++ cs }) (cs' := rowPut css B.cells.length news) (cb' := cb) hB g1 (setRow_heap w cb css _ _ _ g2)
                      (fun k hk _ => setRow_other w cb k _ hk) (by simp) (.inl rfl) (.inl hgrow) (rowPut_grow g3 hr h1 hle) (fun i v hv => by
                        have hv' := hm.ro cb i v hv
                        rw [cell_of_heap g2] at hv'
                        rw [cell_setRow_same w cb i css _ _ _ g2, rowPut_get _ _ _ hle, if_neg, hv']
                        intro hi
                        rw [g4 i (by omega)] at hv
                        cases hv) g4 rfl rfl rfl
                    refine ⟨_, _, _, l1, l2, l3, hrun, ?_⟩
                    simp only [VR]
                    refine ⟨_, _, rfl, Nat.le_refl _, hroom, by simp, by simp [Ctx.set], fun i hi => ?_⟩
                    simp only [Ctx.set, if_true, Option.some.injEq] at hi
                    subst hi
                    refine ⟨by show (n + k) * ve.size ≤ (B.cells ++ cs).length; omega, fun _ => ⟨rfl, ?_⟩⟩
                    rw [rowPut_size _ _ _ hle]
                    exact htot
                  · -- elsewhere
                    have hsc : sliceCells m (.ref b ext 0 n lo exact ve.size) n ve.size = some B.cells := by
                      simp [sliceCells, nble, cond_eq_ite, hB, he, lget, hfull]
                      rw [List.take_of_length_le (by omega)]
                    obtain ⟨us, u1, u2, u3, u4, _⟩ := sliceCells_ok (P := P) hm.view hsc hs0
                    have hrun := run_app_grow (ty := ty) ht oke hpos hb hx (by omega) (by omega) hsm us (u4 w.drew rfl)
                    have hge := grownCap_ge w (n + k) c e
                    have hcells := cellsR_row (u1.append hr) (fun u hu => (List.mem_append.1 hu).elim (u3 u) (h1 u)) (Builtin.zeroCells ez.cells (grownCap w (n + k) c e - (n + k)))
                    have hold : ∀ j, j < w.heap.size → (w.drew.alloc (.cells ((us ++ news).toArray ++ Builtin.zeroCells ez.cells (grownCap w (n + k) c e - (n + k))) e)).heap[j]? = w.heap[j]? := fun j hj => Go.RowKit.Below.heap_alloc w.drew _ j hj
                    obtain ⟨l1, l2, l3⟩ := hm.change (w' := w.drew.alloc (.cells ((us ++ news).toArray ++ Builtin.zeroCells ez.cells (grownCap w (n + k) c e - (n + k))) e)) (B' := { B with cells := B.cells ++ cs })
                      (cs' := (us ++ news).toArray ++ Builtin.zeroCells ez.cells (grownCap w (n + k) c e - (n + k))) (cb' := w.heap.size) hB g1 (by rw [hty]; exact heap_alloc_new w.drew _)
                      (fun j _ hj => hold j hj) (by simp) (.inr (Nat.le_refl _)) (.inl hgrow) hcells (fun i v hv => by
                        have hv' := hm.ro cb i v hv
                        simpa [World.cell?, hold cb (hm.ro_lt hv)] using hv') (fun i _ => by
                        cases hv : Γ.ro w.heap.size i with
                        | none => rfl
                        | some v => have := hm.ro_lt hv; omega) rfl rfl rfl
                    refine ⟨_, _, _, l1, l2, l3, by simpa using hrun, ?_⟩
                    simp only [VR]
                    refine ⟨_, _, rfl, Nat.le_refl _, hge, by simp, by simp [Ctx.set], fun i hi => ?_⟩
                    simp only [Ctx.set, if_true, Option.some.injEq] at hi
                    subst hi
                    refine ⟨by show (n + k) * ve.size ≤ (B.cells ++ cs).length; omega, fun _ => ⟨rfl, ?_⟩⟩
                    simp only [Array.size_append, List.size_toArray, List.length_append, size_zeroCells', hez, hl, u2, Nat.zero_add, ← Nat.add_mul]
                    rw [show n + k + (grownCap w (n + k) c e - (n + k)) = grownCap w (n + k) c e by omega]
                    exact Nat.le_refl _
                · cases h
          · cases h
  · cases h
end
end Go.V
