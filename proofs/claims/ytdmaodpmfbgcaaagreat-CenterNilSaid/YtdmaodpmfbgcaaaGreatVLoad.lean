/-
  Reading: what the abstract machine reads out of its memory is what the model reads out of its own.
-/
import Derived.Test.YtdmaodpmfbgcaaaGreatVEq
namespace Go.V

structure TyOk (P : Program) (t : TypeId) (vt : VT) (i : TypeInfo) (d : TypeDesc) (z : Value) : Prop where
  flds : ∀ gs : Array Field, d = .struct gs → ∀ g ∈ gs.toList, ∃ j, P.info? g.type = some j
  info : P.info? t = some i
  und : P.underlying t = some d
  zero : i.zero = some z
  d : vt.d = vdOf d
  size : vt.size = i.size
  bytes : vt.bytes = i.bytes
  zeros : vt.zero = z.cells.toList.map ofConst1
  eq : vt.eq = eqOf P t
  cell : ∀ u ∈ z.cells.toList, u.oneCell' = true

def TysOk (E : Env) : Prop := ∀ t vt, E.ty.get t = some vt → ∃ i d z, TyOk E.P t vt i d z

theorem vdOf_slice {d : TypeDesc} {e : TypeId} (h : vdOf d = .slice e) : d = .slice e := by cases d <;> simp [vdOf] at h; simp [h]
theorem vdOf_array {d : TypeDesc} {n : Nat} {e : TypeId} (h : vdOf d = .array n e) : d = .array n e := by cases d <;> simp [vdOf] at h; simp [h]
theorem vdOf_pointer {d : TypeDesc} {e : TypeId} (h : vdOf d = .pointer e) : d = .pointer e := by cases d <;> simp [vdOf] at h; simp [h]
theorem vdOf_str {d : TypeDesc} (h : vdOf d = .str) : d = .string := by cases d <;> simp [vdOf] at h; rfl
theorem vdOf_bool {d : TypeDesc} (h : vdOf d = .bool) : d = .bool := by cases d <;> simp [vdOf] at h; rfl
theorem vdOf_int {d : TypeDesc} {k : IntKind} (h : vdOf d = .int k) : d = .int k := by cases d <;> simp [vdOf] at h; simp [h]
theorem vdOf_func {d : TypeDesc} (h : vdOf d = .func) : ∃ p r v, d = .func p r v := by cases d <;> simp [vdOf] at h; exact ⟨_, _, _, rfl⟩
theorem vdOf_struct {d : TypeDesc} {fs : List (TypeId × Nat)} (h : vdOf d = .struct fs) : ∃ gs : Array Field, d = .struct gs ∧ fs = gs.toList.map fun f => (f.type, f.offset) := by
  cases d <;> simp [vdOf] at h; exact ⟨_, rfl, h.symm⟩
theorem vdOf_agg (d : TypeDesc) : (vdOf d).isAgg = descAgg d := by cases d <;> rfl

section
variable {P : Program} {w : World} {Γ : Ctx} {t : TypeId} {vt : VT} {i : TypeInfo} {d : TypeDesc} {z : Value}

theorem TyOk.run_und (h : TyOk P t vt i d z) : (underlying t).run P w = .ok d w := run_underlying h.und w
theorem TyOk.run_info (h : TyOk P t vt i d z) : (typeInfo t).run P w = .ok i w := by simp [typeInfo, h.info]
theorem TyOk.run_size (h : TyOk P t vt i d z) : (sizeOf t).run P w = .ok vt.size w := by simp [sizeOf, typeInfo, h.info, h.size]
theorem TyOk.run_zero (h : TyOk P t vt i d z) : (zeroValue t).run P w = .ok z w := by simp [zeroValue, typeInfo, h.info, h.zero]
theorem TyOk.run_agg (h : TyOk P t vt i d z) : (isAgg t).run P w = .ok (descAgg d) w := by
  unfold isAgg
  rw [Sem.run_bind, h.run_und]
  cases d <;> simp [descAgg]
theorem TyOk.cellsOf (h : TyOk P t vt i d z) : P.cellsOf t = vt.size := by simp [Program.cellsOf, h.info, h.size]
theorem TyOk.zrel (h : TyOk P t vt i d z) : VRs Γ vt.zero z.cells.toList := by rw [h.zeros]; exact VRs_ofConst1 Γ _

theorem asVal_agg (h : P.underlying t = some d) (hb : descAgg d = true) (us : List Value) : asVal P t us = .agg us.toArray := by
  unfold asVal; rw [h]; cases d <;> simp [descAgg] at hb <;> rfl
theorem asVal_one (h : P.underlying t = some d) (hb : descAgg d = false) (us : List Value) : asVal P t us = us.headD undef := by
  unfold asVal; rw [h]; cases d <;> simp [descAgg] at hb <;> rfl

theorem mkVal_ok (h : TyOk P t vt i d z) {cells : List AVal} {v : AVal} {us : List Value} (hm : mkVal vt cells = some v) (hr : VRs Γ cells us) (h1 : ∀ u ∈ us, u.oneCell' = true) :
    VR Γ v (asVal P t us) := by
  unfold mkVal at hm
  rw [h.d, vdOf_agg] at hm
  cases hb : descAgg d with
  | true =>
    simp only [hb, cond_true, Option.some.injEq] at hm
    subst hm
    rw [asVal_agg h.und hb]
    simp only [VR]
    exact ⟨_, rfl, by simpa using hr, by simpa using h1⟩
  | false =>
    simp only [hb, cond_false] at hm
    cases cells with
    | nil => simp at hm
    | cons c cs =>
      cases cs with
      | cons _ _ => simp at hm
      | nil =>
        simp only [Option.some.injEq] at hm
        subst hm
        rw [asVal_one h.und hb]
        simp only [VRs] at hr
        obtain ⟨u, us', rfl, hu, rfl⟩ := hr
        simpa using hu

theorem mkVal_len (h : TyOk P t vt i d z) {cells : List AVal} {v : AVal} (hm : mkVal vt cells = some v) (hb : descAgg d = false) : ∃ c, cells = [c] := by
  unfold mkVal at hm
  rw [h.d, vdOf_agg, hb] at hm
  cases cells with
  | nil => simp at hm
  | cons c cs =>
    cases cs with
    | cons _ _ => simp at hm
    | nil => exact ⟨c, rfl⟩

theorem run_loadVar_cells (h : TyOk P t vt i d z) (a : Addr) (us : List Value) (hl : us.length = vt.size) (h1 : descAgg d = false → us.length = 1)
    (hc : ∀ j u, us[j]? = some u → w.cell? (a.add j) = some u) : (loadVar t a).run P w = .ok (asVal P t us) w := by
  unfold loadVar
  rw [Sem.run_bind, h.run_agg]
  simp only [Result.andThen_ok]
  cases hb : descAgg d with
  | true =>
    have hc' := run_loadCells_list (P := P) w a us hc
    rw [hl] at hc'
    rw [asVal_agg h.und hb]
    simp [h.run_size, hc']
  | false =>
    have h2 := h1 hb
    cases us with
    | nil => simp at h2
    | cons u us =>
      have := hc 0 u rfl
      simp only [Addr.add, if_true] at this
      rw [asVal_one h.und hb]
      simp [this]
end

theorem lget_eq {cs r : List AVal} {off n : Nat} (h : lget cs off n = some r) : r = (cs.drop off).take n ∧ r.length = n := by
  unfold lget at h
  simp only [nbeq, cond_eq_ite, decide_eq_true_eq] at h
  split at h
  · rename_i hl; simp only [Option.some.injEq] at h; subst h; exact ⟨rfl, hl⟩
  · cases h

theorem Addr_add (b o : Nat) (j : Nat) : (⟨b, o, none⟩ : Addr).add j = ⟨b, o + j, none⟩ := by
  unfold Addr.add; split <;> simp_all

theorem roRel_cells {Γ : Ctx} : ∀ {cells : List AVal} {b o : Nat}, roRel Γ cells b o → ∃ us, VRs Γ cells us ∧ (∀ u ∈ us, u.oneCell' = true) ∧ ∀ j u, us[j]? = some u → Γ.ro b (o + j) = some u
  | [], _, _, _ => ⟨[], by simp [VRs], by simp, by simp⟩
  | c :: cs, b, o, h => by
    simp only [roRel] at h
    obtain ⟨⟨v, h1, h2, h3⟩, h4⟩ := h
    obtain ⟨us, k1, k2, k3⟩ := roRel_cells h4
    refine ⟨v :: us, by simp only [VRs]; exact ⟨v, us, rfl, h2, k1⟩, by simpa [h3] using k2, fun j u hu => ?_⟩
    cases j with
    | zero => simp at hu; subst hu; simpa using h1
    | succ j => have := k3 j u (by simpa using hu); rwa [show o + (j + 1) = o + 1 + j by omega]

theorem roRel_drop {Γ : Ctx} : ∀ {cells : List AVal} {b o : Nat} (n : Nat), roRel Γ cells b o → roRel Γ (cells.drop n) b (o + n)
  | cells, b, o, 0, h => by simpa using h
  | [], b, o, n + 1, _ => by simp [roRel]
  | c :: cs, b, o, n + 1, h => by
    simp only [roRel] at h
    have := roRel_drop n h.2
    simpa [show o + (n + 1) = o + 1 + n by omega] using this

theorem roRel_take {Γ : Ctx} : ∀ {cells : List AVal} {b o : Nat} (n : Nat), roRel Γ cells b o → roRel Γ (cells.take n) b o
  | cells, b, o, 0, _ => by simp [roRel]
  | [], b, o, n + 1, _ => by simp [roRel]
  | c :: cs, b, o, n + 1, h => by
    simp only [roRel] at h
    simp only [List.take_succ_cons, roRel]
    exact ⟨h.1, roRel_take n h.2⟩

section
variable {P : Program} {w : World} {Γ : Ctx} {m : Mem}

theorem MemV.block (h : MemV Γ m w) {b : Nat} {B : Block} (hd : Γ.dom b) (hb : m.get b = some B) :
    ∃ cb cs, Γ.blk b = some ⟨B.cells.length, cb, cs.size⟩ ∧ w.heap[cb]? = some (.cells cs B.ty (0, 0)) ∧ B.cells.length ≤ cs.size ∧
      VRs Γ B.cells (cs.toList.take B.cells.length) ∧ (∀ u ∈ cs.toList.take B.cells.length, u.oneCell' = true) := by
  obtain ⟨cb, cs, h2, h3, h4, h5⟩ := h.blk b B hd hb
  refine ⟨cb, cs, h2, h3, h4, VRs.of_get (by simp; omega) (fun i a ha => ?_), fun u hu => ?_⟩
  · obtain ⟨v, k1, k2, _⟩ := h5 i a ha
    have hi := (List.getElem?_eq_some_iff.1 ha).1
    exact ⟨v, by rw [List.getElem?_take_of_lt hi]; simpa using k1, k2⟩
  · obtain ⟨i, hi, rfl⟩ := List.getElem_of_mem hu
    have hi' : i < B.cells.length := by simp at hi; omega
    obtain ⟨v, k1, _, k3⟩ := h5 i _ (List.getElem?_eq_getElem hi')
    have e : (cs.toList.take B.cells.length)[i]? = some v := by rw [List.getElem?_take_of_lt hi']; simpa using k1
    have : (cs.toList.take B.cells.length)[i] = v := Option.some.inj ((List.getElem?_eq_getElem hi).symm.trans e)
    rw [this]; exact k3

theorem cell_of_heap {cb : Nat} {cs : Array Value} {ty : TypeId} (h : w.heap[cb]? = some (.cells cs ty (0, 0))) (j : Nat) : w.cell? ⟨cb, j, none⟩ = cs[j]? := by
  simp [World.cell?, h]

theorem take_drop_get {α : Type} (l : List α) (k off n j : Nat) (u : α) (h : (((l.take k).drop off).take n)[j]? = some u) : l[off + j]? = some u := by
  rw [List.getElem?_take] at h
  split at h
  · rw [List.getElem?_drop, List.getElem?_take] at h
    split at h
    · exact h
    · cases h
  · cases h

/-- A pointer's variable. -/
theorem readCells_ok (h : MemV Γ m w) {x : AVal} {v : Value} {n : Nat} {cs : List AVal} (hr : readCells m x n = some cs) (hv : VR Γ x v) :
    ∃ a us, v = .pointer (some a) ∧ a.spot = none ∧ VRs Γ cs us ∧ us.length = n ∧ (∀ u ∈ us, u.oneCell' = true) ∧ ∀ j u, us[j]? = some u → w.cell? (a.add j) = some u := by
  unfold readCells at hr
  split at hr
  · rename_i b ext off
    cases hg : m.get b with
    | none => simp [hg] at hr
    | some B =>
      simp only [hg, nbeq, cond_eq_ite, decide_eq_true_eq] at hr
      split at hr
      · rename_i he
        obtain ⟨rfl, hl⟩ := lget_eq hr
        simp only [VR] at hv
        obtain ⟨a, rfl, hdm, hk⟩ := hv
        obtain ⟨cb, cs', h2, h3, h4, h5, h6⟩ := h.block hdm hg
        obtain ⟨_, ha⟩ := hk _ h2
        have ha := ha he.symm
        subst ha
        have hlen := ((h5.drop off).take n).length
        refine ⟨_, _, rfl, rfl, (h5.drop off).take n, by omega, fun u hu => h6 u (List.mem_of_mem_drop (List.mem_of_mem_take hu)), fun j u hu => ?_⟩
        rw [Addr_add, cell_of_heap h3]
        have := take_drop_get _ _ _ _ _ _ hu
        simpa using this
      · cases hr
  · rename_i cells
    obtain ⟨rfl, hl⟩ := lget_eq hr
    simp only [VR] at hv
    obtain ⟨a, rfl, hs, hro⟩ := hv
    obtain ⟨us, k1, k2, k3⟩ := roRel_cells hro
    have hlen := (k1.take n).length
    refine ⟨a, us.take n, rfl, hs, by simpa using k1.take n, by simpa [hl] using hlen.symm.trans (by simpa using hl), fun u hu => k2 u (List.mem_of_mem_take hu), fun j u hu => ?_⟩
    rw [List.getElem?_take] at hu
    split at hu
    · have := h.ro _ _ _ (k3 j u hu)
      obtain ⟨ab, ao, as⟩ := a
      simp only at hs
      subst hs
      rw [Addr_add]
      exact this
    · cases hu
  · cases hr

theorem cell_heap {w w2 : World} (h : w2.heap = w.heap) (a : Addr) : w2.cell? a = w.cell? a := by simp [World.cell?, h]

/-- A slice's first elements. -/
theorem sliceCells_ok (h : MemV Γ m w) {x : AVal} {v : Value} {n size : Nat} {cs : List AVal} (hr : sliceCells m x n size = some cs) (hv : VR Γ x v) :
    ∃ us, VRs Γ cs us ∧ us.length = n * size ∧ (∀ u ∈ us, u.oneCell' = true) ∧ (∀ w2 : World, w2.heap = w.heap → (Builtin.firstCells size n v).run P w2 = .ok us.toArray w2) ∧
      (∀ a k c, v = .slice a k c → (loadCells (a.getD ⟨0, 0, none⟩) (n * size)).run P w = .ok us.toArray w) := by
  unfold sliceCells at hr
  split at hr
  · simp only [nbeq, cond_eq_ite, decide_eq_true_eq] at hr
    split at hr
    · rename_i hn
      subst hn
      simp only [Option.some.injEq] at hr
      subst hr
      simp only [VR] at hv
      obtain ⟨a, rfl, _⟩ := hv
      refine ⟨[], by simp [VRs], by simp, by simp, fun w2 _ => ?_, fun a k c _ => by simp [loadCells, loadCellsFrom]⟩
      cases a <;> simp [Builtin.firstCells, loadCells, loadCellsFrom]
    · cases hr
  · rename_i b ext off k lo ex sz
    simp only [nbeq, nble, cond_eq_ite, decide_eq_true_eq] at hr
    split at hr
    · cases hg : m.get b with
      | none => simp [hg] at hr
      | some B =>
        simp only [hg] at hr
        split at hr
        · rename_i he
          obtain ⟨rfl, hl⟩ := lget_eq hr
          simp only [VR] at hv
          obtain ⟨a, c, rfl, _, _, _, hdm, hk⟩ := hv
          obtain ⟨cb, cs', h2, h3, h4, h5, h6⟩ := h.block hdm hg
          obtain ⟨_, ha⟩ := hk _ h2
          obtain ⟨ha, _⟩ := ha he.symm
          subst ha
          have hlen := ((h5.drop off).take (n * size)).length
          have hc : ∀ j u, (((cs'.toList.take B.cells.length).drop off).take (n * size))[j]? = some u → w.cell? ((⟨cb, off, none⟩ : Addr).add j) = some u := fun j u hu => by
            rw [Addr_add, cell_of_heap h3]
            have := take_drop_get _ _ _ _ _ _ hu
            simpa using this
          have hlc : ∀ w2 : World, w2.heap = w.heap → (loadCells ⟨cb, off, none⟩ (n * size)).run P w2 = .ok _ w2 := fun w2 h2 => by
            have := run_loadCells_list (P := P) w2 ⟨cb, off, none⟩ _ (fun j u hu => by rw [cell_heap h2]; exact hc j u hu)
            rwa [show (((cs'.toList.take B.cells.length).drop off).take (n * size)).length = n * size by omega] at this
          exact ⟨_, (h5.drop off).take (n * size), by omega, fun u hu => h6 u (List.mem_of_mem_drop (List.mem_of_mem_take hu)), fun w2 h2 => by simpa [Builtin.firstCells] using hlc w2 h2, fun a k c e => by cases e; simpa using hlc w rfl⟩
        · cases hr
    · cases hr
  · rename_i cells k
    simp only [nble, cond_eq_ite, decide_eq_true_eq] at hr
    split at hr
    · obtain ⟨rfl, hl⟩ := lget_eq hr
      simp only [VR] at hv
      obtain ⟨a, c, rfl, _, hne⟩ := hv
      simp only [List.drop_zero] at hl ⊢
      by_cases hc0 : cells = []
      · subst hc0
        simp at hl
        refine ⟨[], by simp [VRs], by simp [← hl], by simp, fun w2 _ => ?_, fun a k c _ => by simp [← hl, loadCells, loadCellsFrom]⟩
        cases a <;> simp [Builtin.firstCells, ← hl, loadCells, loadCellsFrom]
      · obtain ⟨ad, rfl, hs, hro⟩ := hne hc0
        obtain ⟨us, k1, k2, k3⟩ := roRel_cells hro
        have hlen := (k1.take (n * size)).length
        have hc : ∀ j u, (us.take (n * size))[j]? = some u → w.cell? (ad.add j) = some u := fun j u hu => by
          rw [List.getElem?_take] at hu
          split at hu
          · have := h.ro _ _ _ (k3 j u hu)
            obtain ⟨ab, ao, as⟩ := ad
            simp only at hs
            subst hs
            rw [Addr_add]
            exact this
          · cases hu
        have hlc : ∀ w2 : World, w2.heap = w.heap → (loadCells ad (n * size)).run P w2 = .ok _ w2 := fun w2 h2 => by
          have := run_loadCells_list (P := P) w2 ad _ (fun j u hu => by rw [cell_heap h2]; exact hc j u hu)
          rwa [show (us.take (n * size)).length = n * size by omega] at this
        exact ⟨_, k1.take (n * size), by omega, fun u hu => k2 u (List.mem_of_mem_take hu), fun w2 h2 => by simpa [Builtin.firstCells] using hlc w2 h2, fun a k c e => by cases e; simpa using hlc w rfl⟩
    · cases hr
  · cases hr

theorem sliceLen_ok {x : AVal} {v : Value} {n : Nat} (hl : sliceLen x = some n) (hv : VR Γ x v) : ∃ a c, v = .slice a n c ∧ n ≤ c := by
  unfold sliceLen at hl
  split at hl <;> simp only [Option.some.injEq, reduceCtorEq] at hl
  · subst hl; simp only [VR] at hv; obtain ⟨a, rfl, _⟩ := hv; exact ⟨a, 0, rfl, Nat.le_refl _⟩
  · subst hl; simp only [VR] at hv; obtain ⟨a, c, rfl, h1, h2, _⟩ := hv; exact ⟨_, c, rfl, Nat.le_trans h1 h2⟩
  · subst hl; simp only [VR] at hv; obtain ⟨a, c, rfl, h1, _⟩ := hv; exact ⟨a, c, rfl, h1⟩

theorem cells_ok {x : AVal} {v : Value} {cs : List AVal} (hc : x.cells? = some cs) (hv : VR Γ x v) : VRs Γ cs v.cells.toList ∧ ∀ u ∈ v.cells.toList, u.oneCell' = true := by
  cases x <;> simp only [AVal.cells?, Option.some.injEq, reduceCtorEq] at hc
  case agg cells =>
    subst hc
    simp only [VR] at hv
    obtain ⟨us, rfl, h1, h2⟩ := hv
    exact ⟨by simpa [Value.cells] using h1, by simpa [Value.cells] using h2⟩
  all_goals
    subst hc
    have hv' := hv
    simp only [VR] at hv
  case bool => subst hv; exact ⟨by simp only [Value.cells, VRs]; exact ⟨_, _, rfl, hv', rfl⟩, by simp [Value.cells, Value.oneCell']⟩
  case int => subst hv; exact ⟨by simp only [Value.cells, VRs]; exact ⟨_, _, rfl, hv', rfl⟩, by simp [Value.cells, Value.oneCell']⟩
  case str => subst hv; exact ⟨by simp only [Value.cells, VRs]; exact ⟨_, _, rfl, hv', rfl⟩, by simp [Value.cells, Value.oneCell']⟩
  case nilp => subst hv; exact ⟨by simp only [Value.cells, VRs]; exact ⟨_, _, rfl, hv', rfl⟩, by simp [Value.cells, Value.oneCell']⟩
  case nilf => subst hv; exact ⟨by simp only [Value.cells, VRs]; exact ⟨_, _, rfl, hv', rfl⟩, by simp [Value.cells, Value.oneCell']⟩
  case ptr => obtain ⟨a, rfl, _⟩ := hv; exact ⟨by simp only [Value.cells, VRs]; exact ⟨_, _, rfl, hv', rfl⟩, by simp [Value.cells, Value.oneCell']⟩
  case iptr => obtain ⟨a, rfl, _⟩ := hv; exact ⟨by simp only [Value.cells, VRs]; exact ⟨_, _, rfl, hv', rfl⟩, by simp [Value.cells, Value.oneCell']⟩
  case nil => obtain ⟨a, rfl, _⟩ := hv; exact ⟨by simp only [Value.cells, VRs]; exact ⟨_, _, rfl, hv', rfl⟩, by simp [Value.cells, Value.oneCell']⟩
  case ref => obtain ⟨a, c, rfl, _⟩ := hv; exact ⟨by simp only [Value.cells, VRs]; exact ⟨_, _, rfl, hv', rfl⟩, by simp [Value.cells, Value.oneCell']⟩
  case imm => obtain ⟨a, c, rfl, _⟩ := hv; exact ⟨by simp only [Value.cells, VRs]; exact ⟨_, _, rfl, hv', rfl⟩, by simp [Value.cells, Value.oneCell']⟩
  case fn => obtain ⟨us, vs, rfl, _⟩ := hv; exact ⟨by simp only [Value.cells, VRs]; exact ⟨_, _, rfl, hv', rfl⟩, by simp [Value.cells, Value.oneCell']⟩
  case opq =>
    obtain ⟨e, h1⟩ := hv
    clear e
    cases v <;> simp [Value.oneCell'] at h1 <;> exact ⟨by simp only [Value.cells, VRs]; exact ⟨_, _, rfl, hv', rfl⟩, by simp [Value.cells, Value.oneCell']⟩

theorem natOf_ok {x : AVal} {v : Value} {n : Nat} (h : natOf x = some n) (hv : VR Γ x v) : ∃ k, v = .int k n := by
  unfold natOf at h
  split at h
  · rename_i k q
    split at h
    · simp only [Option.some.injEq] at h; subst h; simp only [VR] at hv; exact ⟨k, hv⟩
    · cases h
  · cases h
end
end Go.V
