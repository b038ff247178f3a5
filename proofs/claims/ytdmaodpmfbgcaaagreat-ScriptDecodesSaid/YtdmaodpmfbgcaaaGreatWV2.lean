import Derived.Test.YtdmaodpmfbgcaaaGreatWV1
import Derived.Laws.CopyRow
import Derived.Conc.LoneSelect
import Derived.Conc.SmallLaws
import Derived.Conc.LoneSelectN

section
/-
  All operations that call nothing and write nothing that was there.
-/
namespace Go.V
section
variable {E : Env} {w : World} {Γ : Ctx} {m : Mem} {ρ : Operand → AVal} {σ : Operand → Value}

theorem bytesOf_ok {P : Program} (f : Value → ByteArray → Sem (ForInStep ByteArray)) (hf : ∀ n s, f (.int .u8 n) s = pure (ForInStep.yield (s.push (UInt8.ofNat n.toNat)))) :
    ∀ (cs : List AVal) (us : List Value) (acc r : ByteArray), bytesOf cs acc = some r → VRs Γ cs us → (forIn (m := Sem) us acc f).run P w = .ok r w
  | [], us, acc, r, h, hv => by
    simp only [bytesOf, Option.some.injEq] at h
    simp only [VRs] at hv
    subst h; subst hv
    simp
  | c :: cs, l, acc, r, h, hv => by
    simp only [VRs] at hv
    obtain ⟨v, vs, rfl, h1, h2⟩ := hv
    cases c with
    | int k n =>
      cases k <;> simp only [bytesOf, reduceCtorEq] at h
      simp only [VR] at h1
      subst h1
      have := bytesOf_ok (P := P) f hf cs vs _ r h h2
      simp only [List.forIn_cons, hf, Sem.run_bind, Sem.run_pure, Result.andThen_ok]
      exact this
    | _ => simp [bytesOf] at h

theorem light_convert (hT : TysOk E) {o : Oper} {s d : TypeId} {x : Operand} {v : AVal} (hm : MemV Γ m w) (ho : o.op = .convert s d x) (hρ : ∀ x, VR Γ (ρ x) (σ x)) (h : light E m ρ o.op = some (.val v)) :
    ∃ q, (execOp σ o).run E.P w = .ok (.value q) w ∧ VR Γ v q := by
  rw [ho] at h
  simp only [light] at h
  split at h
  · rename_i vs vd hs hd
    obtain ⟨si, sd, sz, oks⟩ := hT _ _ hs
    obtain ⟨di, dd, dz, okd⟩ := hT _ _ hd
    have hv := hρ x
    split at h
    · rename_i k k' n hdk hx
      have e := vdOf_int (okd.d.symm.trans hdk)
      subst e
      simp only [Option.some.injEq, Light.val.injEq] at h
      subst h
      rw [hx] at hv
      simp only [VR] at hv
      refine ⟨.int k (k.wrap n), ?_, by simp [VR]⟩
      simp [execOp, ho, convert, oks.run_und, okd.run_und, hv, Conv.intToInt]
    · rename_i b hdk hx
      have e := vdOf_str (okd.d.symm.trans hdk)
      subst e
      simp only [Option.some.injEq, Light.val.injEq] at h
      subst h
      rw [hx] at hv
      simp only [VR] at hv
      refine ⟨.string b, ?_, by simp [VR]⟩
      simp [execOp, ho, convert, oks.run_und, okd.run_und, hv]
    · rename_i hdk hnx
      have e := vdOf_str (okd.d.symm.trans hdk)
      subst e
      split at h
      · rename_i e hse
        have e2 := vdOf_slice (oks.d.symm.trans hse)
        subst e2
        split at h
        · rename_i _ _ _ hve
          obtain ⟨ei, ed, ez, oke⟩ := hT _ _ hve
          have e3 := vdOf_int oke.d.symm
          subst e3
          cases hl : sliceLen (ρ x) with
          | none => simp [hl] at h
          | some n =>
            simp only [hl, Option.bind_some] at h
            cases hc : sliceCells m (ρ x) n 1 with
            | none => simp [hc] at h
            | some cs =>
              simp only [hc, Option.bind_some, Option.map_eq_some_iff, Light.val.injEq] at h
              obtain ⟨b, hb, rfl⟩ := h
              obtain ⟨a, c, hsl, _⟩ := sliceLen_ok hl hv
              obtain ⟨us, k1, k2, k3, _, k4⟩ := sliceCells_ok (P := E.P) hm hc hv
              have k5 := k4 a n c hsl
              refine ⟨.string b, ?_, by simp [VR]⟩
              cases a with
              | none =>
                have hb0 : b = ByteArray.empty := by
                  have h0 : n = 0 := by
                    rw [hsl] at hv
                    cases hx : ρ x <;> simp [hx, sliceLen] at hl
                    · exact hl.symm
                    · rw [hx] at hv; simp [VR] at hv
                    · rename_i cells k
                      rw [hx] at hv
                      simp only [VR] at hv
                      obtain ⟨a', c', e4, _, hne⟩ := hv
                      cases e4
                      have : cells = [] := by
                        apply Classical.byContradiction
                        intro hne'
                        obtain ⟨ad, h1, _⟩ := hne hne'
                        cases h1
                      subst this
                      simp [hx, sliceCells, lget, cond_eq_ite, nble, nbeq] at hc
                      omega
                  subst h0
                  simp at k2
                  subst k2
                  cases cs with
                  | nil => simp [bytesOf] at hb; exact hb.symm
                  | cons _ _ => simp [VRs] at k1
                simp [execOp, ho, convert, oks.run_und, okd.run_und, oke.run_und, hsl, Conv.bytesToString, hb0] <;> rfl
              | some ad =>
                simp only [Option.getD_some, Nat.mul_one] at k5
                simp only [execOp, ho, convert, Sem.run_bind, oks.run_und, okd.run_und, oke.run_und, hsl, Result.andThen_ok, Conv.bytesToString, k5, List.forIn_toArray]
                rw [bytesOf_ok _ ?hf cs us _ b hb k1]
                case hf => intro n s; rfl
                rfl
        · cases h
      · cases h
    · cases h
  · cases h

/-- Each operation that yields a value yields the related one. -/
theorem light_val (hT : TysOk E) (hm : MemV Γ m w) (hρ : ∀ x, VR Γ (ρ x) (σ x)) (o : Oper) {v : AVal} (h : light E m ρ o.op = some (.val v)) :
    ∃ q, (execOp σ o).run E.P w = .ok (.value q) w ∧ VR Γ v q := by
  have h0 := h
  cases ho : o.op <;> rw [ho] at h <;> simp only [light, reduceCtorEq] at h
  case move x =>
    simp only [Option.some.injEq, Light.val.injEq] at h
    subst h
    exact ⟨σ x, by simp [execOp, ho], hρ x⟩
  case assign x =>
    simp only [Option.some.injEq, Light.val.injEq] at h
    subst h
    exact ⟨σ x, by simp [execOp, ho], hρ x⟩
  case pick c a b =>
    split at h
    · rename_i t hc
      simp only [Option.some.injEq, Light.val.injEq] at h
      subst h
      have hv := hρ c
      rw [hc] at hv
      simp only [VR] at hv
      cases t
      · exact ⟨σ b, by simp [execOp, ho, hv, asBool], hρ b⟩
      · exact ⟨σ a, by simp [execOp, ho, hv, asBool], hρ a⟩
    · cases h
  case alloc t => split at h <;> simp at h
  case box t x => split at h <;> simp at h
  case build t ps =>
    simp only [Option.map_eq_some_iff, Light.val.injEq] at h
    obtain ⟨r, hb, rfl⟩ := h
    obtain ⟨u, hu, hr⟩ := buildVal_ok (w := w) hT hρ hb
    exact ⟨u, by simp [execOp, ho, hu], hr⟩
  case buildSlice t n ps =>
    repeat' split at h
    all_goals first
      | (cases h; done)
      | (simp only [cond_eq_ite] at h; split at h <;> simp at h)
  case load t x =>
    split at h
    · rename_i vt hg
      obtain ⟨i, d, z, ok⟩ := hT _ _ hg
      cases hr : readCells m (ρ x) vt.size with
      | none => simp [hr] at h
      | some cs =>
        simp only [hr, Option.bind_some, Option.map_eq_some_iff, Light.val.injEq] at h
        obtain ⟨v', hmk, rfl⟩ := h
        obtain ⟨a, us, ha, _, k1, k2, k3, k4⟩ := readCells_ok hm hr (hρ x)
        have := run_loadVar_cells (w := w) ok a us k2 (fun hb => by obtain ⟨c, hc⟩ := mkVal_len ok hmk hb; have := k1.length; simp [hc] at this; exact this.symm) k4
        exact ⟨_, by simp [execOp, ho, Instr.loadAt, ha, Instr.sureAddr, this], mkVal_ok ok hmk k1 k3⟩
    · cases h
  case nilCheck x =>
    have hv := hρ x
    split at h <;> simp only [Option.some.injEq, Light.val.injEq, reduceCtorEq] at h
    · rename_i hx
      subst h
      rw [hx] at hv
      have hv' := hv
      simp only [VR] at hv
      obtain ⟨a, ha, _⟩ := hv
      exact ⟨σ x, by simp [execOp, ho, ha], hv'⟩
    · rename_i hx
      subst h
      rw [hx] at hv
      have hv' := hv
      simp only [VR] at hv
      obtain ⟨a, ha, _⟩ := hv
      exact ⟨σ x, by simp [execOp, ho, ha], hv'⟩
    · rename_i hx
      subst h
      rw [hx] at hv
      have hv' := hv
      simp only [VR] at hv
      obtain ⟨us, vs, ha, _⟩ := hv
      exact ⟨σ x, by simp [execOp, ho, ha], hv'⟩
  case binOp op xT x y yT =>
    simp only [Option.map_eq_some_iff, Light.val.injEq] at h
    obtain ⟨r, hb, rfl⟩ := h
    obtain ⟨q, hq, hr⟩ := bin_ok (w := w) hT hb (hρ x) (hρ y) x y
    refine ⟨q, ?_, hr⟩
    simp only [execOp, ho, Sem.run_bind] at hq ⊢
    rw [hq]
    rfl
  case unOp op xT x =>
    simp only [Option.map_eq_some_iff, Light.val.injEq] at h
    obtain ⟨r, hb, rfl⟩ := h
    obtain ⟨q, hq, hr⟩ := un_ok (E := E) (w := w) hb (hρ x)
    exact ⟨q, by simp [execOp, ho, hq], hr⟩
  case convert s d x => exact light_convert hT hm ho hρ h0
  case makeFunc f first captured =>
    cases f <;> simp only [Option.some.injEq, Light.val.injEq, reduceCtorEq] at h
    subst h
    refine ⟨_, by simp [execOp, ho, Instr.makeFunc] <;> rfl, ?_⟩
    simp only [VR]
    exact ⟨_, _, rfl, by simpa using VRs_map first.toList hρ, by simpa using VRs_map captured.toList hρ⟩
  case makeSlice t l c =>
    repeat' split at h
    all_goals first
      | (cases h; done)
      | (cases hl : natOf (ρ l) with
         | none => simp [hl] at h
         | some n =>
           cases hc : natOf (ρ c) with
           | none => simp [hl, hc] at h
           | some k => simp only [hl, hc, Option.bind_some, cond_eq_ite] at h; split at h <;> simp at h)
  case slice t x lo hi mx =>
    cases h1 : optNat ρ lo with
    | none => simp [h1] at h
    | some l =>
      cases h2 : optNat ρ hi with
      | none => simp [h1, h2] at h
      | some k =>
        cases h3 : optNat ρ mx with
        | none => simp [h1, h2, h3] at h
        | some j =>
          simp only [h1, h2, h3, Option.bind_some, Option.map_eq_some_iff, Light.val.injEq] at h
          obtain ⟨r, hs, rfl⟩ := h
          obtain ⟨u, hu, hr⟩ := sliceOp_ok (w := w) hT hs (hρ x) (optNat_ok hρ h1) (optNat_ok hρ h2) (optNat_ok hρ h3)
          exact ⟨u, by simp [execOp, ho, hu], hr⟩
  case fieldAddr t x f => exact light_fieldAddr hT ho hρ h0
  case field t x f => exact light_field hT ho hρ h0
  case indexAddr t x ix =>
    cases hi : natOf (ρ ix) with
    | none => simp [hi] at h
    | some i =>
      simp only [hi, Option.bind_some, Option.map_eq_some_iff, Light.val.injEq] at h
      obtain ⟨r, hs, rfl⟩ := h
      obtain ⟨k, hk⟩ := natOf_ok hi (hρ ix)
      obtain ⟨u, hu, hr⟩ := elemAddr_ok (w := w) hT hs (hρ x) hk
      exact ⟨u, by simp [execOp, ho, hu], hr⟩
  case index t x ix =>
    cases hi : natOf (ρ ix) with
    | none => simp [hi] at h
    | some i =>
      simp only [hi, Option.bind_some, Option.map_eq_some_iff, Light.val.injEq] at h
      obtain ⟨r, hs, rfl⟩ := h
      obtain ⟨k, hk⟩ := natOf_ok hi (hρ ix)
      obtain ⟨u, hu, hr⟩ := elemAt_ok (w := w) hT hs (hρ x) hk
      exact ⟨u, by simp [execOp, ho, hu], hr⟩
  case extract x i =>
    split at h
    · rename_i vs hx
      have hv := hρ x
      rw [hx] at hv
      simp only [VR] at hv
      obtain ⟨us, hus, hr⟩ := hv
      simp only [Option.map_eq_some_iff, Light.val.injEq] at h
      obtain ⟨r, hg, rfl⟩ := h
      obtain ⟨u, hu, hru⟩ := hr.get hg
      have hu' : us[i]? = some u := by simpa using hu
      exact ⟨u, by simp [execOp, ho, hus, Instr.extract, hu'], hru⟩
    · cases h
  case call c =>
    obtain ⟨callee, args, argTypes⟩ := c
    cases callee with
    | value f => simp at h
    | invoke r n => simp at h
    | builtin b =>
      cases b <;> simp only [reduceCtorEq] at h
      case len =>
        split at h
        · rename_i x t hx ht
          simp only [Option.map_eq_some_iff, Light.val.injEq] at h
          obtain ⟨n, hn, rfl⟩ := h
          have ha : args = #[x] := Array.ext' hx
          have hb : argTypes = #[t] := Array.ext' ht
          subst ha; subst hb
          have := lenOf_ok (w := w) (ty := o.type) hT hn (hρ x)
          exact ⟨_, by simp [execOp, ho, resolve, invoke, builtin, this] <;> rfl, by simp [VR]⟩
        · cases h
      case cap =>
        split at h
        · rename_i x t hx ht
          simp only [Option.map_eq_some_iff, Light.val.injEq] at h
          obtain ⟨n, hn, rfl⟩ := h
          have ha : args = #[x] := Array.ext' hx
          have hb : argTypes = #[t] := Array.ext' ht
          subst ha; subst hb
          have := capOf_ok (w := w) (ty := o.type) hT hn (hρ x)
          exact ⟨_, by simp [execOp, ho, resolve, invoke, builtin, this] <;> rfl, by simp [VR]⟩
        · cases h
      case max =>
        simp only [Option.map_eq_some_iff, Light.val.injEq] at h
        obtain ⟨r, hf, rfl⟩ := h
        obtain ⟨v0, rest, e, u, hu, hr⟩ := foldInt_ok (E := E) (w := w) _ Builtin.max2 (fun _ _ _ _ => rfl) hf (VRs_map args.toList hρ)
        have e' : (args.map σ).toList = v0 :: rest := by simpa using e
        have : (Builtin.max_ argTypes o.type (args.map σ)).run E.P w = .ok u w := by unfold Builtin.max_; rw [e']; exact hu
        exact ⟨u, by simp [execOp, ho, resolve, invoke, builtin, this], hr⟩
      case min =>
        simp only [Option.map_eq_some_iff, Light.val.injEq] at h
        obtain ⟨r, hf, rfl⟩ := h
        obtain ⟨v0, rest, e, u, hu, hr⟩ := foldInt_ok (E := E) (w := w) _ Builtin.min2 (fun _ _ _ _ => rfl) hf (VRs_map args.toList hρ)
        have e' : (args.map σ).toList = v0 :: rest := by simpa using e
        have : (Builtin.min_ argTypes o.type (args.map σ)).run E.P w = .ok u w := by unfold Builtin.min_; rw [e']; exact hu
        exact ⟨u, by simp [execOp, ho, resolve, invoke, builtin, this], hr⟩

/-! ### What makes a block -/
theorem zeros_length (z : List AVal) : ∀ n, (zeros z n).length = n * z.length
  | 0 => by simp [zeros]
  | n + 1 => by simp [zeros, zeros_length z n, Nat.add_mul]; omega

theorem zeros_get (z : List AVal) : ∀ (n i : Nat), i < n * z.length → (zeros z n)[i]? = z[i % z.length]?
  | 0, i, h => by simp at h
  | n + 1, i, h => by
    simp only [zeros, List.getElem?_append]
    split
    · rename_i hlt; rw [Nat.mod_eq_of_lt hlt]
    · rename_i hge
      rw [zeros_get z n (i - z.length) (by rw [Nat.add_mul, Nat.one_mul] at h; omega)]
      congr 1
      rw [Nat.mod_eq_sub_mod (a := i) (by omega)]

theorem zeros_rel {zA : List AVal} {z : Array Value} (h : VRs Γ zA z.toList) (n k : Nat) (hk : k = n * z.size) : VRs Γ (zeros zA n) ((Array.range k).map fun i => z[i % z.size]!).toList := by
  subst hk
  have hl := h.length
  simp only [Array.length_toList] at hl
  refine VRs.of_get (by simp [zeros_length, hl]) (fun i a ha => ?_)
  have hi : i < n * zA.length := by have := (List.getElem?_eq_some_iff.1 ha).1; rwa [zeros_length] at this
  rw [zeros_get zA n i hi] at ha
  obtain ⟨v, hv, hr⟩ := h.get ha
  have hzp : 0 < z.size := by
    rcases Nat.eq_zero_or_pos z.size with h0 | h0
    · rw [hl, h0, Nat.mul_zero] at hi; omega
    · exact h0
  have hlt : i % z.size < z.size := Nat.mod_lt _ hzp
  rw [hl] at hv
  refine ⟨v, ?_, hr⟩
  have hv' : z[i % z.size]? = some v := by simpa using hv
  simp [hl ▸ hi, hlt, (Array.getElem?_eq_some_iff.1 hv').2]

theorem zeros_cell {z : Array Value} (h : ∀ u ∈ z.toList, u.oneCell' = true) (k : Nat) (hk : k = 0 ∨ 0 < z.size) : ∀ u ∈ ((Array.range k).map fun i => z[i % z.size]!).toList, u.oneCell' = true := by
  intro u hu
  simp only [Array.toList_map, List.mem_map, Array.toList_range, List.mem_range] at hu
  obtain ⟨i, hi, rfl⟩ := hu
  have hz : 0 < z.size := by omega
  have hlt : i % z.size < z.size := Nat.mod_lt _ hz
  simp only [hlt, getElem!_pos]
  exact h _ (by simp)

def isNew : Op → Bool
  | .alloc _ | .box .. | .buildSlice .. | .makeSlice .. => true
  | _ => false

theorem map_val_ne {α : Type} {f : α → AVal} {x : Option α} {blk : Block} {mk : NewV} (h : (x.map fun a => Light.val (f a)) = some (.new blk mk)) : False := by
  cases x <;> simp at h

theorem light_new_kind {op : Op} {blk : Block} {mk : NewV} (h : light E m ρ op = some (.new blk mk)) : isNew op = true := by
  unfold light at h
  split at h
  all_goals first
    | rfl
    | (exfalso; cases h; done)
    | (exfalso; simp at h; done)
    | (exfalso
       repeat' split at h
       all_goals first
         | (cases h; done)
         | (simp at h; done)
         | (simp only [cond_eq_ite] at h; split at h <;> simp [Option.bind_eq_some_iff, Option.map_eq_some_iff, Function.comp] at h; done)
         | (simp [Option.bind_eq_some_iff] at h; done))

theorem light_new (hT : TysOk E) (hρ : ∀ x, VR Γ (ρ x) (σ x)) (o : Oper) {blk : Block} {mk : NewV} (h : light E m ρ o.op = some (.new blk mk)) :
    ∃ q cs, (execOp σ o).run E.P w = .ok (.value q) (w.alloc (.cells cs blk.ty)) ∧ blk.fz = 0 ∧ VRs Γ blk.cells cs.toList ∧ (∀ u ∈ cs.toList, u.oneCell' = true) ∧
      ∀ (Δ : Ctx) (id : Nat), Δ.dom id → Δ.blk id = some ⟨blk.cells.length, w.heap.size, cs.size⟩ → VR Δ (mk.at id) q := by
  have hk := light_new_kind h
  cases ho : o.op <;> rw [ho] at h hk <;> simp only [isNew, Bool.false_eq_true] at hk <;> simp only [light] at h
  case alloc t =>
    split at h
    · rename_i vt hg
      obtain ⟨i, d, z, ok⟩ := hT _ _ hg
      simp only [Option.some.injEq, Light.new.injEq] at h
      obtain ⟨rfl, rfl⟩ := h
      refine ⟨_, z.cells, by simp [execOp, ho, Instr.alloc, ok.run_zero, newVar, newRow] <;> rfl, rfl, ok.zrel, ok.cell, fun Δ id hid hb => ?_⟩
      simp only [NewV.at, VR]
      exact ⟨_, rfl, hid, fun j hj => by rw [hb] at hj; cases hj; exact ⟨Nat.le_refl _, fun _ => rfl⟩⟩
    · cases h
  case box t x =>
    split at h
    · rename_i cs hc
      simp only [Option.some.injEq, Light.new.injEq] at h
      obtain ⟨rfl, rfl⟩ := h
      obtain ⟨k1, k2⟩ := cells_ok hc (hρ x)
      refine ⟨_, (σ x).cells, by simp [execOp, ho, Instr.box, newVar, newRow] <;> rfl, rfl, k1, k2, fun Δ id hid hb => ?_⟩
      simp only [NewV.at, VR]
      exact ⟨_, rfl, hid, fun j hj => by rw [hb] at hj; cases hj; exact ⟨Nat.le_refl _, fun _ => rfl⟩⟩
    · cases h
  case buildSlice t n ps =>
    split at h
    · rename_i e _ _ _ _ hg
      obtain ⟨i, d, z, ok⟩ := hT _ _ hg
      have hd := vdOf_slice ok.d.symm
      subst hd
      split at h
      · rename_i ve hve
        obtain ⟨ei, ed, ez, oke⟩ := hT _ _ hve
        simp only [nble, nblt, nbeq, cond_eq_ite, Bool.and_eq_true, decide_eq_true_eq] at h
        split at h
        · rename_i hc
          obtain ⟨⟨c1, c2⟩, c3⟩ := hc
          simp only [Option.map_eq_some_iff, Light.new.injEq] at h
          obtain ⟨cs, hf, rfl, rfl⟩ := h
          have hzl := (oke.zrel (Γ := Γ)).length
          simp only [Array.length_toList] at hzl
          have hsz : ez.cells.size = ve.size := by omega
          have key : ∀ zz : Array Value, (n * ve.size = 0 ∧ zz = #[] ∨ n * ve.size ≠ 0 ∧ zz = ez.cells) →
              VRs Γ (zeros ve.zero n) ((Array.range (n * ve.size)).map fun i => zz[i % zz.size]!).toList ∧ ∀ u ∈ ((Array.range (n * ve.size)).map fun i => zz[i % zz.size]!).toList, u.oneCell' = true := by
            intro zz hzz
            rcases hzz with ⟨h0, rfl⟩ | ⟨h0, rfl⟩
            · have : n = 0 := by
                rcases Nat.mul_eq_zero.1 h0 with h | h
                · exact h
                · omega
              subst this
              simp [zeros, VRs]
            · exact ⟨zeros_rel oke.zrel n _ (by rw [hsz]), zeros_cell oke.cell _ (by right; omega)⟩
          have hfill := fun (zz : Array Value) hzz => fillA_ok (Γ := Γ) _ (fun i => some (i * ve.size, ve.size)) (fun i q hq => hq) _ ((ps.map fun (i, x) => (i, σ x)).toList) _ cs ((Array.range (n * ve.size)).map fun i => zz[i % zz.size]!) hf (by simp) (fun j i a hj => parts_rel ps hρ j i a hj) (key zz hzz).1 (key zz hzz).2
          have hlen : cs.length = n * ve.size := by
            have : ∀ (ps : List (Nat × AVal)) (c r : List AVal), fillA (fun i => some (i * ve.size, ve.size)) c ps = some r → r.length = c.length := by
              intro ps
              induction ps with
              | nil => intro c r h; simp only [fillA, Option.some.injEq] at h; rw [h]
              | cons p ps ih =>
                intro c r h
                obtain ⟨i, a⟩ := p
                simp only [fillA] at h
                split at h
                · simp only [cond_eq_ite] at h
                  split at h
                  · rw [ih _ _ h, lput_length]
                  · cases h
                · cases h
            rw [this _ _ _ hf, zeros_length, c3]
          by_cases h0 : n * ve.size = 0
          · obtain ⟨r', hr1, hr2, hr3⟩ := hfill #[] (.inl ⟨h0, rfl⟩)
            have hl2 := hr2.length
            have hl3 := hlen
            refine ⟨.slice (some ⟨w.heap.size, 0, none⟩) n n, r', ?_, rfl, hr2, hr3, ?_⟩
            · have h24 : ¬ (n * ve.size > 2 ^ 24) := by omega
              have hr1' := hr1
              rw [h0] at hr1'
              simp only [execOp, ho, Instr.buildSlice, Sem.run_bind, ok.run_und, Result.andThen_ok, oke.run_size, h0, gt_iff_lt, Nat.not_lt_zero, if_false, if_true, Sem.run_pure, hr1', newRow, run_newObj]
              rfl
            · intro Δ id hid hb
              simp only [NewV.at, VR]
              refine ⟨_, _, rfl, Nat.le_refl _, Nat.le_refl _, fun _ => rfl, hid, fun j hj => ?_⟩
              rw [hb] at hj
              cases hj
              simp only [Array.length_toList] at hl2
              exact ⟨by show n * ve.size ≤ cs.length; omega, fun _ => ⟨rfl, by show 0 + n * ve.size ≤ r'.size; omega⟩⟩
          · obtain ⟨r', hr1, hr2, hr3⟩ := hfill ez.cells (.inr ⟨h0, rfl⟩)
            have hl2 := hr2.length
            have hl3 := hlen
            refine ⟨.slice (some ⟨w.heap.size, 0, none⟩) n n, r', ?_, rfl, hr2, hr3, ?_⟩
            · have h24 : ¬ (n * ve.size > 2 ^ 24) := by omega
              simp only [execOp, ho, Instr.buildSlice, Sem.run_bind, ok.run_und, Result.andThen_ok, oke.run_size, if_neg h24, if_neg h0, oke.run_zero, Sem.run_pure, hr1, newRow, run_newObj]
              rfl
            · intro Δ id hid hb
              simp only [NewV.at, VR]
              refine ⟨_, _, rfl, Nat.le_refl _, Nat.le_refl _, fun _ => rfl, hid, fun j hj => ?_⟩
              rw [hb] at hj
              cases hj
              simp only [Array.length_toList] at hl2
              exact ⟨by show n * ve.size ≤ cs.length; omega, fun _ => ⟨rfl, by show 0 + n * ve.size ≤ r'.size; omega⟩⟩
        · cases h
      · cases h
    · cases h
  case makeSlice t l c =>
    split at h
    · rename_i e _ _ _ _ hg
      obtain ⟨i, d, z, ok⟩ := hT _ _ hg
      have hd := vdOf_slice ok.d.symm
      subst hd
      split at h
      · rename_i ve hve
        obtain ⟨ei, ed, ez, oke⟩ := hT _ _ hve
        cases hl : natOf (ρ l) with
        | none => simp [hl] at h
        | some n =>
          cases hc : natOf (ρ c) with
          | none => simp [hl, hc] at h
          | some k =>
            simp only [hl, hc, Option.bind_some, nble, nblt, nbeq, cond_eq_ite, Bool.and_eq_true, decide_eq_true_eq] at h
            split at h
            · rename_i hcond
              obtain ⟨⟨⟨⟨c1, c2⟩, c3⟩, c4⟩, c5⟩ := hcond
              simp only [Option.some.injEq, Light.new.injEq] at h
              obtain ⟨rfl, rfl⟩ := h
              obtain ⟨k1, hk1⟩ := natOf_ok hl (hρ l)
              obtain ⟨k2, hk2⟩ := natOf_ok hc (hρ c)
              have hzl := (oke.zrel (Γ := Γ)).length
              simp only [Array.length_toList] at hzl
              have hsz : ez.cells.size = ve.size := by omega
              have w1 : IntKind.i64.wrap (n : Int) = n := by
                simp only [IntKind.wrap, IntKind.signed, IntKind.bits]
                have : (n : Int) % 2 ^ 64 = n := by omega
                simp; omega
              have w2 : IntKind.i64.wrap (k : Int) = k := by
                simp only [IntKind.wrap, IntKind.signed, IntKind.bits]
                have : (k : Int) % 2 ^ 64 = k := by omega
                simp; omega
              have w0 : IntKind.i64.wrap 0 = 0 := by decide
              have hbytes : ¬ (281474976710656 < (ei.bytes : Int) * (k : Int)) := by
                have e1 := oke.bytes
                have : ei.bytes * k ≤ 65536 * 1048576 := Nat.mul_le_mul (by omega) c2
                have h2 : ((ei.bytes * k : Nat) : Int) ≤ 65536 * 1048576 := by omega
                rw [Int.natCast_mul] at h2
                omega
              by_cases h0 : k * ve.size = 0
              · have hk0 : k = 0 := by rcases Nat.mul_eq_zero.1 h0 with h | h <;> omega
                subst hk0
                have hn0 : n = 0 := by omega
                subst hn0
                refine ⟨.slice (some ⟨w.heap.size, 0, none⟩) 0 0, #[], ?_, rfl, by simp [zeros, VRs], by simp, ?_⟩
                · simp [execOp, ho, Instr.makeSlice, ok.run_und, asInt, asIntOf, hk1, hk2, oke.run_info, w0, oke.run_size, newRow]
                  congr 2
                  apply Array.ext'
                  simp
                · intro Δ id hid hb
                  simp only [NewV.at, VR]
                  refine ⟨_, _, rfl, Nat.le_refl _, Nat.le_refl _, fun _ => rfl, hid, fun j hj => ?_⟩
                  rw [hb] at hj
                  cases hj
                  exact ⟨by simp, fun _ => ⟨rfl, by simp⟩⟩
              · refine ⟨.slice (some ⟨w.heap.size, 0, none⟩) n k, (Array.range (k * ve.size)).map fun i => ez.cells[i % ez.cells.size]!, ?_, rfl, zeros_rel oke.zrel k _ (by rw [hsz]), zeros_cell oke.cell _ (by right; omega), ?_⟩
                · have hlk : ¬ (k < n) := by omega
                  simp [execOp, ho, Instr.makeSlice, ok.run_und, asInt, asIntOf, hk1, hk2, oke.run_info, w1, w2, oke.run_size, oke.run_zero, newRow, h0, hbytes, hlk]
                  intro hbad
                  omega
                · intro Δ id hid hb
                  simp only [NewV.at, VR]
                  refine ⟨_, _, rfl, c1, Nat.le_refl _, fun _ => rfl, hid, fun j hj => ?_⟩
                  rw [hb] at hj
                  cases hj
                  exact ⟨by simp [zeros_length, c5], fun _ => ⟨rfl, by simp⟩⟩
            · cases h
      · cases h
    · cases h
end
end Go.V
end

section
/-
  Memory that changes: a new block, a block written, a block grown.
-/
namespace Go.V

def Ctx.set (Γ : Ctx) (b : Nat) (i : BI) : Ctx := { Γ with blk := fun x => if x = b then some i else Γ.blk x, dom := fun x => x = b ∨ Γ.dom x }

section
variable {w w' : World} {Γ : Ctx} {m : Mem}

theorem MemR.lt (h : MemR Γ m w) {b : Nat} {i : BI} (hb : b < m.next) (hi : Γ.blk b = some i) : i.cb < w.heap.size := by
  cases hg : m.get b with
  | none =>
    cases hc : m.getC b with
    | none => rw [h.gone b hg hc hb] at hi; cases hi
    | some p =>
      obtain ⟨_, cb, buf, s, r, h2, h3, _⟩ := h.chan b p.1 p.2 hc
      rw [h2] at hi
      cases hi
      exact (Array.getElem?_eq_some_iff.1 h3).1
  | some B =>
    obtain ⟨_, cb, cs, h2, h3, _⟩ := h.blk b B hg
    rw [h2] at hi
    cases hi
    exact (Array.getElem?_eq_some_iff.1 h3).1

theorem MemR.ro_lt (h : MemR Γ m w) {b o : Nat} {v : Value} (hv : Γ.ro b o = some v) : b < w.heap.size := by
  have := h.ro b o v hv
  exact World.block_lt_of_cell? w ⟨b, o, none⟩ this

theorem get_add (m : Mem) (blk : Block) (hn : m.next < 1048576) (b : Nat) : (m.add blk).get b = if b = m.next then some blk else m.get b := by
  unfold Mem.get Mem.add
  rw [Hp.get_put _ _ _ _ hn]
  by_cases e : b = m.next
  · rw [if_pos e, if_pos e]
  · rw [if_neg e, if_neg e]

theorem getC_add (m : Mem) (blk : Block) (hn : m.next < 1048576) (b : Nat) : (m.add blk).getC b = if b = m.next then none else m.getC b := by
  unfold Mem.getC Mem.add
  rw [Hp.get_put _ _ _ _ hn]
  by_cases e : b = m.next
  · rw [if_pos e, if_pos e]
  · rw [if_neg e, if_neg e]

theorem get_upd (m : Mem) (b : Nat) (blk : Block) (hn : b < 1048576) (x : Nat) : (m.upd b blk).get x = if x = b then some blk else m.get x := by
  unfold Mem.get Mem.upd
  rw [Hp.get_put _ _ _ _ hn]
  by_cases e : x = b
  · rw [if_pos e, if_pos e]
  · rw [if_neg e, if_neg e]

theorem getC_upd (m : Mem) (b : Nat) (blk : Block) (hn : b < 1048576) (x : Nat) : (m.upd b blk).getC x = if x = b then none else m.getC x := by
  unfold Mem.getC Mem.upd
  rw [Hp.get_put _ _ _ _ hn]
  by_cases e : x = b
  · rw [if_pos e, if_pos e]
  · rw [if_neg e, if_neg e]

theorem get_addC (m : Mem) (c : Nat) (hn : m.next < 1048576) (b : Nat) : (m.addC c).get b = if b = m.next then none else m.get b := by
  unfold Mem.get Mem.addC
  rw [Hp.get_put _ _ _ _ hn]
  by_cases e : b = m.next
  · rw [if_pos e, if_pos e]
  · rw [if_neg e, if_neg e]
theorem getC_addC (m : Mem) (c : Nat) (hn : m.next < 1048576) (b : Nat) : (m.addC c).getC b = if b = m.next then some (c, []) else m.getC b := by
  unfold Mem.getC Mem.addC
  rw [Hp.get_put _ _ _ _ hn]
  by_cases e : b = m.next
  · rw [if_pos e, if_pos e]
  · rw [if_neg e, if_neg e]
theorem get_updC (m : Mem) (b c : Nat) (q : List AVal) (hn : b < 1048576) (x : Nat) : (m.updC b c q).get x = if x = b then none else m.get x := by
  unfold Mem.get Mem.updC
  rw [Hp.get_put _ _ _ _ hn]
  by_cases e : x = b
  · rw [if_pos e, if_pos e]
  · rw [if_neg e, if_neg e]
theorem getC_updC (m : Mem) (b c : Nat) (q : List AVal) (hn : b < 1048576) (x : Nat) : (m.updC b c q).getC x = if x = b then some (c, q) else m.getC x := by
  unfold Mem.getC Mem.updC
  rw [Hp.get_put _ _ _ _ hn]
  by_cases e : x = b
  · rw [if_pos e, if_pos e]
  · rw [if_neg e, if_neg e]
theorem getC_get {m : Mem} {b : Nat} {p : Nat × List AVal} (h : m.getC b = some p) : m.get b = none := by
  unfold Mem.getC at h
  unfold Mem.get
  split at h
  · rename_i hh; rw [hh]
  · cases h

/-- The cells of a block, said of a world. -/
def CellsR (Γ : Ctx) (cells : List AVal) (cs : Array Value) : Prop :=
  cells.length ≤ cs.size ∧ ∀ (i : Nat) (a : AVal), cells[i]? = some a → ∃ v : Value, cs[i]? = some v ∧ VR Γ a v ∧ v.oneCell' = true

theorem CellsR.of_VRs {cells : List AVal} {cs : Array Value} (h : VRs Γ cells cs.toList) (h1 : ∀ u ∈ cs.toList, u.oneCell' = true) : CellsR Γ cells cs := by
  refine ⟨by have := h.length; simp at this; omega, fun i a ha => ?_⟩
  obtain ⟨v, hv, hr⟩ := h.get ha
  exact ⟨v, by simpa using hv, hr, h1 v (List.mem_of_getElem? hv)⟩

theorem CellsR.mono {Δ : Ctx} (hl : Γ.le Δ) {cells : List AVal} {cs : Array Value} (h : CellsR Γ cells cs) : CellsR Δ cells cs :=
  ⟨h.1, fun i a ha => by obtain ⟨v, h1, h2, h3⟩ := h.2 i a ha; exact ⟨v, h1, VR.mono hl a v h2, h3⟩⟩

/-- The world moves, nothing that the abstract memory knows is touched. -/
theorem MemR.still (h : MemR Γ m w) (hh : w'.heap = w.heap) : MemR Γ m w' := by
  refine ⟨h.dom, h.small, h.gone, by rw [hh]; exact h.chan, ?_, h.inj, ?_⟩
  · rw [hh]; exact h.blk
  · intro b o v hv
    have := h.ro b o v hv
    simpa [World.cell?, hh] using this

theorem Step.still (hh : w'.heap = w.heap) (ho : w'.os = w.os) (ht : w'.tape = w.tape) (hu : w'.output = w.output) : Step Γ w Γ w' :=
  ⟨.refl Γ, ho, ht, hu, by rw [hh]; exact Nat.le_refl _, fun _ _ _ => by rw [hh], fun b i hb hi _ => ⟨b, i, hb, hi, rfl⟩, fun _ _ _ h => .inl h⟩

theorem MemR.add (h : MemR Γ m w) (hn : m.next < 1048576) {blk : Block} {cs : Array Value} (hr : CellsR Γ blk.cells cs) :
    Γ.le (Γ.set m.next ⟨blk.cells.length, w.heap.size, cs.size⟩) ∧
    MemR (Γ.set m.next ⟨blk.cells.length, w.heap.size, cs.size⟩) (m.add blk) (w.alloc (.cells cs blk.ty)) ∧
    Step Γ w (Γ.set m.next ⟨blk.cells.length, w.heap.size, cs.size⟩) (w.alloc (.cells cs blk.ty)) := by
  have hle : Γ.le (Γ.set m.next ⟨blk.cells.length, w.heap.size, cs.size⟩) := by
    refine ⟨fun b hb => .inr hb, fun b i hb hi => ?_, fun _ _ _ hv => hv, rfl⟩
    rw [h.dom] at hb
    simp only [Ctx.set] at hi
    rw [if_neg (by omega)] at hi
    exact ⟨i, hi, .inl rfl⟩
  have hold : ∀ k, k < w.heap.size → (w.alloc (.cells cs blk.ty)).heap[k]? = w.heap[k]? := fun k hk => Go.RowKit.Below.heap_alloc w _ k hk
  refine ⟨hle, ⟨fun b => by show b = m.next ∨ Γ.dom b ↔ b < m.next + 1; rw [h.dom]; omega, by show m.next + 1 ≤ _; omega, fun b hb hbC hlt => ?_, fun b cap q hb => ?_, fun b B hb => ?_, fun b b' i i' hb hb' hi hi' he => ?_, fun b o v hv => ?_⟩, ⟨hle, rfl, rfl, rfl, by simp, fun k hk _ => hold k hk, fun b i hb hi hlt => ?_, fun _ _ _ h => .inl h⟩⟩
  · rw [get_add m blk hn] at hb
    rw [getC_add m blk hn] at hbC
    have hlt' : b < m.next + 1 := hlt
    split at hb
    · cases hb
    · rename_i hne
      rw [if_neg hne] at hbC
      simp only [Ctx.set]
      rw [if_neg hne]
      exact h.gone b hb hbC (by omega)
  · rw [getC_add m blk hn] at hb
    split at hb
    · cases hb
    · rename_i hne
      obtain ⟨h1, cb, buf, s, r, h2, h3, h4⟩ := h.chan b cap q hb
      exact ⟨by show b < m.next + 1; omega, cb, buf, s, r, by simp only [Ctx.set]; rw [if_neg hne]; exact h2, by rw [hold cb (Array.getElem?_eq_some_iff.1 h3).1]; exact h3, VRs.mono hle _ _ h4⟩
  · rw [get_add m blk hn] at hb
    split at hb
    · rename_i he
      simp only [Option.some.injEq] at hb
      subst hb; subst he
      refine ⟨by show m.next < m.next + 1; omega, w.heap.size, cs, by simp [Ctx.set], heap_alloc_new w _, hr.1, (hr.mono hle).2, fun i _ => ?_⟩
      cases hv : Γ.ro w.heap.size i with
      | none => simpa [Ctx.set] using hv
      | some v => have := h.ro_lt hv; omega
    · rename_i hne
      obtain ⟨h1, cb, cs', h2, h3, h4, h5, h6⟩ := h.blk b B hb
      refine ⟨by show b < m.next + 1; omega, cb, cs', by simp only [Ctx.set]; rw [if_neg hne]; exact h2, by rw [hold cb (Array.getElem?_eq_some_iff.1 h3).1]; exact h3, h4, fun i a ha => ?_, h6⟩
      obtain ⟨v, k1, k2, k3⟩ := h5 i a ha
      exact ⟨v, k1, VR.mono hle a v k2, k3⟩
  · simp only [Ctx.set] at hi hi'
    have hb1 : b < m.next + 1 := hb
    have hb2 : b' < m.next + 1 := hb'
    split at hi <;> split at hi'
    · omega
    · rename_i e1 e2
      simp only [Option.some.injEq] at hi
      subst hi
      have := h.lt (by omega : b' < m.next) hi'
      simp at he; omega
    · rename_i e1 e2
      simp only [Option.some.injEq] at hi'
      subst hi'
      have := h.lt (by omega : b < m.next) hi
      simp at he; omega
    · rename_i e1 e2
      exact h.inj b b' i i' (by omega) (by omega) hi hi' he
  · have hv' : Γ.ro b o = some v := hv
    have hlt := h.ro_lt hv'
    have := h.ro b o v hv'
    simpa [World.cell?, hold b hlt] using this
  · simp only [Ctx.set] at hi hb
    split at hi
    · simp only [Option.some.injEq] at hi
      subst hi
      simp at hlt
    · rename_i hne
      exact ⟨b, i, hb.resolve_left hne, hi, rfl⟩

/-- A block is written, or grows, where it lies or elsewhere. -/
theorem MemR.change (h : MemR Γ m w) {b cb cb' : Nat} {B B' : Block} {cs cs' : Array Value} (hb : m.get b = some B) (hB : Γ.blk b = some ⟨B.cells.length, cb, cs.size⟩)
    (hw : w'.heap[cb']? = some (.cells cs' B'.ty (0, 0))) (others : ∀ k, k ≠ cb → k < w.heap.size → w'.heap[k]? = w.heap[k]?) (size : w.heap.size ≤ w'.heap.size)
    (at_ : cb' = cb ∨ w.heap.size ≤ cb') (ext : B.cells.length < B'.cells.length ∨ (B'.cells.length = B.cells.length ∧ cb' = cb ∧ cs'.size = cs.size))
    (cells : CellsR Γ B'.cells cs') (ro : ∀ i v, Γ.ro cb i = some v → w'.cell? ⟨cb, i, none⟩ = some v) (fz : ∀ i, B'.fz ≤ i → Γ.ro cb' i = none)
    (ho : w'.os = w.os) (ht : w'.tape = w.tape) (hu : w'.output = w.output) :
    Γ.le (Γ.set b ⟨B'.cells.length, cb', cs'.size⟩) ∧ MemR (Γ.set b ⟨B'.cells.length, cb', cs'.size⟩) (m.upd b B') w' ∧ Step Γ w (Γ.set b ⟨B'.cells.length, cb', cs'.size⟩) w' := by
  have hbn : b < m.next := (h.blk b B hb).1
  have hcb : cb < w.heap.size := h.lt hbn hB
  have hle : Γ.le (Γ.set b ⟨B'.cells.length, cb', cs'.size⟩) := by
    refine ⟨fun x hx => .inr hx, fun x i hx hi => ?_, fun _ _ _ hv => hv, rfl⟩
    simp only [Ctx.set] at hi
    split at hi
    · rename_i e
      subst e
      simp only [Option.some.injEq] at hi
      subst hi
      refine ⟨_, hB, ?_⟩
      rcases ext with e | ⟨e1, e2, e3⟩
      · exact .inr e
      · left; rw [e1, e2, e3]
    · exact ⟨i, hi, .inl rfl⟩
  have hnb : ∀ x i, x < m.next → Γ.blk x = some i → x ≠ b → i.cb ≠ cb := fun x i hx hi hne e => hne (h.inj x b i _ hx hbn hi hB e)
  refine ⟨hle, ⟨fun x => by show x = b ∨ Γ.dom x ↔ x < m.next; rw [h.dom]; omega, h.small, fun x hx hxC hlt => ?_, fun x cap q hx => ?_, fun x X hx => ?_, fun x y i j hx hy hi hj he => ?_, fun x o v hv => ?_⟩, ⟨hle, ho, ht, hu, size, fun k hk hn => others k (fun e => hn b _ ((h.dom b).2 hbn) hB e.symm) hk, fun x i hx hi hlt => ?_, fun _ _ _ h => .inl h⟩⟩
  · rw [get_upd m b B' (by have := h.small; omega)] at hx
    rw [getC_upd m b B' (by have := h.small; omega)] at hxC
    split at hx
    · cases hx
    · rename_i hne
      rw [if_neg hne] at hxC
      simp only [Ctx.set]
      rw [if_neg hne]
      exact h.gone x hx hxC hlt
  · rw [getC_upd m b B' (by have := h.small; omega)] at hx
    split at hx
    · cases hx
    · rename_i hne
      obtain ⟨h1, c, buf, s, r, h2, h3, h4⟩ := h.chan x cap q hx
      exact ⟨h1, c, buf, s, r, by simp only [Ctx.set]; rw [if_neg hne]; exact h2, by rw [others c (hnb x _ h1 h2 hne) (Array.getElem?_eq_some_iff.1 h3).1]; exact h3, VRs.mono hle _ _ h4⟩
  · rw [get_upd m b B' (by have := h.small; omega)] at hx
    split at hx
    · rename_i e
      subst e
      simp only [Option.some.injEq] at hx
      subst hx
      exact ⟨hbn, cb', cs', by simp [Ctx.set], hw, cells.1, (cells.mono hle).2, fz⟩
    · rename_i hne
      obtain ⟨h1, c, cs2, h2, h3, h4, h5, h6⟩ := h.blk x X hx
      refine ⟨h1, c, cs2, by simp only [Ctx.set]; rw [if_neg hne]; exact h2, by rw [others c (hnb x _ h1 h2 hne) (Array.getElem?_eq_some_iff.1 h3).1]; exact h3, h4, fun i a ha => ?_, h6⟩
      obtain ⟨v, k1, k2, k3⟩ := h5 i a ha
      exact ⟨v, k1, VR.mono hle a v k2, k3⟩
  · simp only [Ctx.set] at hi hj
    have hx1 : x < m.next := hx
    have hy1 : y < m.next := hy
    split at hi <;> split at hj
    · omega
    · rename_i e1 e2
      simp only [Option.some.injEq] at hi
      subst hi
      have h1 := h.lt hy1 hj
      have h2 := hnb y j hy1 hj e2
      rcases at_ with e | e
      · exact absurd (he.symm.trans e) h2
      · simp at he; omega
    · rename_i e1 e2
      simp only [Option.some.injEq] at hj
      subst hj
      have h1 := h.lt hx1 hi
      have h2 := hnb x i hx1 hi e1
      rcases at_ with e | e
      · exact absurd (he.trans e) h2
      · simp at he; omega
    · exact h.inj x y i j hx1 hy1 hi hj he
  · have hv' : Γ.ro x o = some v := hv
    by_cases e : x = cb
    · subst e; exact ro o v hv'
    · have := h.ro x o v hv'
      simpa [World.cell?, others x e (h.ro_lt hv')] using this
  · simp only [Ctx.set] at hi hx
    split at hi
    · rename_i e
      simp only [Option.some.injEq] at hi
      subst hi
      rcases at_ with e' | e'
      · exact ⟨b, _, (h.dom b).2 hbn, hB, e'.symm⟩
      · simp at hlt; omega
    · rename_i hne
      exact ⟨x, i, hx.resolve_left hne, hi, rfl⟩

/-- Cells put into a row. -/
def rowPut (cs : Array Value) (off : Nat) (us : List Value) : Array Value := (cs.toList.take off ++ us ++ cs.toList.drop (off + us.length)).toArray

theorem rowPut_size (cs : Array Value) (off : Nat) (us : List Value) (h : off + us.length ≤ cs.size) : (rowPut cs off us).size = cs.size := by
  simp [rowPut]; omega

theorem rowPut_get (cs : Array Value) (off : Nat) (us : List Value) (h : off + us.length ≤ cs.size) (i : Nat) :
    (rowPut cs off us)[i]? = if off ≤ i ∧ i < off + us.length then us[i - off]? else cs[i]? := by
  have hl : (cs.toList.take off).length = off := by simp; omega
  simp only [rowPut, List.getElem?_toArray, List.getElem?_append, List.length_append, hl]
  by_cases h1 : i < off
  · rw [if_pos (by omega), if_pos h1, if_neg (by omega), List.getElem?_take_of_lt h1]; simp
  · by_cases h2 : i < off + us.length
    · rw [if_pos h2, if_neg h1, if_pos ⟨by omega, h2⟩]
    · rw [if_neg h2, if_neg (by omega), List.getElem?_drop]
      simp; congr 1; omega

theorem rowPut_rel {cells : List AVal} {cs : Array Value} (h : CellsR Γ cells cs) {off : Nat} {vs : List AVal} {us : List Value} (hr : VRs Γ vs us) (h1 : ∀ u ∈ us, u.oneCell' = true) (hl : off + vs.length ≤ cells.length) :
    CellsR Γ (lput cells off vs) (rowPut cs off us) := by
  have hlen := hr.length
  have hc := h.1
  refine ⟨by rw [lput_length, rowPut_size _ _ _ (by omega)]; exact h.1, fun i a ha => ?_⟩
  rw [lput_get _ _ _ _ hl] at ha
  rw [rowPut_get _ _ _ (by omega)]
  split at ha
  · rename_i hi
    rw [if_pos (by omega)]
    obtain ⟨v, k1, k2⟩ := hr.get ha
    exact ⟨v, k1, k2, h1 v (List.mem_of_getElem? k1)⟩
  · rename_i hi
    rw [if_neg (by omega)]
    exact h.2 i a ha

/-- Cells behind those that a block has. -/
theorem rowPut_grow {cells : List AVal} {cs : Array Value} (h : CellsR Γ cells cs) {vs : List AVal} {us : List Value} (hr : VRs Γ vs us) (h1 : ∀ u ∈ us, u.oneCell' = true) (hl : cells.length + us.length ≤ cs.size) :
    CellsR Γ (cells ++ vs) (rowPut cs cells.length us) := by
  have hlen := hr.length
  refine ⟨by rw [List.length_append, rowPut_size _ _ _ hl]; omega, fun i a ha => ?_⟩
  rw [rowPut_get _ _ _ hl]
  rw [List.getElem?_append] at ha
  split at ha
  · rename_i hi
    rw [if_neg (by omega)]
    exact h.2 i a ha
  · rename_i hi
    have hlt := (List.getElem?_eq_some_iff.1 ha).1
    rw [if_pos (by omega)]
    obtain ⟨v, k1, k2⟩ := hr.get ha
    exact ⟨v, k1, k2, h1 v (List.mem_of_getElem? k1)⟩

theorem MemR.cellsR (h : MemR Γ m w) {b : Nat} {B : Block} (hb : m.get b = some B) :
    b < m.next ∧ ∃ (cb : Nat) (cs : Array Value), Γ.blk b = some ⟨B.cells.length, cb, cs.size⟩ ∧ w.heap[cb]? = some (.cells cs B.ty (0, 0)) ∧ CellsR Γ B.cells cs ∧ ∀ i, B.fz ≤ i → Γ.ro cb i = none := by
  obtain ⟨h1, cb, cs, h2, h3, h4, h5, h6⟩ := h.blk b B hb
  exact ⟨h1, cb, cs, h2, h3, ⟨h4, h5⟩, h6⟩

/-- A write into a block that is known. -/
theorem MemR.write (h : MemR Γ m w) {b : Nat} {B : Block} (hb : m.get b = some B) {cb : Nat} {cs : Array Value} (hB : Γ.blk b = some ⟨B.cells.length, cb, cs.size⟩) (hw : w.heap[cb]? = some (.cells cs B.ty (0, 0)))
    {off : Nat} {vs : List AVal} {us : List Value} (hr : VRs Γ vs us) (h1 : ∀ u ∈ us, u.oneCell' = true) (hfz : B.fz ≤ off) (hl : off + vs.length ≤ B.cells.length) :
    ∃ Δ, Γ.le Δ ∧ MemR Δ (m.upd b { B with cells := lput B.cells off vs }) (w.setRow cb (rowPut cs off us)) ∧ Step Γ w Δ (w.setRow cb (rowPut cs off us)) := by
  obtain ⟨_, cb', cs', e1, e2, hc, hro⟩ := h.cellsR hb
  rw [e1] at hB
  simp only [Option.some.injEq, BI.mk.injEq] at hB
  obtain ⟨_, rfl, _⟩ := hB
  rw [e2] at hw
  simp only [Option.some.injEq, Obj.cells.injEq] at hw
  obtain ⟨rfl, _⟩ := hw
  have hlen := hr.length
  have hrel := rowPut_rel hc hr h1 hl
  have hcs := hc.1
  have hsz := rowPut_size cs' off us (by omega)
  refine ⟨_, h.change (B' := { B with cells := lput B.cells off vs }) (cs' := rowPut cs' off us) hb e1 (setRow_heap w cb' cs' _ _ _ e2) (fun k hk _ => setRow_other w cb' k _ hk) (by simp) (.inl rfl) (.inr ⟨lput_length _ _ _, rfl, hsz⟩) hrel (fun i v hv => ?_) hro rfl rfl rfl⟩
  have hv' := h.ro cb' i v hv
  rw [cell_of_heap e2] at hv'
  rw [cell_setRow_same w cb' i cs' _ _ _ e2, rowPut_get _ _ _ (by omega), if_neg, hv']
  intro hi
  rw [hro i (by omega)] at hv
  cases hv
theorem MemR.to {Γ Δ : Ctx} {m : Mem} {w w' : World} (h : MemR Γ m w) (hd : ∀ b, Γ.dom b ↔ Δ.dom b) (hb : ∀ b, Γ.dom b → Δ.blk b = Γ.blk b) (hr : Δ.ro = Γ.ro)
    (hh : ∀ k, k < w.heap.size → w'.heap[k]? = w.heap[k]?) (hi : Δ.inp = Γ.inp := by rfl) : MemR Δ m w' := by
  have hle : Γ.le Δ := ⟨fun b hx => (hd b).1 hx, fun b i hx hi => ⟨i, by rw [← hb b hx]; exact hi, .inl rfl⟩, fun b o v hv => by rw [hr]; exact hv, hi⟩
  have hlt : ∀ b, b < m.next → Γ.dom b := fun b hx => (h.dom b).2 hx
  refine ⟨fun b => by rw [← hd b]; exact h.dom b, h.small, fun b hg hgC hx => by rw [hb b (hlt b hx)]; exact h.gone b hg hgC hx, fun b cap q hq => ?_, fun b B hB => ?_, fun b b' i i' hx hx' hi hi' => ?_, fun b o v hv => ?_⟩
  · obtain ⟨h1, cb, buf, s, r, h2, h3, h4⟩ := h.chan b cap q hq
    exact ⟨h1, cb, buf, s, r, by rw [hb b (hlt b h1)]; exact h2, by rw [hh cb (Array.getElem?_eq_some_iff.1 h3).1]; exact h3, VRs.mono hle _ _ h4⟩
  · obtain ⟨h1, cb, cs, h2, h3, h4, h5, h6⟩ := h.blk b B hB
    refine ⟨h1, cb, cs, by rw [hb b (hlt b h1)]; exact h2, by rw [hh cb (Array.getElem?_eq_some_iff.1 h3).1]; exact h3, h4, fun i a ha => ?_, by rw [hr]; exact h6⟩
    obtain ⟨v, k1, k2, k3⟩ := h5 i a ha
    exact ⟨v, k1, VR.mono hle a v k2, k3⟩
  · rw [hb b (hlt b hx)] at hi
    rw [hb b' (hlt b' hx')] at hi'
    exact h.inj b b' i i' hx hx' hi hi'
  · rw [hr] at hv
    have := h.ro b o v hv
    simpa [World.cell?, hh b (h.ro_lt hv)] using this
end
end Go.V
end

section
/-
  Channels in memory: a new one, and one whose queue is turned.
-/
namespace Go.V
section
variable {w : World} {Γ : Ctx} {m : Mem}

theorem MemR.addC (h : MemR Γ m w) (hn : m.next < 1048576) (c : Nat) :
    Γ.le (Γ.set m.next ⟨0, w.heap.size, 0⟩) ∧ MemR (Γ.set m.next ⟨0, w.heap.size, 0⟩) (m.addC c) (w.alloc (.chan c #[] false 0 0 false)) ∧ Step Γ w (Γ.set m.next ⟨0, w.heap.size, 0⟩) (w.alloc (.chan c #[] false 0 0 false)) := by
  have hle : Γ.le (Γ.set m.next ⟨0, w.heap.size, 0⟩) := by
    refine ⟨fun b hb => .inr hb, fun b i hb hi => ?_, fun _ _ _ hv => hv, rfl⟩
    rw [h.dom] at hb
    simp only [Ctx.set] at hi
    rw [if_neg (by omega)] at hi
    exact ⟨i, hi, .inl rfl⟩
  have hold : ∀ k, k < w.heap.size → (w.alloc (.chan c #[] false 0 0 false)).heap[k]? = w.heap[k]? := fun k hk => by
    show (w.heap.push _)[k]? = _
    rw [Array.getElem?_push, if_neg (by omega)]
  have hnew : (w.alloc (.chan c #[] false 0 0 false)).heap[w.heap.size]? = some (.chan c #[] false 0 0 false) := by
    show (w.heap.push _)[_]? = _
    rw [Array.getElem?_push, if_pos rfl]
  refine ⟨hle, ⟨fun b => by show b = m.next ∨ Γ.dom b ↔ b < m.next + 1; rw [h.dom]; omega, by show m.next + 1 ≤ _; omega, fun b hb hbC hlt => ?_, fun b cap q hb => ?_, fun b B hb => ?_, fun b b' i i' hb hb' hi hi' he => ?_, fun b o v hv => ?_⟩, ⟨hle, rfl, rfl, rfl, by show _ ≤ (w.heap.push _).size; simp, fun k hk _ => hold k hk, fun b i hb hi hlt => ?_, fun _ _ _ h => .inl h⟩⟩
  · rw [get_addC m c hn] at hb
    rw [getC_addC m c hn] at hbC
    have hlt' : b < m.next + 1 := hlt
    split at hbC
    · cases hbC
    · rename_i hne
      rw [if_neg hne] at hb
      simp only [Ctx.set]
      rw [if_neg hne]
      exact h.gone b hb hbC (by omega)
  · rw [getC_addC m c hn] at hb
    split at hb
    · rename_i he
      subst he
      cases hb
      exact ⟨by show m.next < m.next + 1; omega, w.heap.size, #[], 0, 0, by simp [Ctx.set], hnew, by simp [VRs]⟩
    · rename_i hne
      obtain ⟨h1, cb, buf, s, r, h2, h3, h4⟩ := h.chan b cap q hb
      exact ⟨by show b < m.next + 1; omega, cb, buf, s, r, by simp only [Ctx.set]; rw [if_neg hne]; exact h2, by rw [hold cb (Array.getElem?_eq_some_iff.1 h3).1]; exact h3, VRs.mono hle _ _ h4⟩
  · rw [get_addC m c hn] at hb
    split at hb
    · cases hb
    · rename_i hne
      obtain ⟨h1, cb, cs', h2, h3, h4, h5, h6⟩ := h.blk b B hb
      refine ⟨by show b < m.next + 1; omega, cb, cs', by simp only [Ctx.set]; rw [if_neg hne]; exact h2, by rw [hold cb (Array.getElem?_eq_some_iff.1 h3).1]; exact h3, h4, fun i a ha => ?_, h6⟩
      obtain ⟨v, k1, k2, k3⟩ := h5 i a ha
      exact ⟨v, k1, VR.mono hle a v k2, k3⟩
  · simp only [Ctx.set] at hi hi'
    have hb1 : b < m.next + 1 := hb
    have hb2 : b' < m.next + 1 := hb'
    split at hi <;> split at hi'
    · omega
    · rename_i e1 e2
      simp only [Option.some.injEq] at hi
      subst hi
      have := h.lt (by omega : b' < m.next) hi'
      simp at he; omega
    · rename_i e1 e2
      simp only [Option.some.injEq] at hi'
      subst hi'
      have := h.lt (by omega : b < m.next) hi
      simp at he; omega
    · exact h.inj b b' i i' (by omega) (by omega) hi hi' he
  · have hv' : Γ.ro b o = some v := hv
    have hlt := h.ro_lt hv'
    have := h.ro b o v hv'
    simpa [World.cell?, hold b hlt] using this
  · simp only [Ctx.set] at hi hb
    split at hi
    · simp only [Option.some.injEq] at hi
      subst hi
      simp at hlt
    · rename_i hne
      exact ⟨b, i, hb.resolve_left hne, hi, rfl⟩

/-- A channel's queue is turned. -/
theorem MemR.turnC (h : MemR Γ m w) {b cap : Nat} {q q' : List AVal} (hg : m.getC b = some (cap, q)) {cb : Nat} {buf buf' : Array Value} {s r s' r' : Nat} (hB : Γ.blk b = some ⟨0, cb, 0⟩) (hw : w.heap[cb]? = some (.chan cap buf false s r false))
    (hq : VRs Γ q' buf'.toList) : MemR Γ (m.updC b cap q') (w.setChan cb cap buf' false s' r' false) ∧ Step Γ w Γ (w.setChan cb cap buf' false s' r' false) := by
  have hbn : b < m.next := (h.chan b cap q hg).1
  have hsm := h.small
  have hcb : cb < w.heap.size := (Array.getElem?_eq_some_iff.1 hw).1
  have others : ∀ k, k ≠ cb → (w.setChan cb cap buf' false s' r' false).heap[k]? = w.heap[k]? := fun k hk => by
    show (w.heap.setIfInBounds cb _)[k]? = _
    rw [Array.getElem?_setIfInBounds_ne (fun e => hk e.symm)]
  have here : (w.setChan cb cap buf' false s' r' false).heap[cb]? = some (.chan cap buf' false s' r' false) := Conc.heap_setChan w cb cap buf' false s' r' false hcb
  have hnb : ∀ x i, x < m.next → Γ.blk x = some i → x ≠ b → i.cb ≠ cb := fun x i hx hi hne e => hne (h.inj x b i _ hx hbn hi hB e)
  refine ⟨⟨h.dom, h.small, fun x hx hxC hlt => ?_, fun x cap' q2 hx => ?_, fun x X hx => ?_, h.inj, fun x o v hv => ?_⟩, ⟨.refl Γ, rfl, rfl, rfl, by rw [Conc.size_setChan]; exact Nat.le_refl _, fun k _ hn => others k (fun e => hn b _ ((h.dom b).2 hbn) hB e.symm), fun x i hx hi _ => ⟨x, i, hx, hi, rfl⟩, fun _ _ _ h => .inl h⟩⟩
  · rw [get_updC m b cap q' (by omega)] at hx
    rw [getC_updC m b cap q' (by omega)] at hxC
    split at hxC
    · cases hxC
    · rename_i hne
      rw [if_neg hne] at hx
      exact h.gone x hx hxC hlt
  · rw [getC_updC m b cap q' (by omega)] at hx
    split at hx
    · rename_i e
      subst e
      cases hx
      exact ⟨hbn, cb, buf', s', r', hB, here, hq⟩
    · rename_i hne
      obtain ⟨h1, c, bf, s2, r2, h2, h3, h4⟩ := h.chan x cap' q2 hx
      exact ⟨h1, c, bf, s2, r2, h2, by rw [others c (hnb x _ h1 h2 hne)]; exact h3, h4⟩
  · rw [get_updC m b cap q' (by omega)] at hx
    split at hx
    · cases hx
    · rename_i hne
      obtain ⟨h1, c, cs2, h2, h3, h4⟩ := h.blk x X hx
      exact ⟨h1, c, cs2, h2, by rw [others c (hnb x _ h1 h2 hne)]; exact h3, h4⟩
  · have := h.ro x o v hv
    have hne : x ≠ cb := by
      intro e
      subst e
      unfold World.cell? at this
      rw [hw] at this
      cases this
    simpa [World.cell?, others x hne] using this
end
end Go.V
end

section
/-
  Operations that write.
-/
namespace Go.V
section
variable {E : Env} {w : World} {Γ : Ctx} {m : Mem} {ρ : Operand → AVal} {σ : Operand → Value}

theorem writeCells_ok (h : MemR Γ m w) {b ext off : Nat} {cs : List AVal} {us : List Value} {m' : Mem} (hw : writeCells m b ext off cs = some m') (hr : VRs Γ cs us) (h1 : ∀ u ∈ us, u.oneCell' = true) :
    ∃ cb tot Δ w', Γ.blk b = some ⟨ext, cb, tot⟩ ∧ (∀ P : Program, (storeCells ⟨cb, off, none⟩ us).run P w = .ok () w') ∧ Γ.le Δ ∧ MemR Δ m' w' ∧ Step Γ w Δ w' := by
  unfold writeCells at hw
  split at hw
  · rename_i B hb
    simp only [nbeq, nble, cond_eq_ite, Bool.and_eq_true, decide_eq_true_eq] at hw
    split at hw
    · rename_i hc
      obtain ⟨⟨he, hfz⟩, hle⟩ := hc
      simp only [Option.some.injEq] at hw
      subst hw; subst he
      obtain ⟨_, cb, css, e1, e2, hcr, hro⟩ := h.cellsR hb
      obtain ⟨Δ, k1, k2, k3⟩ := h.write hb e1 e2 hr h1 hfz hle
      refine ⟨cb, _, Δ, _, e1, fun P => ?_, k1, k2, k3⟩
      have hlen := hr.length
      have hc1 := hcr.1
      have := run_storeCells_at P cb off B.ty us 0 css w e2 (by omega) h1
      simpa [rowPut] using this
    · cases hw
  · cases hw

def AppX (P : Program) (w : World) (t2 : TypeId) (size : Nat) (z x : Value) (n : Nat) (news : List Value) : Prop :=
  (∃ kk k, P.underlying t2 = some (.int kk) ∧ x = .int k n ∧ n ≤ 1048576 ∧ news = (Builtin.zeroCells z.cells n).toList) ∨
  (∃ e2 a c, P.underlying t2 = some (.slice e2) ∧ x = .slice a n c ∧ (Builtin.firstCells size n x).run P w = .ok news.toArray w ∧ (Builtin.firstCells size n x).run P w.drew = .ok news.toArray w.drew) ∨
  (∃ s, P.underlying t2 = some .string ∧ x = .string s ∧ n = s.size ∧ news = s.data.toList.map fun b => Value.int .u8 b.toNat)

theorem wrap_small (n : Nat) (h : n ≤ 1048576) : IntKind.i64.wrap (n : Int) = n := by
  simp only [IntKind.wrap, IntKind.signed, IntKind.bits]
  have : (n : Int) % 2 ^ 64 = n := by omega
  simp; omega

theorem extract_all (s : ByteArray) : (s.extract 0 s.size).data = s.data := by
  simp [ByteArray.extract_zero_size]

theorem bytes_small {b n : Nat} (hb : b ≤ 65536) (h : n ≤ 1048576) : ¬ (281474976710656 < (n : Int) * (b : Int)) := by
  have : n * b ≤ 1048576 * 65536 := Nat.mul_le_mul h hb
  have h2 : ((n * b : Nat) : Int) ≤ 1048576 * 65536 := by omega
  rw [Int.natCast_mul] at h2
  omega

section
variable {P : Program} {t t2 ty e : TypeId} {ve : VT} {ei : TypeInfo} {ed : TypeDesc} {ez x : Value} {n sLen sCap : Nat} {news : List Value} {base : Option Addr}

theorem run_app_fits (ht : P.underlying t = some (.slice e)) (oke : TyOk P e ve ei ed ez) (hpos : 0 < ve.size) (hb : ve.bytes ≤ 65536) (hx : AppX P w t2 ve.size ez x n news) (hfit : sLen + n ≤ sCap) (w' : World)
    (hs : ∀ a, base = some a → (storeCells (a.add (sLen * ve.size)) news).run P w = .ok () w') (h0 : base = none → w' = w) :
    (Builtin.append_ #[t, t2] ty #[.slice base sLen sCap, x]).run P w = .ok (.slice base (sLen + n) sCap) w' := by
  have hbi : ei.bytes ≤ 65536 := by rw [← oke.bytes]; exact hb
  rcases hx with ⟨kk, k, hu, rfl, hn, rfl⟩ | ⟨e2, a, c, hu, rfl, hf, _⟩ | ⟨s, hu, rfl, rfl, rfl⟩
  · have h48 := bytes_small hbi hn
    have hng : ¬ ((n : Int) < 0) := by omega
    have hsz := oke.run_size (w := w)
    have hz := oke.run_zero (w := w)
    by_cases hn0 : n = 0
    · subst hn0
      have w0 : IntKind.i64.wrap 0 = 0 := by decide
      cases base with
      | none => have := h0 rfl; subst this; simp at hfit; simp [Builtin.append_, run_underlying ht, run_underlying hu, hsz, asInt, asIntOf, w0, oke.run_info, hfit]
      | some ad =>
        have := hs ad rfl
        simp [Builtin.zeroCells, storeCells] at this
        simp at hfit
        subst this
        simp [Builtin.append_, run_underlying ht, run_underlying hu, hsz, asInt, asIntOf, w0, oke.run_info, hfit, storeCells]
    · have hm : ¬ (n * ve.size = 0) := by have := Nat.mul_pos (Nat.pos_of_ne_zero hn0) hpos; omega
      have hm' : ¬ (n = 0 ∨ ve.size = 0) := by omega
      cases base with
      | none => have := h0 rfl; subst this; simp [Builtin.append_, run_underlying ht, run_underlying hu, hsz, asInt, asIntOf, wrap_small n hn, hng, oke.run_info, h48, hfit, hz]
      | some ad => simp [Builtin.append_, run_underlying ht, run_underlying hu, hsz, asInt, asIntOf, wrap_small n hn, hng, oke.run_info, h48, hfit, hm, hz, hs ad rfl]
  · have hsz := oke.run_size (w := w)
    cases base with
    | none => have := h0 rfl; subst this; simp [Builtin.append_, run_underlying ht, run_underlying hu, hsz, Builtin.lenOf, hfit, hf]
    | some ad => simp [Builtin.append_, run_underlying ht, run_underlying hu, hsz, Builtin.lenOf, hfit, hf, hs ad rfl]
  · have hsz := oke.run_size (w := w)
    have hd : (Array.map (fun b : UInt8 => Value.int .u8 (b.toNat : Int)) s.data).extract 0 s.size = Array.map (fun b : UInt8 => Value.int .u8 (b.toNat : Int)) s.data := by
      have : s.size = (Array.map (fun b : UInt8 => Value.int .u8 (b.toNat : Int)) s.data).size := by simp
      rw [this, Array.extract_size]
    cases base with
    | none => have := h0 rfl; subst this; simp [Builtin.append_, run_underlying ht, run_underlying hu, hsz, Builtin.lenOf, hfit, Builtin.firstCells]
    | some ad =>
      have := hs ad rfl
      simp [Builtin.append_, run_underlying ht, run_underlying hu, hsz, Builtin.lenOf, hfit, Builtin.firstCells, hd, this]

theorem run_app_grow (ht : P.underlying t = some (.slice e)) (oke : TyOk P e ve ei ed ez) (hpos : 0 < ve.size) (hb : ve.bytes ≤ 65536) (hx : AppX P w t2 ve.size ez x n news) (hlc : sLen ≤ sCap) (hg : sCap < sLen + n) (hsm : sLen + n ≤ 1048576)
    (olds : List Value) (ho : (Builtin.firstCells ve.size sLen (.slice base sLen sCap)).run P w.drew = .ok olds.toArray w.drew) :
    (Builtin.append_ #[t, t2] ty #[.slice base sLen sCap, x]).run P w =
      .ok (.slice (some ⟨w.heap.size, 0, none⟩) (sLen + n) (grownCap w (sLen + n) sCap e))
        (w.drew.alloc (.cells (olds.toArray ++ news.toArray ++ Builtin.zeroCells ez.cells (grownCap w (sLen + n) sCap e - (sLen + n))) e)) := by
  have hbi : ei.bytes ≤ 65536 := by rw [← oke.bytes]; exact hb
  have hn : ¬ (sLen + n ≤ sCap) := by omega
  have h63 : ¬ (9223372036854775807 < ((sLen : Int) + (n : Int))) := by omega
  have hfit : ¬ (281474976710656 < Builtin.nextslicecap (sLen + n) sCap * ei.bytes) := by
    have := growslice_fits (need := sLen + n) (old := sCap) (bytes := ei.bytes) hg (by
      have : (sLen + n) * ei.bytes ≤ 1048576 * 65536 := Nat.mul_le_mul hsm hbi
      omega)
    omega
  have hsz := oke.run_size (w := w)
  have hsz' := oke.run_size (w := w.drew)
  have hz := oke.run_zero (w := w.drew)
  rcases hx with ⟨kk, k, hu, rfl, hnn, rfl⟩ | ⟨e2, a, c, hu, rfl, _, hf⟩ | ⟨s, hu, rfl, rfl, rfl⟩
  · have h48 := bytes_small hbi hnn
    have hn0 : n ≠ 0 := by omega
    have hng : ¬ ((n : Int) < 0) := by omega
    have hm' : ¬ (n = 0 ∨ ve.size = 0) := by omega
    have hm : ¬ (n * ve.size = 0) := by have := Nat.mul_pos (Nat.pos_of_ne_zero hn0) hpos; omega
    simp [Builtin.append_, run_underlying ht, run_underlying hu, hsz, asInt, asIntOf, wrap_small n hnn, hng, oke.run_info, h48, hn, h63, hfit, Question.forced, ho, hm, hz, newRow, grownCap]
  · simp [Builtin.append_, run_underlying ht, run_underlying hu, hsz, Builtin.lenOf, hn, h63, hfit, oke.run_info, Question.forced, ho, hf, hz, newRow, grownCap]
    congr 2
    apply Array.ext'
    simp [List.append_assoc]
  · have hd : (Array.map (fun b : UInt8 => Value.int .u8 (b.toNat : Int)) s.data).extract 0 s.size = Array.map (fun b : UInt8 => Value.int .u8 (b.toNat : Int)) s.data := by
      have : s.size = (Array.map (fun b : UInt8 => Value.int .u8 (b.toNat : Int)) s.data).size := by simp
      rw [this, Array.extract_size]
    have hfs : (Builtin.firstCells ve.size s.size (.string s)).run P w.drew = .ok (Array.map (fun b : UInt8 => Value.int .u8 (b.toNat : Int)) s.data) w.drew := by simp [Builtin.firstCells]
    simp [Builtin.append_, run_underlying ht, run_underlying hu, hsz, Builtin.lenOf, hn, h63, hfit, oke.run_info, Question.forced, ho, hfs, hz, newRow, grownCap]
    congr 2
    apply Array.ext'
    simp [List.append_assoc]
end

/-- What an operation that writes is asked for. -/
def Wrote (P : Program) (o : Oper) (σ : Operand → Value) (Γ : Ctx) (w : World) (v : AVal) (m' : Mem) : Prop :=
  ∃ Δ w', Γ.le Δ ∧ MemR Δ m' w' ∧ Step Γ w Δ w' ∧
    ((v = .tup [] ∧ (execOp σ o).run P w = .ok .skip w') ∨ ∃ q, (execOp σ o).run P w = .ok (.value q) w' ∧ VR Δ v q)

theorem heavy_store (hT : TysOk E) (hm : MemR Γ m w) (hρ : ∀ x, VR Γ (ρ x) (σ x)) {call : CallFn} (o : Oper) {t : TypeId} {a x : Operand} (ho : o.op = .store t a x) {v : AVal} {m' : Mem} (h : heavy E call m ρ o.op = some (v, m')) :
    Wrote E.P o σ Γ w v m' := by
  rw [ho] at h
  simp only [heavy] at h
  split at h
  · rename_i vt b ext off cs hg ha hc
    obtain ⟨i, d, z, ok⟩ := hT _ _ hg
    simp only [nbeq, cond_eq_ite, decide_eq_true_eq] at h
    split at h
    · rename_i hl
      simp only [Option.map_eq_some_iff, Prod.mk.injEq] at h
      obtain ⟨m1, hw, rfl, rfl⟩ := h
      obtain ⟨k1, k2⟩ := cells_ok hc (hρ x)
      obtain ⟨cb, tot, Δ, w', e1, e2, e3, e4, e5⟩ := writeCells_ok hm hw k1 k2
      have hv := hρ a
      rw [ha] at hv
      simp only [VR] at hv
      obtain ⟨ad, hσ, _, hk⟩ := hv
      have := (hk _ e1).2 rfl
      subst this
      refine ⟨Δ, w', e3, e4, e5, .inl ⟨rfl, ?_⟩⟩
      have hlen := k1.length
      have hsz : (σ x).cells.size = vt.size := by simp at hlen; omega
      simp [execOp, ho, Instr.storeAt, hσ, Instr.sureAddr, storeVar, ok.run_size, hsz, e2 E.P]
    · cases h
  · cases h

theorem appended_ok (hT : TysOk E) (hm : MemR Γ m w) {ve : VT} {e : TypeId} {ei : TypeInfo} {ed : TypeDesc} {ez : Value} (oke : TyOk E.P e ve ei ed ez) (hz : ve.zero.length = ve.size) {t2 : TypeId} {x : AVal} {u : Value} {k : Nat} {cs : List AVal}
    (h : appended E m ve (some t2) x = some (k, cs)) (hv : VR Γ x u) : ∃ news, AppX E.P w t2 ve.size ez u k news ∧ VRs Γ cs news ∧ (∀ q ∈ news, q.oneCell' = true) ∧ news.length = k * ve.size := by
  have hzl := (oke.zrel (Γ := Γ)).length
  simp only [Array.length_toList] at hzl
  simp only [appended] at h
  split at h
  · rename_i kk _ _ _ _ hg
    obtain ⟨ti, d, z, ok⟩ := hT _ _ hg
    have hd := vdOf_int ok.d.symm
    subst hd
    cases hn : natOf x with
    | none => simp [hn] at h
    | some n =>
      simp only [hn, Option.bind_some, nble, cond_eq_ite, decide_eq_true_eq] at h
      split at h
      · rename_i hle
        simp only [Option.some.injEq, Prod.mk.injEq] at h
        obtain ⟨rfl, rfl⟩ := h
        obtain ⟨k', rfl⟩ := natOf_ok hn hv
        refine ⟨(Builtin.zeroCells ez.cells n).toList, .inl ⟨kk, k', ok.und, rfl, hle, rfl⟩, zeros_rel oke.zrel n _ rfl, ?_, ?_⟩
        · rcases Nat.eq_zero_or_pos ez.cells.size with h0 | h0
          · intro q hq; simp [Builtin.zeroCells, h0] at hq
          · exact zeros_cell oke.cell _ (.inr h0)
        · simp [Builtin.zeroCells]; rw [show ez.cells.size = ve.size by omega]
      · cases h
  · rename_i e2 _ _ _ _ hg
    obtain ⟨ti, d, z, ok⟩ := hT _ _ hg
    have hd := vdOf_slice ok.d.symm
    subst hd
    cases hl : sliceLen x with
    | none => simp [hl] at h
    | some n =>
      simp only [hl, Option.bind_some, Option.map_eq_some_iff, Prod.mk.injEq] at h
      obtain ⟨cs', hc, rfl, rfl⟩ := h
      obtain ⟨a, c, rfl, _⟩ := sliceLen_ok hl hv
      obtain ⟨us, k1, k2, k3, k4, _⟩ := sliceCells_ok (P := E.P) hm.view hc hv
      exact ⟨us, .inr (.inl ⟨e2, a, c, ok.und, rfl, k4 w rfl, k4 w.drew rfl⟩), k1, k3, k2⟩
  · rename_i _ _ _ _ hg
    obtain ⟨ti, d, z, ok⟩ := hT _ _ hg
    have hd := vdOf_str ok.d.symm
    subst hd
    split at h
    · rename_i s
      simp only [nbeq, cond_eq_ite, decide_eq_true_eq] at h
      split at h
      · rename_i h1
        simp only [Option.some.injEq, Prod.mk.injEq] at h
        obtain ⟨rfl, rfl⟩ := h
        simp only [VR] at hv
        subst hv
        refine ⟨_, .inr (.inr ⟨s, ok.und, rfl, rfl, rfl⟩), ?_, ?_, ?_⟩
        · refine VRs.of_get (by simp) (fun i a ha => ?_)
          simp only [List.getElem?_map, Option.map_eq_some_iff] at ha ⊢
          obtain ⟨b, hb, rfl⟩ := ha
          exact ⟨_, ⟨b, hb, rfl⟩, by simp [VR]⟩
        · intro q hq
          simp only [List.mem_map] at hq
          obtain ⟨b, _, rfl⟩ := hq
          rfl
        · simp [h1]
      · cases h
    · cases h
  · cases h
end
end Go.V
end

section
/-
  Append, copy, clear.
-/
namespace Go.V
section
variable {E : Env} {w : World} {Γ : Ctx} {m : Mem} {ρ : Operand → AVal} {σ : Operand → Value}

theorem cellsR_row {cells : List AVal} {us : List Value} (h : VRs Γ cells us) (h1 : ∀ u ∈ us, u.oneCell' = true) (rest : Array Value) : CellsR Γ cells (us.toArray ++ rest) := by
  have hl := h.length
  refine ⟨by simp; omega, fun i a ha => ?_⟩
  obtain ⟨v, hv, hr⟩ := h.get ha
  have hlt := (List.getElem?_eq_some_iff.1 hv).1
  exact ⟨v, by rw [Array.getElem?_append_left (by simpa using hlt)]; simpa using hv, hr, h1 v (List.mem_of_getElem? hv)⟩

theorem alloc_drew (w : World) (o : Obj) : w.drew.alloc o = { w.alloc o with drawn := w.drawn + 1 } := rfl

theorem size_zeroCells' (z : Array Value) (n : Nat) : (Builtin.zeroCells z n).size = n * z.size := by simp [Builtin.zeroCells]

theorem append_ok {P : Program} {t t2 ty e : TypeId} {ve : VT} {ei : TypeInfo} {ed : TypeDesc} {ez x : Value} {k : Nat} {news : List Value} {cs : List AVal} {s v : AVal} {sv : Value} {m' : Mem}
    (hm : MemR Γ m w) (ht : P.underlying t = some (.slice e)) (oke : TyOk P e ve ei ed ez) (hpos : 0 < ve.size) (hb : ve.bytes ≤ 65536) (hz : ve.zero.length = ve.size)
    (hx : AppX P w t2 ve.size ez x k news) (hr : VRs Γ cs news) (h1 : ∀ q ∈ news, q.oneCell' = true) (hl : news.length = k * ve.size) (hs : VR Γ s sv)
    (h : appendTo m e ve s k cs = some (v, m')) :
    ∃ Δ w' q, Γ.le Δ ∧ MemR Δ m' w' ∧ Step Γ w Δ w' ∧ (Builtin.append_ #[t, t2] ty #[sv, x]).run P w = .ok q w' ∧ VR Δ v q := by
  have hzl := (oke.zrel (Γ := Γ)).length
  simp only [Array.length_toList] at hzl
  have hez : ez.cells.size = ve.size := by omega
  have hcl := hr.length
  unfold appendTo at h
  split at h
  · -- nil
    rename_i sure
    simp only [nbeq, nble, nblt, cond_eq_ite, Bool.and_eq_true, decide_eq_true_eq] at h
    simp only [VR] at hs
    obtain ⟨a, rfl, ha⟩ := hs
    split at h
    · rename_i hk
      subst hk
      simp only [Option.some.injEq, Prod.mk.injEq] at h
      obtain ⟨rfl, rfl⟩ := h
      have hn0 : news = [] := List.eq_nil_of_length_eq_zero (by simpa using hl)
      subst hn0
      refine ⟨Γ, w, _, .refl Γ, hm, .refl Γ w, run_app_fits ht oke hpos hb hx (Nat.le_refl _) w (fun a _ => by simp [storeCells]) (fun _ => rfl), ?_⟩
      simp only [VR]
      exact ⟨a, rfl, ha⟩
    · rename_i hk
      split at h
      · rename_i hk20
        obtain ⟨hk2, hsm⟩ := hk20
        simp only [Option.some.injEq, Prod.mk.injEq] at h
        obtain ⟨rfl, rfl⟩ := h
        · have ho : (Builtin.firstCells ve.size 0 (.slice a 0 0)).run P w.drew = .ok ([] : List Value).toArray w.drew := by
            cases a <;> simp [Builtin.firstCells, loadCells, loadCellsFrom]
          have hrun := run_app_grow (ty := ty) ht oke hpos hb hx (Nat.le_refl 0) (by omega) (by omega) [] ho
          have hge := grownCap_ge w (0 + k) 0 e
          have hm2 := hm.still (w' := w.drew) rfl
          have hcells := cellsR_row hr h1 (Builtin.zeroCells ez.cells (grownCap w (0 + k) 0 e - (0 + k)))
          obtain ⟨l1, l2, l3⟩ := hm2.add hsm (blk := ⟨e, cs, 0⟩) hcells
          refine ⟨_, _, _, l1, l2, (Step.still (w := w) (w' := w.drew) rfl rfl rfl rfl).trans l3, by simpa using hrun, ?_⟩
          simp only [VR, Nat.zero_add]
          refine ⟨_, _, rfl, Nat.le_refl _, by simpa using hge, by simp, by simp [Ctx.set], fun i hi => ?_⟩
          simp only [Ctx.set, if_true, Option.some.injEq] at hi
          subst hi
          refine ⟨by show k * ve.size ≤ cs.length; omega, fun _ => ⟨rfl, ?_⟩⟩
          simp only [Nat.zero_add] at hge
          simp only [Array.size_append, List.size_toArray, size_zeroCells', hez, hl, ← Nat.add_mul]
          rw [show k + (grownCap w k 0 e - k) = grownCap w k 0 e by omega]
          exact Nat.le_refl _
      · cases h
  · -- a block
    rename_i b ext off n lo exact sz
    have hs0 := hs
    simp only [VR] at hs
    obtain ⟨a, c, rfl, hnl, hlc, hex, hbn, hk⟩ := hs
    simp only [nbeq, nble, nblt, cond_eq_ite, decide_eq_true_eq, Bool.or_eq_true, Bool.not_eq_true', decide_eq_false_iff_not] at h
    split at h
    · rename_i hk0
      subst hk0
      simp only [Option.some.injEq, Prod.mk.injEq] at h
      obtain ⟨rfl, rfl⟩ := h
      have hn0 : news = [] := List.eq_nil_of_length_eq_zero (by simpa using hl)
      subst hn0
      exact ⟨Γ, w, _, .refl Γ, hm, .refl Γ w, run_app_fits ht oke hpos hb hx (by omega) w (fun a _ => by simp [storeCells]) (fun _ => rfl), hs0⟩
    · rename_i hk0
      split at h
      · cases h
      · rename_i hcond
        have hsz : sz = ve.size := by
          apply Classical.byContradiction
          intro hne
          exact hcond (.inl hne)
        have hsm : n + k ≤ 1048576 := by
          apply Classical.byContradiction
          intro hne
          exact hcond (.inr hne)
        subst hsz
        split at h
        · -- room that is known
          rename_i hfit
          simp only [Option.map_eq_some_iff, Prod.mk.injEq] at h
          obtain ⟨m1, hw, rfl, rfl⟩ := h
          obtain ⟨cb, tot, Δ, w', e1, e2, e3, e4, e5⟩ := writeCells_ok hm hw hr h1
          obtain ⟨ha, htot⟩ := (hk _ e1).2 rfl
          subst ha
          have hrun := run_app_fits (ty := ty) (base := some ⟨cb, off, none⟩) (sLen := n) (sCap := c) ht oke hpos hb hx (by omega) w' (fun a ha => by
            cases ha
            rw [Addr_add]
            exact e2 P) (fun h0 => by cases h0)
          refine ⟨Δ, w', _, e3, e4, e5, hrun, VR.mono e3 _ _ ?_⟩
          simp only [VR]
          refine ⟨_, c, rfl, hfit, hlc, hex, hbn, hk⟩
        · rename_i hnofit
          split at h
          · rename_i B hB
            split at h
            · cases h
            · rename_i he
              have he : B.cells.length = ext := by simpa using he
              obtain ⟨_, cb, css, g1, g2, g3, g4⟩ := hm.cellsR hB
              obtain ⟨ha, htot⟩ := (hk _ g1).2 he.symm
              subst ha
              split at h
              · -- its capacity is known: a new block
                rename_i hexact
                split at h
                · cases h
                · rename_i hsmall0
                  have hsmall : m.next < 1048576 := by omega
                  simp only [Option.map_eq_some_iff, Prod.mk.injEq] at h
                  obtain ⟨old, hold, rfl, rfl⟩ := h
                  have hce := hex hexact
                  have hsc : sliceCells m (.ref b ext off n lo exact ve.size) n ve.size = some old := by
                    simp [sliceCells, nble, cond_eq_ite, hB, he, hold]
                  obtain ⟨us, u1, u2, u3, u4, _⟩ := sliceCells_ok (P := P) hm.view hsc hs0
                  have hrun := run_app_grow (ty := ty) ht oke hpos hb hx (by omega) (by omega) hsm us (u4 w.drew rfl)
                  have hge := grownCap_ge w (n + k) c e
                  have hm2 := hm.still (w' := w.drew) rfl
                  have hcells := cellsR_row (u1.append hr) (fun u hu => (List.mem_append.1 hu).elim (u3 u) (h1 u)) (Builtin.zeroCells ez.cells (grownCap w (n + k) c e - (n + k)))
                  obtain ⟨l1, l2, l3⟩ := hm2.add hsmall (blk := ⟨e, old ++ cs, 0⟩) hcells
                  refine ⟨_, _, _, l1, l2, (Step.still (w := w) (w' := w.drew) rfl rfl rfl rfl).trans l3, by simpa using hrun, ?_⟩
                  simp only [VR]
                  refine ⟨_, _, rfl, Nat.le_refl _, hge, by simp, by simp [Ctx.set], fun i hi => ?_⟩
                  simp only [Ctx.set, if_true, Option.some.injEq] at hi
                  subst hi
                  have u1l := u1.length
                  refine ⟨by show (n + k) * ve.size ≤ (old ++ cs).length; rw [List.length_append, Nat.add_mul]; omega, fun _ => ⟨rfl, ?_⟩⟩
                  simp only [Array.size_append, List.size_toArray, List.length_append, size_zeroCells', hez, hl, u2, Nat.zero_add, ← Nat.add_mul]
                  rw [show n + k + (grownCap w (n + k) c e - (n + k)) = grownCap w (n + k) c e by omega]
                  exact Nat.le_refl _
              · split at h
                · -- it grows
                  rename_i hne hc4
                  simp only [Bool.and_eq_true, decide_eq_true_eq] at hc4
                  obtain ⟨⟨⟨hoff, hfull⟩, hty⟩, hfz⟩ := hc4
                  simp only [Option.some.injEq, Prod.mk.injEq] at h
                  obtain ⟨rfl, rfl⟩ := h
                  subst hoff
                  have hkpos : 0 < k * ve.size := Nat.mul_pos (Nat.pos_of_ne_zero hk0) hpos
                  have hgrow : B.cells.length < (B.cells ++ cs).length := by rw [List.length_append]; omega
                  have hlenN : (n + k) * ve.size = (B.cells ++ cs).length := by rw [List.length_append, Nat.add_mul]; omega
                  by_cases hroom : n + k ≤ c
                  · -- in place
                    have hle : B.cells.length + news.length ≤ css.size := by
                      have : (n + k) * ve.size ≤ c * ve.size := Nat.mul_le_mul_right _ hroom
                      rw [Nat.add_mul] at this
                      have htot' : 0 + c * ve.size ≤ css.size := htot
                      omega
                    have hst := run_storeCells_at P cb B.cells.length B.ty news 0 css w g2 (by omega) h1
                    simp only [Nat.add_zero] at hst
                    have hrun := run_app_fits (ty := ty) (base := some ⟨cb, 0, none⟩) (sLen := n) (sCap := c) ht oke hpos hb hx hroom (w.setRow cb (rowPut css B.cells.length news)) (fun a ha => by
                      cases ha
                      rw [Addr_add, Nat.zero_add, hfull, ← he]
                      exact hst) (fun h0 => by cases h0)
                    obtain ⟨l1, l2, l3⟩ := hm.change (w' := w.setRow cb (rowPut css B.cells.length news)) (B' := { B with cells := B.cells ++ cs }) (cs' := rowPut css B.cells.length news) (cb' := cb) hB g1 (setRow_heap w cb css _ _ _ g2)
                      (fun k hk _ => setRow_other w cb k _ hk) (by simp) (.inl rfl) (.inl hgrow) (rowPut_grow g3 hr h1 hle) (fun i v hv => by
                        have hv' := hm.ro cb i v hv
                        rw [cell_of_heap g2] at hv'
                        rw [cell_setRow_same w cb i css _ _ _ g2, rowPut_get _ _ _ hle, if_neg, hv']
                        intro hi
                        rw [g4 i (by omega)] at hv
                        cases hv) g4 rfl rfl rfl
                    refine ⟨_, _, _, l1, l2, l3, hrun, ?_⟩
                    simp only [VR]
                    refine ⟨_, _, rfl, Nat.le_refl _, hroom, by simp, by simp [Ctx.set], fun i hi => ?_⟩
                    simp only [Ctx.set, if_true, Option.some.injEq] at hi
                    subst hi
                    refine ⟨by show (n + k) * ve.size ≤ (B.cells ++ cs).length; omega, fun _ => ⟨rfl, ?_⟩⟩
                    rw [rowPut_size _ _ _ hle]
                    exact htot
                  · -- elsewhere
                    have hsc : sliceCells m (.ref b ext 0 n lo exact ve.size) n ve.size = some B.cells := by
                      simp [sliceCells, nble, cond_eq_ite, hB, he, lget, hfull]
                      rw [List.take_of_length_le (by omega)]
                    obtain ⟨us, u1, u2, u3, u4, _⟩ := sliceCells_ok (P := P) hm.view hsc hs0
                    have hrun := run_app_grow (ty := ty) ht oke hpos hb hx (by omega) (by omega) hsm us (u4 w.drew rfl)
                    have hge := grownCap_ge w (n + k) c e
                    have hcells := cellsR_row (u1.append hr) (fun u hu => (List.mem_append.1 hu).elim (u3 u) (h1 u)) (Builtin.zeroCells ez.cells (grownCap w (n + k) c e - (n + k)))
                    have hold : ∀ j, j < w.heap.size → (w.drew.alloc (.cells ((us ++ news).toArray ++ Builtin.zeroCells ez.cells (grownCap w (n + k) c e - (n + k))) e)).heap[j]? = w.heap[j]? := fun j hj => Go.RowKit.Below.heap_alloc w.drew _ j hj
                    obtain ⟨l1, l2, l3⟩ := hm.change (w' := w.drew.alloc (.cells ((us ++ news).toArray ++ Builtin.zeroCells ez.cells (grownCap w (n + k) c e - (n + k))) e)) (B' := { B with cells := B.cells ++ cs })
                      (cs' := (us ++ news).toArray ++ Builtin.zeroCells ez.cells (grownCap w (n + k) c e - (n + k))) (cb' := w.heap.size) hB g1 (by rw [hty]; exact heap_alloc_new w.drew _)
                      (fun j _ hj => hold j hj) (by simp) (.inr (Nat.le_refl _)) (.inl hgrow) hcells (fun i v hv => by
                        have hv' := hm.ro cb i v hv
                        simpa [World.cell?, hold cb (hm.ro_lt hv)] using hv') (fun i _ => by
                        cases hv : Γ.ro w.heap.size i with
                        | none => rfl
                        | some v => have := hm.ro_lt hv; omega) rfl rfl rfl
                    refine ⟨_, _, _, l1, l2, l3, by simpa using hrun, ?_⟩
                    simp only [VR]
                    refine ⟨_, _, rfl, Nat.le_refl _, hge, by simp, by simp [Ctx.set], fun i hi => ?_⟩
                    simp only [Ctx.set, if_true, Option.some.injEq] at hi
                    subst hi
                    refine ⟨by show (n + k) * ve.size ≤ (B.cells ++ cs).length; omega, fun _ => ⟨rfl, ?_⟩⟩
                    simp only [Array.size_append, List.size_toArray, List.length_append, size_zeroCells', hez, hl, u2, Nat.zero_add, ← Nat.add_mul]
                    rw [show n + k + (grownCap w (n + k) c e - (n + k)) = grownCap w (n + k) c e by omega]
                    exact Nat.le_refl _
                · cases h
          · cases h
  · cases h
end
end Go.V
end

section
/-
  All operations that write, but for calls.
-/
namespace Go.V
section
variable {E : Env} {w : World} {Γ : Ctx} {m : Mem} {ρ : Operand → AVal} {σ : Operand → Value}

theorem heavy_append (hT : TysOk E) (hm : MemR Γ m w) (hρ : ∀ x, VR Γ (ρ x) (σ x)) {call : CallFn} (o : Oper) {args : Array Operand} {argTypes : Array TypeId} (ho : o.op = .call { callee := .builtin .append, args, argTypes })
    {v : AVal} {m' : Mem} (h : heavy E call m ρ o.op = some (v, m')) : Wrote E.P o σ Γ w v m' := by
  rw [ho] at h
  simp only [heavy] at h
  split at h
  · rename_i s x t ts ha ht
    have ha' : args = #[s, x] := Array.ext' ha
    subst ha'
    split at h
    · rename_i e _ _ _ _ hg
      obtain ⟨ti, d, z, ok⟩ := hT _ _ hg
      have hd := vdOf_slice ok.d.symm
      subst hd
      split at h
      · rename_i ve hve
        obtain ⟨ei, ed, ez, oke⟩ := hT _ _ hve
        simp only [nblt, nble, nbeq, cond_eq_ite, Bool.and_eq_true, decide_eq_true_eq] at h
        split at h
        · rename_i hc
          obtain ⟨⟨⟨c1, c2⟩, c3⟩, c4⟩ := hc
          cases hap : appended E m ve ts.head? (ρ x) with
          | none => simp [hap] at h
          | some r =>
            obtain ⟨k, cs⟩ := r
            simp only [hap, Option.bind_some] at h
            cases ts with
            | nil => simp [appended] at hap
            | cons t2 ts' =>
              simp only [List.head?_cons] at hap
              obtain ⟨news, n1, n2, n3, n4⟩ := appended_ok hT hm oke c4 hap (hρ x)
              have key : ∀ ty, ∃ Δ w' q, Γ.le Δ ∧ MemR Δ m' w' ∧ Step Γ w Δ w' ∧ (Builtin.append_ #[t, t2] ty #[σ s, σ x]).run E.P w = .ok q w' ∧ VR Δ v q := fun ty =>
                append_ok hm ok.und oke c1 c3 c4 n1 n2 n3 n4 (hρ s) h
              obtain ⟨Δ, w', q, k1, k2, k3, k4, k5⟩ := key o.type
              refine ⟨Δ, w', k1, k2, k3, .inr ⟨q, ?_, k5⟩⟩
              have e1 : (Builtin.append_ argTypes o.type #[σ s, σ x]).run E.P w = .ok q w' := by
                rw [← k4]
                have h0 : argTypes[0]? = some t := by rw [← Array.getElem?_toList, ht]; rfl
                have h1 : argTypes[1]? = some t2 := by rw [← Array.getElem?_toList, ht]; rfl
                simp only [Builtin.append_, h0, h1]
                rfl
              simp [execOp, ho, resolve, invoke, builtin, e1]
        · cases h
      · cases h
    · cases h
  · cases h

theorem heavy_copy (hT : TysOk E) (hm : MemR Γ m w) (hρ : ∀ x, VR Γ (ρ x) (σ x)) {call : CallFn} (o : Oper) {args : Array Operand} {argTypes : Array TypeId} (ho : o.op = .call { callee := .builtin .copy, args, argTypes })
    {v : AVal} {m' : Mem} (h : heavy E call m ρ o.op = some (v, m')) : Wrote E.P o σ Γ w v m' := by
  rw [ho] at h
  simp only [heavy] at h
  split at h
  · rename_i d s t ts ha ht
    have ha' : args = #[d, s] := Array.ext' ha
    subst ha'
    have h0 : argTypes[0]? = some t := by rw [← Array.getElem?_toList, ht]; rfl
    split at h
    · rename_i e _ _ _ _ hg
      obtain ⟨ti, dd, z, ok⟩ := hT _ _ hg
      have hd := vdOf_slice ok.d.symm
      subst hd
      split at h
      · rename_i ve hve
        obtain ⟨ei, ed, ez, oke⟩ := hT _ _ hve
        cases hdn : sliceLen (ρ d) with
        | none => simp [hdn] at h
        | some dn =>
          cases hsn : sliceLen (ρ s) with
          | none => simp [hdn, hsn] at h
          | some sn =>
            simp only [hdn, hsn, Option.bind_some] at h
            cases hcs : sliceCells m (ρ s) (Nat.min sn dn) ve.size with
            | none => simp [hcs] at h
            | some cs =>
              simp only [hcs, Option.bind_some] at h
              obtain ⟨us, u1, u2, u3, u4, _⟩ := sliceCells_ok (P := E.P) hm.view hcs (hρ s)
              obtain ⟨sa, sc, hσs, _⟩ := sliceLen_ok hsn (hρ s)
              have hv := hρ d
              split at h
              · rename_i b ext off k lo ex sz hd
                rw [hd] at hv hdn
                simp only [sliceLen, Option.some.injEq] at hdn
                subst hdn
                simp only [VR] at hv
                obtain ⟨a, c, hσd, _, _, _, _, hk⟩ := hv
                simp only [Option.map_eq_some_iff, Prod.mk.injEq] at h
                obtain ⟨m1, hw, rfl, rfl⟩ := h
                obtain ⟨cb, tot, Δ, w', e1, e2, e3, e4, e5⟩ := writeCells_ok hm hw u1 u3
                obtain ⟨hae, _⟩ := (hk _ e1).2 rfl
                subst hae
                refine ⟨Δ, w', e3, e4, e5, .inr ⟨.int .i64 (Nat.min sn k), ?_, by simp [VR]⟩⟩
                have u4' := u4 w rfl
                have e2' := e2 E.P
                rw [hσs] at u4'
                simp [execOp, ho, resolve, invoke, builtin, Builtin.copy_, h0, ok.run_und, hσd, hσs, Builtin.lenOf, oke.run_size, u4', e2', goInt]
              · rename_i su hd
                rw [hd] at hv hdn
                simp only [sliceLen, Option.some.injEq] at hdn
                subst hdn
                simp only [VR] at hv
                obtain ⟨a, hσd, _⟩ := hv
                simp only [nbeq, cond_eq_ite, decide_eq_true_eq] at h
                split at h
                · rename_i h00
                  simp only [Option.some.injEq, Prod.mk.injEq] at h
                  obtain ⟨rfl, rfl⟩ := h
                  rw [h00] at u2 u4
                  have hun : us = [] := List.eq_nil_of_length_eq_zero (by simpa using u2)
                  subst hun
                  refine ⟨Γ, w, .refl Γ, hm, .refl Γ w, .inr ⟨.int .i64 0, ?_, by simp [VR]⟩⟩
                  have u4' := u4 w rfl
                  rw [hσs] at u4'
                  have hmin : sn.min 0 = 0 := h00
                  cases a <;> simp [execOp, ho, resolve, invoke, builtin, Builtin.copy_, h0, ok.run_und, hσd, hσs, Builtin.lenOf, oke.run_size, u4', goInt, storeCells]
                · cases h
              · cases h
      · cases h
    · cases h
  · cases h

theorem heavy_clear (hT : TysOk E) (hm : MemR Γ m w) (hρ : ∀ x, VR Γ (ρ x) (σ x)) {call : CallFn} (o : Oper) {args : Array Operand} {argTypes : Array TypeId} (ho : o.op = .call { callee := .builtin .clear, args, argTypes })
    {v : AVal} {m' : Mem} (h : heavy E call m ρ o.op = some (v, m')) : Wrote E.P o σ Γ w v m' := by
  rw [ho] at h
  simp only [heavy] at h
  split at h
  · rename_i x t ts ha ht
    have ha' : args = #[x] := Array.ext' ha
    subst ha'
    have h0 : argTypes[0]? = some t := by rw [← Array.getElem?_toList, ht]; rfl
    split at h
    · rename_i e _ _ _ _ hg
      obtain ⟨ti, dd, z, ok⟩ := hT _ _ hg
      have hd := vdOf_slice ok.d.symm
      subst hd
      split at h
      · rename_i ve hve
        obtain ⟨ei, ed, ez, oke⟩ := hT _ _ hve
        have hv := hρ x
        split at h
        · rename_i b ext off n lo ex sz hx
          rw [hx] at hv
          simp only [VR] at hv
          obtain ⟨a, c, hσ, _, _, _, _, hk⟩ := hv
          simp only [nbeq, cond_eq_ite, decide_eq_true_eq] at h
          split at h
          · rename_i hn0
            subst hn0
            simp only [Option.some.injEq, Prod.mk.injEq] at h
            obtain ⟨rfl, rfl⟩ := h
            exact ⟨Γ, w, .refl Γ, hm, .refl Γ w, .inr ⟨.tuple #[], by simp [execOp, ho, resolve, invoke, builtin, Builtin.clear_, h0, ok.run_und, hσ], by simp only [VR]; exact ⟨_, rfl, by simp [VRs]⟩⟩⟩
          · rename_i hn0
            split at h
            · rename_i hz
              simp only [Option.map_eq_some_iff, Prod.mk.injEq] at h
              obtain ⟨m1, hw, rfl, rfl⟩ := h
              have hzl := (oke.zrel (Γ := Γ)).length
              simp only [Array.length_toList] at hzl
              have hzr : VRs Γ (zeros ve.zero n) (Builtin.zeroCells ez.cells n).toList := zeros_rel oke.zrel n _ rfl
              have hz1 : ∀ u ∈ (Builtin.zeroCells ez.cells n).toList, u.oneCell' = true := by
                rcases Nat.eq_zero_or_pos ez.cells.size with h0 | h0
                · intro q hq; simp [Builtin.zeroCells, h0] at hq
                · exact zeros_cell oke.cell _ (.inr h0)
              obtain ⟨cb, tot, Δ, w', e1, e2, e3, e4, e5⟩ := writeCells_ok hm hw hzr hz1
              obtain ⟨hae, _⟩ := (hk _ e1).2 rfl
              subst hae
              refine ⟨Δ, w', e3, e4, e5, .inr ⟨.tuple #[], ?_, by simp only [VR]; exact ⟨_, rfl, by simp [VRs]⟩⟩⟩
              have e2' := e2 E.P
              obtain ⟨n', rfl⟩ : ∃ n', n = n' + 1 := ⟨n - 1, by omega⟩
              simp [execOp, ho, resolve, invoke, builtin, Builtin.clear_, h0, ok.run_und, hσ, oke.run_zero, e2']
            · cases h
        · rename_i su hx
          rw [hx] at hv
          simp only [VR] at hv
          obtain ⟨a, hσ, _⟩ := hv
          simp only [Option.some.injEq, Prod.mk.injEq] at h
          obtain ⟨rfl, rfl⟩ := h
          refine ⟨Γ, w, .refl Γ, hm, .refl Γ w, .inr ⟨.tuple #[], ?_, by simp only [VR]; exact ⟨_, rfl, by simp [VRs]⟩⟩⟩
          cases a <;> simp [execOp, ho, resolve, invoke, builtin, Builtin.clear_, h0, ok.run_und, hσ]
        · rename_i cells hx
          rw [hx] at hv
          simp only [VR] at hv
          obtain ⟨a, c, hσ, _⟩ := hv
          simp only [Option.some.injEq, Prod.mk.injEq] at h
          obtain ⟨rfl, rfl⟩ := h
          refine ⟨Γ, w, .refl Γ, hm, .refl Γ w, .inr ⟨.tuple #[], ?_, by simp only [VR]; exact ⟨_, rfl, by simp [VRs]⟩⟩⟩
          cases a <;> simp [execOp, ho, resolve, invoke, builtin, Builtin.clear_, h0, ok.run_und, hσ]
        · cases h
      · cases h
    · cases h
  · cases h

def isCall : Op → Bool
  | .call { callee := .builtin _, .. } => false
  | .call _ => true
  | _ => false

theorem heavy_chan (hm : MemR Γ m w) (hρ : ∀ x, VR Γ (ρ x) (σ x)) {call : CallFn} (o : Oper) {t : TypeId} {x : Operand} (ho : o.op = .makeChan t x) {v : AVal} {m' : Mem} (h : heavy E call m ρ o.op = some (v, m')) : Wrote E.P o σ Γ w v m' := by
  rw [ho] at h
  simp only [heavy] at h
  split at h
  · rename_i n hn
    rw [cond_eq_ite] at h
    split at h
    · rename_i hc
      cases h
      rw [Bool.and_eq_true, Bool.and_eq_true, nble, nblt, decide_eq_true_eq, decide_eq_true_eq] at hc
      obtain ⟨k, hk⟩ := natOf_ok hn (hρ x)
      have ht := hc.1.2
      unfold chanOkB at ht
      split at ht
      · rename_i dir e hu
        split at ht
        · rename_i i hi
          rw [nble, decide_eq_true_eq] at ht
          have hb : ((i.bytes * n : Nat) : Int) ≤ 65536 * 1048576 := by
            have := Nat.mul_le_mul ht hc.1.1
            omega
          have hr : (Instr.makeChan t (.int k n)).run E.P w = .ok (.chan (some w.heap.size)) (w.alloc (.chan n #[] false 0 0 false)) := Conc.run_makeChan hu hi k n (by have := hc.1.1; omega) (by rw [← Int.natCast_mul]; omega)
          obtain ⟨l1, l2, l3⟩ := hm.addC hc.2 n
          refine ⟨_, _, l1, l2, l3, .inr ⟨.chan (some w.heap.size), ?_, by simp only [VR]; exact ⟨_, rfl, .inl rfl, fun i hi _ => by simp only [Ctx.set, if_true, Option.some.injEq] at hi; rw [← hi]⟩⟩⟩
          unfold execOp
          rw [ho]
          simp only [hk, Sem.run_bind, hr, Result.andThen_ok, Sem.run_pure]
        · cases ht
      · cases ht
    · cases h
  · cases h

theorem heavy_wrote (hT : TysOk E) (hm : MemR Γ m w) (hρ : ∀ x, VR Γ (ρ x) (σ x)) {call : CallFn} (o : Oper) (hc : isCall o.op = false) {v : AVal} {m' : Mem} (h : heavy E call m ρ o.op = some (v, m')) : Wrote E.P o σ Γ w v m' := by
  cases ho : o.op with
  | store t a x => exact heavy_store hT hm hρ o ho h
  | makeChan t x => exact heavy_chan hm hρ o ho h
  | call c =>
    obtain ⟨callee, args, argTypes⟩ := c
    cases callee with
    | value f => rw [ho] at hc; simp [isCall] at hc
    | invoke r n => rw [ho] at hc; simp [isCall] at hc
    | builtin b =>
      cases b with
      | append => exact heavy_append hT hm hρ o ho h
      | copy => exact heavy_copy hT hm hρ o ho h
      | clear => exact heavy_clear hT hm hρ o ho h
      | _ => rw [ho] at h; simp [heavy] at h
  | _ => rw [ho] at h; simp [heavy] at h
end
end Go.V
end

section
/-
  One operation of a frame, and a region in the order of its text.
-/
namespace Go.V

/-- What is asked of the function that carries out calls. -/
structure CallOk (E : Env) (Γ0 : Ctx) (call : CallFn) : Prop where
  dom : ∀ b, ¬ Γ0.dom b
  fn : ∀ f args m r, call f args m = some r → ∃ fn, E.P.funcs[f]? = some fn ∧ fn.name ≠ "runtime.NumGoroutine" ∧ fn.body.isSome = true
  ok : ∀ f args m v m', call f args m = some (v, m') → ∀ (Γ : Ctx) (vs : Array Value) (w : World), Γ0.le Γ → VRs Γ args vs.toList → MemR Γ m w →
    Calls E.P f vs w fun e w' => ∃ Δ u, e = .returned u ∧ Γ.le Δ ∧ VR Δ v u ∧ Step Γ w Δ w' ∧ MemR Δ m' w'

section
variable {E : Env} {w : World} {Γ0 Γ : Ctx} {m : Mem} {st : St} {a : Act} {call : CallFn}

theorem StR.ev (h : StR Γ0 Γ st a w) (x : Operand) : VR Γ (st.ev x) (a.eval x) := by
  cases x with
  | tmp t => exact h.slot t
  | const v => exact VR_ofConst Γ v
  | global g => simp [St.ev, VR]
  | func f => simp only [St.ev, Act.eval, VR]; exact ⟨_, _, rfl, by simp [VRs], by simp [VRs]⟩

theorem wanted_slots (ops : List Oper) (o : Oper) {b : Bool} (h : wanted ops st o = some b) (hs : ∀ j want d, o.guard = some (j, want) → (ops.toArray[j]?).bind (·.dst) = some d → VR Γ (st.slot d) (a.tmps.getD d undef)) : Region.wanted o (yielded ops.toArray a.tmps) = b := by
  unfold wanted at h
  unfold Region.wanted
  cases hg : o.guard with
  | none => simp [hg] at h; simp [← h]
  | some g =>
    obtain ⟨j, want⟩ := g
    simp only [hg] at h ⊢
    split at h
    · rename_i d _ _ _ _ _ hj
      have hj' : (ops.toArray[j]?).bind (·.dst) = some d := by simp [hj]
      have hv := hs j want d hg hj'
      split at h
      · rename_i c hc
        rw [hc] at hv
        simp only [VR] at hv
        simp only [Option.some.injEq] at h
        have ht : a.tmps[d]? = some (.bool c) := by
          cases hh : a.tmps[d]? with
          | none => rw [Array.getD_eq_getD_getElem?, hh] at hv; cases hv
          | some u => rw [Array.getD_eq_getD_getElem?, hh] at hv; exact congrArg some hv
        simp only [yielded, hj', Option.bind_some, ht]
        rw [← h]
        cases c <;> cases want <;> rfl
      · rename_i vs hc
        rw [hc] at hv
        simp only [VR] at hv
        obtain ⟨us, hus, _⟩ := hv
        simp only [Option.some.injEq] at h
        subst h
        have : yielded ops.toArray a.tmps j = none := by
          simp only [yielded, hj', Option.bind_some]
          cases hh : a.tmps[d]? with
          | none => rfl
          | some u =>
            rw [Array.getD_eq_getD_getElem?, hh] at hus
            have hus : u = _ := hus
            subst hus
            rfl
        rw [this]
        rfl
      · cases h
    · cases h

theorem StR.put (h : StR Γ0 Γ st a w) {dst : Option Nat} {v : AVal} {q : Value} {st' : St} (hp : st.put dst v = some st') (hv : VR Γ v q) : StR Γ0 Γ st' (a.put dst q) w := by
  cases dst with
  | none => simp only [St.put, Option.some.injEq] at hp; subst hp; exact h
  | some d =>
    simp only [St.put, nblt, cond_eq_ite, decide_eq_true_eq] at hp
    split at hp
    · rename_i hlt
      simp only [Option.some.injEq] at hp
      subst hp
      have hsm := h.small
      refine ⟨h.mem, fun x u hx => ?_, by simpa [Act.put] using h.nt, h.small, h.defers, h.base⟩
      rw [Slots.get_put _ _ _ _ (by omega)] at hx
      have hd : d < a.tmps.size := by rw [h.nt]; exact hlt
      split at hx
      · rename_i e
        subst e
        simp only [Option.some.injEq] at hx
        subst hx
        simpa [Act.put, hd] using hv
      · rename_i e
        have := h.slots x u hx
        have hne : d ≠ x := fun e' => e e'.symm
        simpa [Act.put, Array.getElem?_setIfInBounds_ne hne] using this
    · cases hp

theorem StR.step (h : StR Γ0 Γ st a w) {Δ : Ctx} {m' : Mem} {w' : World} (hl : Γ.le Δ) (hm : MemR Δ m' w') : StR Γ0 Δ { st with mem := m' } a w' :=
  ⟨hm, fun d v hv => VR.mono hl _ _ (h.slots d v hv), h.nt, h.small, h.defers, h.base.trans hl⟩

theorem St.put_fields {dst : Option Nat} {v : AVal} {st st' : St} (hp : st.put dst v = some st') : st'.fn = st.fn ∧ st'.nt = st.nt ∧ st'.mem = st.mem := by
  cases dst with
  | none => simp only [St.put, Option.some.injEq] at hp; subst hp; exact ⟨rfl, rfl, rfl⟩
  | some d =>
    simp only [St.put, cond_eq_ite] at hp
    split at hp
    · simp only [Option.some.injEq] at hp; subst hp; exact ⟨rfl, rfl, rfl⟩
    · cases hp

/-- An operation that writes or calls. -/
theorem heavy_wp (hT : TysOk E) (hC : CallOk E Γ0 call) (hb : Γ0.le Γ) (hm : MemR Γ m w) {ρ : Operand → AVal} (hρ : ∀ x, VR Γ (ρ x) (a.eval x)) (o : Oper) {v : AVal} {m' : Mem} (h : heavy E call m ρ o.op = some (v, m'))
    {K : Act → World → Prop} {Q : Exit → Act → World → Prop} (hK : ∀ Δ q w', Γ.le Δ → VR Δ v q → Step Γ w Δ w' → MemR Δ m' w' → K (a.put o.dst q) w') : o.wp E.P a w K Q := by
  cases hc : isCall o.op with
  | false =>
    obtain ⟨Δ, w', k1, k2, k3, k4⟩ := heavy_wrote hT hm hρ o hc h
    unfold Oper.wp
    rcases k4 with ⟨rfl, k4⟩ | ⟨q, k4, k5⟩
    · rw [k4, Oper.upon_skip]
      exact hK Δ undef w' k1 (by simp only [VR]; exact ⟨#[], rfl, by simp [VRs]⟩) k3 k2
    · rw [k4, Oper.upon_value]
      exact hK Δ q w' k1 k5 k3 k2
  | true =>
    cases ho : o.op with
    | call c =>
      obtain ⟨callee, args, argTypes⟩ := c
      cases callee with
      | builtin b => rw [ho] at hc; simp [isCall] at hc
      | invoke r n => rw [ho] at h; simp [heavy] at h
      | value f =>
        rw [ho] at h
        simp only [heavy] at h
        split at h
        · rename_i g first captured hf
          have hv := hρ f
          rw [hf] at hv
          simp only [VR] at hv
          obtain ⟨us, vs, hσ, h1, h2⟩ := hv
          obtain ⟨fn, e1, e2, e3⟩ := hC.fn _ _ _ _ h
          have e3' : ¬ (fn.body = none) := by intro e0; simp [e0] at e3
          have hrun : (execOp a.eval o).run E.P w = .ok (.enter g ((us ++ args.map a.eval) ++ vs)) w := by
            simp [execOp, ho, resolve, Deferred.ofValue, hσ, invoke, callFunc, e1, e2, e3']
          unfold Oper.wp
          rw [hrun, Oper.upon_enter]
          have hargs : VRs Γ (first ++ args.toList.map ρ ++ captured) ((us ++ args.map a.eval) ++ vs).toList := by
            simp only [Array.toList_append, Array.toList_map]
            exact (h1.append (VRs_map args.toList hρ)).append h2
          refine (hC.ok _ _ _ _ _ h Γ _ w hb hargs hm).mono (fun e w' he => ?_)
          obtain ⟨Δ, u, rfl, k1, k2, k3, k4⟩ := he
          exact hK Δ u w' k1 k2 k3 k4
        · cases h
    | _ => rw [ho] at hc; simp [isCall] at hc

/-- One operation, as it stands next. -/
theorem runOp_wp (hT : TysOk E) (hC : CallOk E Γ0 call) (ops : List Oper) {o : Oper} {st' : St} (h : runOp E call ops st o = some st') (hs : StR Γ0 Γ st a w)
    {K : Act → World → Prop} {Q : Exit → Act → World → Prop} (hK : ∀ Δ a' w', Γ.le Δ → Step Γ w Δ w' → StR Γ0 Δ st' a' w' → K a' w') :
    if Region.wanted o (yielded ops.toArray a.tmps) then o.wp E.P a w K Q else K (a.put o.dst undef) w := by
  unfold runOp at h
  split at h
  · cases h
  · rename_i hw
    rw [wanted_slots ops o hw (fun _ _ d _ _ => hs.slot d)]
    simp only [Bool.false_eq_true, if_false]
    exact hK Γ _ w (.refl Γ) (.refl Γ w) (hs.put h (by simp only [VR]; exact ⟨#[], rfl, by simp [VRs]⟩))
  · rename_i hw
    rw [wanted_slots ops o hw (fun _ _ d _ _ => hs.slot d)]
    simp only [if_true]
    cases hh : isHeavy o.op with
    | true =>
      simp only [hh, cond_true] at h
      split at h
      · rename_i v m' hv
        refine heavy_wp hT hC hs.base hs.mem hs.ev o hv (fun Δ q w' k1 k2 k3 k4 => ?_)
        exact hK Δ _ w' k1 k3 ((hs.step k1 k4).put h k2)
      · cases h
    | false =>
      simp only [hh, cond_false] at h
      split at h
      · rename_i v hv
        obtain ⟨q, hq, hr⟩ := light_val hT hs.mem.view hs.ev o hv
        unfold Oper.wp
        rw [hq, Oper.upon_value]
        exact hK Γ _ w (.refl Γ) (.refl Γ w) (hs.put h hr)
      · rename_i blk mk hv
        simp only [nblt, cond_eq_ite, decide_eq_true_eq] at h
        split at h
        · rename_i hn
          obtain ⟨q, cs, hq, hfz, h1, h2, h3⟩ := light_new (w := w) hT hs.ev o hv
          obtain ⟨l1, l2, l3⟩ := hs.mem.add hn (CellsR.of_VRs h1 h2)
          unfold Oper.wp
          rw [hq, Oper.upon_value]
          exact hK _ _ _ l1 l3 ((hs.step l1 l2).put h (h3 _ _ (.inl rfl) (by simp [Ctx.set])))
        · cases h
      · cases h

theorem runOp_fields {ops : List Oper} {o : Oper} {st st' : St} (h : runOp E call ops st o = some st') : st'.fn = st.fn ∧ st'.nt = st.nt := by
  unfold runOp at h
  split at h
  · cases h
  · obtain ⟨h1, h2, _⟩ := St.put_fields h; exact ⟨h1, h2⟩
  · simp only [cond_eq_ite] at h
    split at h
    · split at h
      · obtain ⟨h1, h2, _⟩ := St.put_fields h; exact ⟨h1, h2⟩
      · cases h
    · split at h
      · obtain ⟨h1, h2, _⟩ := St.put_fields h; exact ⟨h1, h2⟩
      · split at h
        · obtain ⟨h1, h2, _⟩ := St.put_fields h; exact ⟨h1, h2⟩
        · cases h
      · cases h

theorem runOne_fields {ops : List Oper} {o : Oper} {st st' : St} (h : runOne E call ops st o = some st') : st'.fn = st.fn ∧ st'.nt = st.nt := by
  unfold runOne at h
  simp only [cond_eq_ite] at h
  split at h
  · split at h
    · split at h
      · obtain ⟨h1, h2, _⟩ := St.put_fields h; exact ⟨h1, h2⟩
      · cases h
    · cases h
  · split at h
    · rename_i s hs
      cases h
      exact runOp_fields hs
    · unfold lenChan at h
      split at h
      · cases h
      · split at h
        · split at h
          · split at h
            · split at h
              · rw [cond_eq_ite] at h
                split at h
                · obtain ⟨h1, h2, _⟩ := St.put_fields h; exact ⟨h1, h2⟩
                · cases h
              · cases h
            · cases h
          · cases h
        · cases h

theorem runSeq_fields {ops : List Oper} : ∀ {l : List Oper} {st st' : St}, runSeq E call ops l st = some st' → st'.fn = st.fn ∧ st'.nt = st.nt
  | [], st, st', h => by simp only [runSeq, Option.some.injEq] at h; subst h; exact ⟨rfl, rfl⟩
  | o :: l, st, st', h => by
    simp only [runSeq] at h
    split at h
    · rename_i s1 h1
      obtain ⟨e1, e2⟩ := runOne_fields h1
      obtain ⟨e3, e4⟩ := runSeq_fields h
      exact ⟨e3.trans e1, e4.trans e2⟩
    · cases h
end
end Go.V
end

section
/-
  A region's operations, said by the machine's own steps: so that an operation on a channel may stand among them.
-/
namespace Go.V

/-- From the rest of a region's list the machine of one comes to an end that Q lets. -/
def InReg (P : Program) (ops : Array Oper) (Q : Exit → Act → World → Prop) (l : List Nat) (a : Act) (w : World) : Prop :=
  ∀ (b : Frame) (k : List Item) (cs : List Frame), ∃ e a' w', Q e a' w' ∧ Arrives P (lone (b.at a (.inRegion ops l :: k)) cs w) b k cs e a' w'

section
variable {P : Program} {ops : Array Oper} {Q : Exit → Act → World → Prop} {a : Act} {w : World} {i : Nat} {rest : List Nat} {o : Oper}

theorem inReg_nil (h : Q .normal a w) : InReg P ops Q [] a w := fun b k cs => ⟨.normal, a, w, h, .one step_region_end⟩

theorem inReg_skip (ho : ops[i]? = some o) (hw : Region.wanted o (yielded ops a.tmps) = false) (h : InReg P ops Q rest (a.put o.dst undef) w) : InReg P ops Q (i :: rest) a w := fun b k cs => by
  obtain ⟨e, a', w', hq, harr⟩ := h b k cs
  have hs := step_op_skip (P := P) (b := b) (a := a) (k := k) (cs := cs) (w := w) (ops := ops) (i := i) (rest := rest) (by simp [ho, hw])
  simp only [ho, Option.bind_some] at hs
  exact ⟨e, a', w', hq, .of_steps (.one hs) harr⟩

theorem finish_rest (ho : ops[i]? = some o) (b : Frame) (a : Act) (k : List Item) (v : Value) : (b.at a (.inRegion ops (i :: rest) :: k)).finish v = b.at (a.put o.dst v) (.inRegion ops rest :: k) := by
  rw [Frame.finish_at, ho]; rfl

/-- An operation on a channel hands the machine what is to be done. -/
theorem stepG_comm (ho : ops[i]? = some o) (hw : Region.wanted o (yielded ops a.tmps) = true) {cases : Array CommCase} {blocking : Bool} {shape : CommShape} {w' : World} (hr : (execOp a.eval o).run P w = .ok (.comm cases blocking shape) w')
    (b : Frame) (k : List Item) (cs : List Frame) : ∃ es, stepG P true (Conc.G (b.at a (.inRegion ops (i :: rest) :: k)) cs) w = .comm (Conc.G (b.at a (.inRegion ops (i :: rest) :: k)) cs) cases blocking shape w' es := by
  have hg := stepG_op (P := P) (b := b) (k := k) (cs := cs) (w := w) (rest := rest) ho hw
  have hg' : stepG P true (Conc.G (b.at a (.inRegion ops (i :: rest) :: k)) cs) w = stepG.apply P true (b.at a (.inRegion ops (i :: rest) :: k)) cs none (execOp a.eval o) w := hg
  rw [hg']
  simp only [stepG.apply, Sem.runT_eq, hr, GStep.after]
  exact ⟨_, rfl⟩

/-- One step of the machine, and on. -/
theorem inReg_step {v : Value} {w' : World} (ho : ops[i]? = some o) (hs : ∀ (b : Frame) (k : List Item) (cs : List Frame), step P (lone (b.at a (.inRegion ops (i :: rest) :: k)) cs w) = .next (lone ((b.at a (.inRegion ops (i :: rest) :: k)).finish v) cs w'))
    (h : InReg P ops Q rest (a.put o.dst v) w') : InReg P ops Q (i :: rest) a w := fun b k cs => by
  obtain ⟨e, a', w'', hq, harr⟩ := h b k cs
  have h1 := hs b k cs
  rw [finish_rest ho] at h1
  exact ⟨e, a', w'', hq, .of_steps (.one h1) harr⟩

/-- An operation as the kit's rules have it. -/
theorem inReg_op (ho : ops[i]? = some o) (hw : Region.wanted o (yielded ops a.tmps) = true) (h : o.wp P a w (InReg P ops Q rest) Q) : InReg P ops Q (i :: rest) a w := fun b k cs => by
  have hg := stepG_op (P := P) (b := b) (k := k) (cs := cs) (w := w) (rest := rest) ho hw
  have hfin := fun v => finish_rest (rest := rest) ho b a k v
  unfold Oper.wp at h
  cases hr : (execOp a.eval o).run P w with
  | halt x w' =>
    rw [hr] at h
    cases x with
    | panic v =>
      rw [Oper.upon_panic] at h
      refine ⟨_, a, w', h, .inRegion ops (i :: rest) :: k, .one (step_lone_go ?_)⟩
      rw [hg, ← Frame.raise_at]; simp [stepG.apply, hr]
    | _ => exact h.elim
  | ok x w' =>
    rw [hr] at h
    cases x with
    | value v =>
      rw [Oper.upon_value] at h
      obtain ⟨e, a', w'', hq, harr⟩ := h b k cs
      refine ⟨e, a', w'', hq, .of_steps (.one (step_lone_go ?_)) harr⟩
      rw [hg, ← hfin]; simp [stepG.apply, hr]
    | skip =>
      rw [Oper.upon_skip] at h
      obtain ⟨e, a', w'', hq, harr⟩ := h b k cs
      refine ⟨e, a', w'', hq, .of_steps (.one (step_lone_go ?_)) harr⟩
      rw [hg, ← hfin]; simp [stepG.apply, hr]
    | enter f args =>
      rw [Oper.upon_enter] at h
      obtain ⟨e, w'', fr, hR, hsteps, _, hleave⟩ := h (b.at a (.inRegion ops (i :: rest) :: k) :: cs)
      have henter : step P (lone (b.at a (.inRegion ops (i :: rest) :: k)) cs w) = .next (lone (Frame.enter P f args .normal) (b.at a (.inRegion ops (i :: rest) :: k) :: cs) w') :=
        step_lone_go (by rw [hg]; simp [stepG.apply, hr, Frame.at])
      cases e with
      | returned v =>
        obtain ⟨e, a', w₃, hq, harr⟩ := hR b k cs
        refine ⟨e, a', w₃, hq, .of_steps (.head henter (hsteps.trans (.one ?_))) harr⟩
        rw [← hfin]; exact step_leave_returned hleave
      | panicked chain =>
        refine ⟨.panic chain, a, w'', hR, .inRegion ops (i :: rest) :: k, .head henter (hsteps.trans (.one ?_))⟩
        rw [← Frame.raise_at]; exact step_leave_panicked hleave
      | outgrown =>
        obtain ⟨a₀, w₀, hq⟩ := hR
        exact ⟨.outgrown, a₀, w₀, hq, .inr (Outgrown.of_steps (.one henter) hsteps)⟩
    | row row args =>
      rw [Oper.upon_row] at h
      obtain ⟨v, w'', hR, hsteps⟩ := h (b.at a (.inRegion ops (i :: rest) :: k)) cs
      have henter : step P (lone (b.at a (.inRegion ops (i :: rest) :: k)) cs w) = .next (lone (Frame.ofRow P row args .normal) (b.at a (.inRegion ops (i :: rest) :: k) :: cs) w') :=
        step_lone_go (by rw [hg]; simp [stepG.apply, hr, Frame.at])
      obtain ⟨e, a', w₃, hq, harr⟩ := hR b k cs
      refine ⟨e, a', w₃, hq, .of_steps (.head henter ?_) harr⟩
      rw [← hfin]; exact hsteps
    | defer d =>
      rw [Oper.upon_defer] at h
      obtain ⟨e, a', w'', hq, harr⟩ := h b k cs
      refine ⟨e, a', w'', hq, .of_steps (.one (step_lone_go ?_)) harr⟩
      have := Frame.finish_at b { a with defers := d :: a.defers } ops i rest k undef
      rw [ho] at this
      rw [hg]
      simp only [stepG.apply, Sem.runT_eq, hr, GStep.bare_after]
      exact congrArg (fun fr => GStep.go { frame := fr, callers := cs, status := .running, dying := none } w') this
    | _ => exact h.elim

theorem wp_region_inReg {id : Nat} (h : InReg P ops Q (List.range ops.size) a w) : (Code.region id ops false).wp P Q a w :=
  fun b k cs => let ⟨e, a', w', q, r⟩ := h b k cs; ⟨e, a', w', q, .of_steps (.one step_region) r⟩
end

section
variable {E : Env} {w : World} {Γ0 Γ : Ctx} {st : St} {a : Act} {call : CallFn}

/-- What a channel's value says of memory. -/
theorem chan_ok {m : Mem} (hm : MemR Γ m w) {b : Nat} {v : Value} (hv : VR Γ (.chan b) v) {cap : Nat} {q : List AVal} (hg : m.getC b = some (cap, q)) :
    ∃ (cb : Nat) (buf : Array Value) (s r : Nat), v = .chan (some cb) ∧ Γ.blk b = some ⟨0, cb, 0⟩ ∧ w.heap[cb]? = some (.chan cap buf false s r false) ∧ VRs Γ q buf.toList := by
  simp only [VR] at hv
  obtain ⟨cb, rfl, _, hk⟩ := hv
  obtain ⟨_, c, buf, s, r, h1, h2, h3⟩ := hm.chan b cap q hg
  exact ⟨c, buf, s, r, by rw [hk _ h1 rfl], h1, h2, h3⟩

/-- An operation on a channel is one step of the machine's. -/
theorem comm_step (hT : TysOk E) (hm : MemR Γ st.mem w) (hρ : ∀ x, VR Γ (st.ev x) (a.eval x)) {o : Oper} {v : AVal} {m' : Mem} (h : commOp E st.mem st.ev o.op = some (v, m')) {ops : Array Oper} {i : Nat} {rest : List Nat} (ho : ops[i]? = some o)
    (hw : Region.wanted o (yielded ops a.tmps) = true) : ∃ q w', VR Γ v q ∧ MemR Γ m' w' ∧ Step Γ w Γ w' ∧
      ∀ (b : Frame) (k : List Item) (cs : List Frame), step E.P (lone (b.at a (.inRegion ops (i :: rest) :: k)) cs w) = .next (lone ((b.at a (.inRegion ops (i :: rest) :: k)).finish q) cs w') := by
  obtain ⟨d, op, ty, pos, after, guard⟩ := o
  cases op <;> try (cases h; done)
  case send c x =>
    simp only [commOp] at h
    split at h
    · rename_i b hc
      split at h
      · rename_i cap q hg
        rw [cond_eq_ite, nblt] at h
        split at h
        · rename_i hlt
          simp only [decide_eq_true_eq] at hlt
          cases h
          have hv := hρ c
          rw [hc] at hv
          obtain ⟨cb, buf, s, r, e1, e2, e3, e4⟩ := chan_ok hm hv hg
          have hlen : buf.size < cap := by have := e4.length; simp at this; omega
          obtain ⟨k1, k2⟩ := hm.turnC hg e2 e3 (s' := s + 1) (r' := r) (q' := q ++ [st.ev x]) (buf' := buf.push (a.eval x)) (by
            rw [Array.toList_push]
            exact e4.append (by simp only [VRs]; exact ⟨_, [], rfl, hρ x, rfl⟩))
          refine ⟨undef, _, by simp only [VR], k1, k2, fun b k cs => ?_⟩
          have hr : (execOp a.eval ⟨d, .send c x, ty, pos, after, guard⟩).run E.P w = .ok (.comm #[Conc.scase cb (a.eval x) (.tuple #[])] true .send) w := by
            unfold execOp
            simp only [e1, Conc.scase, Sem.run_pure]
          obtain ⟨es, hs⟩ := stepG_comm (rest := rest) ho hw hr b k cs
          exact Conc.step_lone_send_room hs e3 hlen
        · cases h
      · cases h
    · cases h
  case select cases_ blocking =>
    cases blocking with
    | true => cases h
    | false =>
      simp only [commOp] at h
      split at h
      · rename_i c x e hcs
        have hcs' : cases_ = #[⟨c, some x, e⟩] := by cases cases_; simpa using hcs
        subst hcs'
        split at h
        · rename_i b vt hc hty
          obtain ⟨ti, td, tz, ok⟩ := hT _ _ hty
          have hr : ∀ cb, a.eval c = .chan (some cb) → (execOp a.eval ⟨d, .select #[⟨c, some x, e⟩] false, ty, pos, after, guard⟩).run E.P w = .ok (.comm #[Conc.scase cb (a.eval x) tz] false .select) w := by
            intro cb e1
            unfold execOp
            simp [e1, Conc.scase, ok.run_zero]
          have hv := hρ c
          rw [hc] at hv
          split at h
          · rename_i cap q hg
            obtain ⟨cb, buf, s, r, e1, e2, e3, e4⟩ := chan_ok hm hv hg
            have hsz : q.length = buf.size := by have := e4.length; simpa using this
            rw [cond_eq_ite, nblt] at h
            split at h
            · rename_i hlt
              simp only [decide_eq_true_eq] at hlt
              cases h
              obtain ⟨k1, k2⟩ := hm.turnC hg e2 e3 (s' := s + 1) (r' := r) (q' := q ++ [st.ev x]) (buf' := buf.push (a.eval x)) (by
                rw [Array.toList_push]
                exact e4.append (by simp only [VRs]; exact ⟨_, [], rfl, hρ x, rfl⟩))
              refine ⟨.tuple #[.int .i64 0, .bool false], _, ?_, k1, k2, fun b k cs => ?_⟩
              · simp only [VR, VRs]; exact ⟨_, rfl, _, _, rfl, rfl, _, _, rfl, rfl, rfl⟩
              · obtain ⟨es, hs⟩ := stepG_comm (rest := rest) ho hw (hr cb e1) b k cs
                exact Conc.step_lone_select_send_room hs e3 (by omega)
            · rename_i hlt
              simp only [decide_eq_true_eq] at hlt
              cases h
              refine ⟨.tuple #[.int .i64 (-1), .bool false], _, ?_, hm, .refl Γ w, fun b k cs => ?_⟩
              · simp only [VR, VRs]; exact ⟨_, rfl, _, _, rfl, rfl, _, _, rfl, rfl, rfl⟩
              · obtain ⟨es, hs⟩ := stepG_comm (rest := rest) ho hw (hr cb e1) b k cs
                exact Conc.step_lone_select_send_full hs e3 (by omega)
          · cases h
        · cases h
      · rename_i c e hcs
        have hcs' : cases_ = #[⟨c, none, e⟩] := by cases cases_; simpa using hcs
        subst hcs'
        split at h
        · rename_i b vt hc hty
          obtain ⟨ti, td, tz, ok⟩ := hT _ _ hty
          have hr : ∀ cb, a.eval c = .chan (some cb) → (execOp a.eval ⟨d, .select #[⟨c, none, e⟩] false, ty, pos, after, guard⟩).run E.P w = .ok (.comm #[Conc.rcase cb tz] false .select) w := by
            intro cb e1
            unfold execOp
            simp [e1, Conc.rcase, ok.run_zero]
          have hv := hρ c
          rw [hc] at hv
          split at h
          · rename_i cap hg
            cases h
            obtain ⟨cb, buf, s, r, e1, e2, e3, e4⟩ := chan_ok hm hv hg
            have hsz : buf = #[] := by
              have := e4.length
              simp at this
              exact Array.eq_empty_of_size_eq_zero this.symm
            subst hsz
            refine ⟨.tuple #[.int .i64 (-1), .bool false, tz], _, ?_, hm, .refl Γ w, fun b k cs => ?_⟩
            · simp only [VR, VRs]; exact ⟨_, rfl, _, _, rfl, rfl, _, _, rfl, rfl, _, _, rfl, by simp only [VR], rfl⟩
            · obtain ⟨es, hs⟩ := stepG_comm (rest := rest) ho hw (hr cb e1) b k cs
              exact Conc.step_lone_select_default hs e3
          · rename_i cap v0 q hg
            cases h
            obtain ⟨cb, buf, s, r, e1, e2, e3, e4⟩ := chan_ok hm hv hg
            simp only [VRs] at e4
            obtain ⟨u, us, e5, e6, e7⟩ := e4
            have hbuf : buf = (u :: us).toArray := by cases buf; simpa using e5
            subst hbuf
            obtain ⟨k1, k2⟩ := hm.turnC hg e2 e3 (s' := s) (r' := r + 1) (q' := q) (buf' := (u :: us).toArray.extract 1 (u :: us).toArray.size) (by simpa using e7)
            refine ⟨.tuple #[.int .i64 0, .bool true, u], _, ?_, k1, k2, fun b k cs => ?_⟩
            · simp only [VR, VRs]; exact ⟨_, rfl, _, _, rfl, rfl, _, _, rfl, rfl, _, _, rfl, e6, rfl⟩
            · obtain ⟨es, hs⟩ := stepG_comm (rest := rest) ho hw (hr cb e1) b k cs
              exact Conc.step_lone_select_recv_buf hs e3 (by simp)
          · cases h
        · cases h
      · cases h

/-- How much a channel holds. -/
theorem lenChan_wp {st' : St} {o : Oper} (hs : StR Γ0 Γ st a w) (h : lenChan E st o = some st') : o.guard = none ∧ ∃ q, (execOp a.eval o).run E.P w = .ok (.value q) w ∧ StR Γ0 Γ st' (a.put o.dst q) w := by
  obtain ⟨d, op, ty, pos, after, guard⟩ := o
  unfold lenChan at h
  split at h
  · cases h
  · rename_i hg
    refine ⟨hg, ?_⟩
    split at h
    · rename_i args argTypes hop
      simp only at hop
      subst hop
      split at h
      · rename_i x t hx ht
        have ha : args = #[x] := Array.ext' hx
        have hb : argTypes = #[t] := Array.ext' ht
        subst ha; subst hb
        split at h
        · rename_i b hc
          split at h
          · rename_i cap q hgc
            rw [cond_eq_ite] at h
            split at h
            · rename_i hty
              unfold chanTyB at hty
              split at hty
              · rename_i dir e hu
                have hv := hs.ev x
                rw [hc] at hv
                obtain ⟨cb, buf, s, r, e1, e2, e3, e4⟩ := chan_ok hs.mem hv hgc
                have hlen : q.length = buf.size := by have := e4.length; simpa using this
                refine ⟨_, by simp [execOp, resolve, invoke, builtin, e1, Conc.run_len_chan t ty hu e3] <;> rfl, hs.put h ?_⟩
                simp only [VR, hlen]; rfl
              · cases hty
            · cases h
          · cases h
        · cases h
      · cases h
    · cases h

theorem runSeq_wp (hT : TysOk E) (hC : CallOk E Γ0 call) (ops : List Oper) {Q : Exit → Act → World → Prop} : ∀ (l : List Oper) (j : Nat) (st st' : St) (Γ : Ctx) (a : Act) (w : World), (∀ i o, l[i]? = some o → ops[j + i]? = some o) → runSeq E call ops l st = some st' → StR Γ0 Γ st a w →
    (∀ Δ a' w', Γ.le Δ → Step Γ w Δ w' → StR Γ0 Δ st' a' w' → Q .normal a' w') → InReg E.P ops.toArray Q (List.range' j l.length) a w
  | [], j, st, st', Γ, a, w, _, h, hs, hQ => by
    simp only [runSeq, Option.some.injEq] at h
    subst h
    exact inReg_nil (hQ Γ a w (.refl Γ) (.refl Γ w) hs)
  | o :: l, j, st, st', Γ, a, w, hl, h, hs, hQ => by
    simp only [runSeq] at h
    split at h
    · rename_i s1 h1
      have hoj : ops.toArray[j]? = some o := by simpa using hl 0 o rfl
      have go : ∀ Δ a' w', Γ.le Δ → Step Γ w Δ w' → StR Γ0 Δ s1 a' w' → InReg E.P ops.toArray Q (List.range' (j + 1) l.length) a' w' := fun Δ a' w' k1 k2 k3 =>
        runSeq_wp hT hC ops l (j + 1) s1 st' Δ a' w' (fun i o ho => by rw [show j + 1 + i = j + (i + 1) by omega]; exact hl (i + 1) o (by simpa using ho)) h k3 (fun Θ a2 w2 j1 j2 j3 => hQ Θ a2 w2 (k1.trans j1) (k2.trans j2) j3)
      rw [List.length_cons, List.range'_succ]
      unfold runOne at h1
      cases hc : isComm o.op with
      | false =>
        rw [hc, cond_false] at h1
        split at h1
        · rename_i s2 h2
          cases h1
          have := runOp_wp hT hC ops (K := InReg E.P ops.toArray Q (List.range' (j + 1) l.length)) (Q := Q) h2 hs go
          split at this
          · rename_i hw; exact inReg_op hoj hw this
          · rename_i hw; exact inReg_skip hoj (by simpa using hw) this
        · obtain ⟨hg, q, k1, k2⟩ := lenChan_wp hs h1
          have hw : Region.wanted o (yielded ops.toArray a.tmps) = true := by simp [Region.wanted, hg]
          refine inReg_op hoj hw ?_
          unfold Oper.wp
          rw [k1, Oper.upon_value]
          exact go Γ _ w (.refl Γ) (.refl Γ w) k2
      | true =>
        rw [hc, cond_true] at h1
        split at h1
        · rename_i hg
          split at h1
          · rename_i v m' hv
            have hw : Region.wanted o (yielded ops.toArray a.tmps) = true := by simp [Region.wanted, hg]
            obtain ⟨q, w', k1, k2, k3, k4⟩ := comm_step hT hs.mem hs.ev hv (rest := List.range' (j + 1) l.length) hoj hw
            exact inReg_step hoj k4 (go Γ _ w' (.refl Γ) k3 ((hs.step (.refl Γ) k2).put h1 k1))
          · cases h1
        · cases h1
    · cases h
end
end Go.V
end

section
/-
  When a plan may stand for a region that draws its order: a Bool.
-/
namespace Go.V

def deps (o : Oper) : List Nat := (o.after.toList.filter fun e => Region.binds .any e).map (·.on)

/-- Of each operation all that must come ahead of it. -/
def ancsFrom : List Oper → List (List Nat) → List (List Nat)
  | [], acc => acc
  | o :: rest, acc => ancsFrom rest (acc ++ [(List.range acc.length).filter fun i => (deps o).any fun d => Nat.beq d i || ((acc[d]?).getD []).contains i])

def ancs (ops : List Oper) : List (List Nat) := ancsFrom ops []
def isAnc (A : List (List Nat)) (i j : Nat) : Bool := ((A[j]?).getD []).contains i

def RStep.isRun (j : Nat) : RStep → Bool
  | .run k => Nat.beq j k
  | .chk _ => false

def posOf (plan : List RStep) (j : Nat) : Nat := plan.findIdx (RStep.isRun j)

def chksOf : List RStep → List Nat
  | .chk l :: rest => l :: chksOf rest
  | _ => []

def isLoad : Op → Bool
  | .load .. | .convert .. => true
  | _ => false

def readsOf (ops : List Oper) (o : Oper) : List Nat := o.looksAt ops.toArray

/-- Of two operations, the one ahead of the other one in the plan. -/
def pairOk (_ops : List Oper) (plan : List RStep) (A : List (List Nat)) (x y : Nat) (ox oy : Oper) : Bool :=
  !Nat.blt (posOf plan x) (posOf plan y) ||
  ((!(isHeavy oy.op && (isHeavy ox.op || isNew ox.op)) || isAnc A x y) &&
   (!(isHeavy ox.op && isLoad oy.op) || isAnc A x y) &&
   (!(isHeavy oy.op && isLoad ox.op) || isAnc A x y || (chksOf (plan.drop (posOf plan y + 1))).contains x))

/-- Slots: no two write one; who reads one that the other writes is ahead of it, or behind it; what a load reads is never written behind it. -/
def slotOk (ops : List Oper) (A : List (List Nat)) (x y : Nat) (ox oy : Oper) : Bool :=
  match ox.dst with
  | none => true
  | some d => bif Nat.beq x y then !(isLoad oy.op && (readsOf ops oy).contains d)
    else oy.dst != some d && (!(readsOf ops oy).contains d || isAnc A x y || (!isLoad oy.op && isAnc A y x))

def allIdx (p : Nat → Oper → Bool) : Nat → List Oper → Bool
  | _, [] => true
  | i, o :: rest => p i o && allIdx p (i + 1) rest

def stepsIdx (p : Nat → RStep → Bool) : Nat → List RStep → Bool
  | _, [] => true
  | i, s :: rest => p i s && stepsIdx p (i + 1) rest

def planOk (ops : List Oper) (plan : List RStep) : Bool :=
  let A := ancs ops
  let n := ops.length
  stepsIdx (fun p s => match s with
    | .run j => Nat.blt j n && Nat.beq (posOf plan j) p
    | .chk _ => true) 0 plan &&
  allIdx (fun j o => Nat.blt (posOf plan j) plan.length && (deps o).all (fun d => Nat.blt (posOf plan d) (posOf plan j))) 0 ops &&
  allIdx (fun x ox => allIdx (fun y oy => pairOk ops plan A x y ox oy && slotOk ops A x y ox oy) 0 ops) 0 ops

/-- An operation on a channel may end the region: if it waits for all others, and nothing is guarded. -/
def drawnOk (ops : List Oper) (plan : List RStep) : Bool :=
  bif lastComm ops then planOk ops.dropLast plan && ops.all (fun o => o.guard.isNone) && (List.range ops.dropLast.length).all (fun i => isAnc (ancs ops) i ops.dropLast.length) &&
    (match ops.getLast? with
    | some o => (deps o).all fun d => Nat.blt d ops.dropLast.length
    | none => false)
  else planOk ops plan

section
variable {E : Env} {call : CallFn} {st st' : St}

theorem allIdx_get {p : Nat → Oper → Bool} : ∀ {l : List Oper} {i j : Nat} {o : Oper}, allIdx p i l = true → l[j]? = some o → p (i + j) o = true
  | [], i, j, o, _, h => by simp at h
  | x :: l, i, 0, o, h, hj => by
    simp only [allIdx, Bool.and_eq_true] at h
    simp at hj
    subst hj
    exact h.1
  | x :: l, i, j + 1, o, h, hj => by
    simp only [allIdx, Bool.and_eq_true] at h
    have := allIdx_get h.2 (by simpa using hj)
    rwa [show i + 1 + j = i + (j + 1) by omega] at this

theorem stepsIdx_get {p : Nat → RStep → Bool} : ∀ {l : List RStep} {i j : Nat} {s : RStep}, stepsIdx p i l = true → l[j]? = some s → p (i + j) s = true
  | [], i, j, o, _, h => by simp at h
  | x :: l, i, 0, o, h, hj => by
    simp only [stepsIdx, Bool.and_eq_true] at h
    simp at hj
    subst hj
    exact h.1
  | x :: l, i, j + 1, o, h, hj => by
    simp only [stepsIdx, Bool.and_eq_true] at h
    have := stepsIdx_get h.2 (by simpa using hj)
    rwa [show i + 1 + j = i + (j + 1) by omega] at this

theorem runPlan_fields {ops : List Oper} : ∀ {l : List RStep} {st st' : St}, runPlan E call ops l st = some st' → st'.fn = st.fn ∧ st'.nt = st.nt
  | [], st, st', h => by simp only [runPlan, Option.some.injEq] at h; subst h; exact ⟨rfl, rfl⟩
  | .run j :: l, st, st', h => by
    simp only [runPlan] at h
    split at h
    · split at h
      · rename_i s1 h1
        obtain ⟨e1, e2⟩ := runOp_fields h1
        obtain ⟨e3, e4⟩ := runPlan_fields h
        exact ⟨e3.trans e1, e4.trans e2⟩
      · cases h
    · cases h
  | .chk j :: l, st, st', h => by
    simp only [runPlan] at h
    split at h
    · split at h
      · split at h
        · simp only [cond_eq_ite] at h
          split at h
          · exact runPlan_fields h
          · cases h
        · cases h
      · exact runPlan_fields h
      · cases h
    · cases h
end
end Go.V
end

section
/-
  Helpers for regions that draw their order.
-/
namespace Go.V
section
variable {E : Env} {m m' : Mem} {ρ ρ' : Operand → AVal} {call : CallFn}

theorem map_congr_ops (l : List Operand) (h : ∀ x ∈ l, ρ x = ρ' x) : l.map ρ = l.map ρ' := List.map_congr_left h

theorem optNat_congr {x : Option Operand} (h : ∀ y ∈ x.toArray.toList, ρ y = ρ' y) : optNat ρ x = optNat ρ' x := by
  cases x with
  | none => rfl
  | some x => simp [optNat, h x (by simp)]

theorem parts_congr (ps : Array (Nat × Operand)) (h : ∀ y ∈ (ps.toList.map (·.2)), ρ y = ρ' y) : (ps.toList.map fun (i, x) => (i, ρ x)) = ps.toList.map fun (i, x) => (i, ρ' x) := by
  apply List.map_congr_left
  intro ⟨i, x⟩ hx
  simp [h x (List.mem_map.2 ⟨(i, x), hx, rfl⟩)]

theorem light_congr {op : Op} (h : ∀ x ∈ op.operands.toList, ρ x = ρ' x) : light E m ρ op = light E m ρ' op := by
  cases op <;> try (simp only [light]; done)
  case move x => simp [light, h x (by simp [Op.operands])]
  case assign x => simp [light, h x (by simp [Op.operands])]
  case pick c a b => simp [light, h c (by simp [Op.operands]), h a (by simp [Op.operands]), h b (by simp [Op.operands])]
  case box t x => simp [light, h x (by simp [Op.operands])]
  case build t ps => simp only [light]; rw [parts_congr ps (fun y hy => h y (by simpa [Op.operands] using hy))]
  case buildSlice t n ps => simp only [light]; rw [parts_congr ps (fun y hy => h y (by simpa [Op.operands] using hy))]
  case load t x => simp [light, h x (by simp [Op.operands])]
  case nilCheck x => simp [light, h x (by simp [Op.operands])]
  case binOp op xT x y yT => simp [light, h x (by simp [Op.operands]), h y (by simp [Op.operands])]
  case unOp op xT x => simp [light, h x (by simp [Op.operands])]
  case convert s d x => simp [light, h x (by simp [Op.operands])]
  case makeFunc f first captured =>
    have e1 := map_congr_ops first.toList (fun x hx => h x (by simp [Op.operands]; left; simpa using hx))
    have e2 := map_congr_ops captured.toList (fun x hx => h x (by simp [Op.operands]; right; simpa using hx))
    cases f <;> simp [light, e1, e2]
  case makeSlice t l c => simp [light, h l (by simp [Op.operands]), h c (by simp [Op.operands])]
  case slice t x lo hi mx =>
    simp only [light]
    rw [optNat_congr (x := lo) (fun y hy => h y (by simp [Op.operands] at hy ⊢; simp [hy])), optNat_congr (x := hi) (fun y hy => h y (by simp [Op.operands] at hy ⊢; simp [hy])),
      optNat_congr (x := mx) (fun y hy => h y (by simp [Op.operands] at hy ⊢; simp [hy])), h x (by simp [Op.operands])]
  case fieldAddr t x f => simp [light, h x (by simp [Op.operands])]
  case field t x f => simp [light, h x (by simp [Op.operands])]
  case indexAddr t x ix => simp [light, h x (by simp [Op.operands]), h ix (by simp [Op.operands])]
  case index t x ix => simp [light, h x (by simp [Op.operands]), h ix (by simp [Op.operands])]
  case extract x i => simp [light, h x (by simp [Op.operands])]
  case call c =>
    obtain ⟨callee, args, argTypes⟩ := c
    cases callee with
    | value f => simp [light]
    | invoke r n => simp [light]
    | builtin b =>
      have e1 := map_congr_ops args.toList (fun x hx => h x (by simpa [Op.operands, Call.operands] using hx))
      cases b <;> simp only [light] <;> try rw [e1]
      all_goals
        split
        · rename_i x t hx ht
          rw [h x (by simp [Op.operands, Call.operands]; rw [← Array.mem_toList_iff, hx]; simp)]
        · rfl

theorem heavy_congr {op : Op} (h : ∀ x ∈ op.operands.toList, ρ x = ρ' x) : heavy E call m ρ op = heavy E call m ρ' op := by
  cases op <;> try (simp only [heavy]; done)
  case store t a x => simp [heavy, h a (by simp [Op.operands]), h x (by simp [Op.operands])]
  case makeChan t x => simp [heavy, h x (by simp [Op.operands])]
  case call c =>
    obtain ⟨callee, args, argTypes⟩ := c
    cases callee with
    | invoke r n => simp [heavy]
    | value f =>
      have e1 := map_congr_ops args.toList (fun x hx => h x (by simp [Op.operands, Call.operands]; right; simpa using hx))
      simp only [heavy]
      rw [e1, h f (by simp [Op.operands, Call.operands])]
    | builtin b =>
      have hm : ∀ x ∈ args.toList, ρ x = ρ' x := fun x hx => h x (by simpa [Op.operands, Call.operands] using hx)
      cases b <;> simp only [heavy]
      case append =>
        split
        · rename_i s x t ts hx ht
          rw [hm s (by rw [hx]; simp), hm x (by rw [hx]; simp)]
        · rfl
      case copy =>
        split
        · rename_i d s t ts hx ht
          rw [hm s (by rw [hx]; simp), hm d (by rw [hx]; simp)]
        · rfl
      case clear =>
        split
        · rename_i x t ts hx ht
          rw [hm x (by rw [hx]; simp)]
        · rfl

/-- What no load does hangs not on memory. -/
theorem light_still {op : Op} (h : isLoad op = false) : light E m ρ op = light E m' ρ op := by
  cases op <;> first
    | (simp [isLoad] at h; done)
    | (simp only [light]; done)
    | skip
  case makeFunc f _ _ => cases f <;> simp [light]
  case call c =>
    obtain ⟨callee, args, argTypes⟩ := c
    cases callee with
    | value f => simp [light]
    | invoke r n => simp [light]
    | builtin b => cases b <;> simp only [light]
end

/-! ### What must come ahead -/
def Closed (ops : List Oper) (T : Nat → Prop) : Prop := ∀ (j : Nat) (o : Oper), T j → ops[j]? = some o → ∀ d ∈ deps o, T d

theorem ancsFrom_ok (ops : List Oper) (T : Nat → Prop) (hT : Closed ops T) : ∀ (l : List Oper) (acc : List (List Nat)), (∀ j o, l[j]? = some o → ops[acc.length + j]? = some o) →
    (∀ j i L, acc[j]? = some L → i ∈ L → T j → T i) → ∀ j i L, (ancsFrom l acc)[j]? = some L → i ∈ L → T j → T i
  | [], acc, _, h, j, i, L, hj, hi, ht => h j i L hj hi ht
  | o :: l, acc, hl, h, j, i, L, hj, hi, ht => by
    simp only [ancsFrom] at hj
    refine ancsFrom_ok ops T hT l _ (fun j o' hj' => ?_) (fun j i L hj hi ht => ?_) j i L hj hi ht
    · have := hl (j + 1) o' (by simpa using hj')
      simpa [Nat.add_assoc, Nat.add_comm 1 j] using this
    · rw [List.getElem?_append] at hj
      split at hj
      · exact h j i L hj hi ht
      · rename_i hge
        by_cases e : j = acc.length
        · subst e
          simp only [Nat.sub_self, List.getElem?_cons_zero, Option.some.injEq] at hj
          subst hj
          simp only [List.mem_filter, List.any_eq_true, Bool.or_eq_true, nbeq, decide_eq_true_eq] at hi
          obtain ⟨_, d, hd, hor⟩ := hi
          have htd := hT acc.length o ht (by have := hl 0 o rfl; simpa using this) d hd
          rcases hor with rfl | hc
          · exact htd
          · cases hdl : acc[d]? with
            | none => simp [hdl] at hc
            | some L' =>
              simp only [hdl, Option.getD_some, List.contains_iff_mem] at hc
              exact h d i L' hdl hc htd
        · rw [List.getElem?_cons, if_neg (by omega)] at hj
          simp at hj

theorem isAnc_ok {ops : List Oper} {T : Nat → Prop} (hT : Closed ops T) {i j : Nat} (h : isAnc (ancs ops) i j = true) (ht : T j) : T i := by
  unfold isAnc at h
  cases hl : (ancs ops)[j]? with
  | none => simp [hl] at h
  | some L =>
    simp only [hl, Option.getD_some, List.contains_iff_mem] at h
    exact ancsFrom_ok ops T hT ops [] (fun j o hj => by simpa using hj) (fun j i L hj => by simp at hj) j i L hl h ht

/-! ### There is a way -/
theorem Oper.wp_exists {P : Program} {o : Oper} {a : Act} {w : World} {K : Act → World → Prop} (h : o.wp P a w K fun _ _ _ => False) : ∃ a' w', K a' w' := by
  unfold Oper.wp at h
  generalize (execOp a.eval o).run P w = r at h
  cases r with
  | ok n w' =>
    cases n <;> simp only [Oper.upon] at h
    case value v => exact ⟨_, _, h⟩
    case skip => exact ⟨_, _, h⟩
    case defer d => exact ⟨_, _, h⟩
    case enter f args =>
      obtain ⟨e, w'', _, hR, _⟩ := h []
      cases e with
      | returned v => exact ⟨_, _, hR⟩
      | panicked c => exact hR.elim
      | outgrown => obtain ⟨_, _, hR⟩ := hR; exact hR.elim
    case row r args =>
      obtain ⟨v, w'', hR, _⟩ := h default []
      exact ⟨_, _, hR⟩
  | halt x w' => cases x <;> simp only [Oper.upon] at h

theorem runOp_exists {E : Env} {call : CallFn} {w : World} {Γ0 Γ : Ctx} {st st' : St} {a : Act} (hT : TysOk E) (hC : CallOk E Γ0 call) (ops : List Oper) {o : Oper} (h : runOp E call ops st o = some st') (hs : StR Γ0 Γ st a w) :
    ∃ Δ a' w', Γ.le Δ ∧ StR Γ0 Δ st' a' w' := by
  have := runOp_wp hT hC ops (K := fun a' w' => ∃ Δ, Γ.le Δ ∧ StR Γ0 Δ st' a' w') (Q := fun _ _ _ => False) h hs (fun Δ a' w' k1 _ k3 => ⟨Δ, k1, k3⟩)
  split at this
  · obtain ⟨a', w', Δ, h1, h2⟩ := Oper.wp_exists this
    exact ⟨Δ, a', w', h1, h2⟩
  · obtain ⟨Δ, h1, h2⟩ := this
    exact ⟨Δ, _, w, h1, h2⟩

/-! ### Only what is below a number -/
def Ctx.below (Γ : Ctx) (N : Nat) : Ctx := { Γ with dom := fun b => Γ.dom b ∧ b < N }

mutual
theorem VR.below {Γ Δ : Ctx} {N : Nat} (h : ∀ b, Δ.dom b → b < N) : ∀ (x : AVal) (v u : Value), VR Γ x v → VR Δ x u → VR (Γ.below N) x v
  | .any, _, _, _, _ => by simp [VR]
  | .bool b, v, _, hv, _ => by simpa [VR] using hv
  | .int k n, v, _, hv, _ => by simpa [VR] using hv
  | .str s, v, _, hv, _ => by simpa [VR] using hv
  | .nilp, v, _, hv, _ => by simpa [VR] using hv
  | .ptr b ext off, v, u, hv, hu => by
    simp only [VR] at hv hu ⊢
    obtain ⟨a, rfl, hb, hk⟩ := hv
    obtain ⟨_, _, hb', _⟩ := hu
    exact ⟨a, rfl, ⟨hb, h b hb'⟩, hk⟩
  | .iptr cells, v, u, hv, hu => by
    simp only [VR] at hv hu ⊢
    obtain ⟨a, rfl, hs, hr⟩ := hv
    obtain ⟨a', _, _, hr'⟩ := hu
    exact ⟨a, rfl, hs, roRel.below h cells _ _ _ _ hr hr'⟩
  | .nil s, v, _, hv, _ => by simpa [VR] using hv
  | .ref b ext off n lo exact sz, v, u, hv, hu => by
    simp only [VR] at hv hu ⊢
    obtain ⟨a, c, rfl, h1, h2, h3, hb, hk⟩ := hv
    obtain ⟨_, _, _, _, _, _, hb', _⟩ := hu
    exact ⟨a, c, rfl, h1, h2, h3, ⟨hb, h b hb'⟩, hk⟩
  | .imm cells n, v, u, hv, hu => by
    simp only [VR] at hv hu ⊢
    obtain ⟨a, c, rfl, h1, h2⟩ := hv
    obtain ⟨a', c', _, _, h2'⟩ := hu
    refine ⟨a, c, rfl, h1, fun hc => ?_⟩
    obtain ⟨ad, ha, hs, hr⟩ := h2 hc
    obtain ⟨ad', _, _, hr'⟩ := h2' hc
    exact ⟨ad, ha, hs, roRel.below h cells _ _ _ _ hr hr'⟩
  | .nilf, v, _, hv, _ => by simpa [VR] using hv
  | .fn f xs ys, v, u, hv, hu => by
    simp only [VR] at hv hu ⊢
    obtain ⟨us, vs, rfl, h1, h2⟩ := hv
    obtain ⟨us', vs', _, h1', h2'⟩ := hu
    exact ⟨us, vs, rfl, VRs.below h xs _ _ h1 h1', VRs.below h ys _ _ h2 h2'⟩
  | .agg cs, v, u, hv, hu => by
    simp only [VR] at hv hu ⊢
    obtain ⟨us, rfl, h1, h2⟩ := hv
    obtain ⟨us', _, h1', _⟩ := hu
    exact ⟨us, rfl, VRs.below h cs _ _ h1 h1', h2⟩
  | .tup cs, v, u, hv, hu => by
    simp only [VR] at hv hu ⊢
    obtain ⟨us, rfl, h1⟩ := hv
    obtain ⟨us', _, h1'⟩ := hu
    exact ⟨us, rfl, VRs.below h cs _ _ h1 h1'⟩
  | .opq q, v, _, hv, _ => by simpa [VR, Ctx.below] using hv
  | .one, v, _, hv, _ => by simpa [VR] using hv
  | .chan b, v, u, hv, hu => by
    simp only [VR] at hv hu ⊢
    obtain ⟨cb, rfl, hb, hk⟩ := hv
    obtain ⟨_, _, hb', _⟩ := hu
    exact ⟨cb, rfl, ⟨hb, h b hb'⟩, hk⟩
theorem VRs.below {Γ Δ : Ctx} {N : Nat} (h : ∀ b, Δ.dom b → b < N) : ∀ (xs : List AVal) (vs us : List Value), VRs Γ xs vs → VRs Δ xs us → VRs (Γ.below N) xs vs
  | [], vs, us, hv, _ => by simpa [VRs] using hv
  | x :: xs, l, k, hv, hu => by
    simp only [VRs] at hv hu ⊢
    obtain ⟨v, vs, rfl, h1, h2⟩ := hv
    obtain ⟨u, us, rfl, h1', h2'⟩ := hu
    exact ⟨v, vs, rfl, VR.below h x v u h1 h1', VRs.below h xs vs us h2 h2'⟩
theorem roRel.below {Γ Δ : Ctx} {N : Nat} (h : ∀ b, Δ.dom b → b < N) : ∀ (cs : List AVal) (b o b' o' : Nat), roRel Γ cs b o → roRel Δ cs b' o' → roRel (Γ.below N) cs b o
  | [], _, _, _, _, _, _ => by simp [roRel]
  | c :: cs, b, o, b', o', hv, hu => by
    simp only [roRel] at hv hu ⊢
    obtain ⟨⟨v, h1, h2, h3⟩, h4⟩ := hv
    obtain ⟨⟨v', _, h2', _⟩, h4'⟩ := hu
    exact ⟨⟨v, h1, VR.below h c v v' h2 h2', h3⟩, roRel.below h cs b (o + 1) b' (o' + 1) h4 h4'⟩
end
end Go.V
end

section
/-
  A plan's run as a row of states: what changes from one to the next.
-/
namespace Go.V

def stepP (E : Env) (call : CallFn) (ops : List Oper) (x : RStep) (st : St) : Option St := runPlan E call ops [x] st

structure Trace (E : Env) (Γ0 : Ctx) (call : CallFn) (ops : List Oper) (plan : List RStep) (S : Nat → St) : Prop where
  hT : TysOk E
  hC : CallOk E Γ0 call
  ok : planOk ops plan = true
  tr : ∀ p x, plan[p]? = some x → stepP E call ops x (S p) = some (S (p + 1))
  rf : ∃ Γ a w, StR Γ0 Γ (S 0) a w

section
variable {E : Env} {Γ0 : Ctx} {call : CallFn} {ops : List Oper} {plan : List RStep} {S : Nat → St} {st st' : St}

theorem runPlan_cons {x : RStep} {l : List RStep} (h : runPlan E call ops (x :: l) st = some st') : ∃ s1, stepP E call ops x st = some s1 ∧ runPlan E call ops l s1 = some st' := by
  cases x with
  | run j =>
    simp only [runPlan, stepP] at h ⊢
    split at h
    · rename_i o ho
      split at h
      · rename_i s1 h1; exact ⟨s1, by simp, h⟩
      · cases h
    · cases h
  | chk j =>
    simp only [runPlan, stepP] at h ⊢
    split at h
    · split at h
      · split at h
        · simp only [cond_eq_ite] at h
          split at h
          · rename_i hc
            exact ⟨st, by simp [hc], h⟩
          · cases h
        · cases h
      · exact ⟨st, rfl, h⟩
      · cases h
    · cases h

theorem trace_exists : ∀ {l : List RStep} {st st' : St}, runPlan E call ops l st = some st' → ∃ S : Nat → St, S 0 = st ∧ S l.length = st' ∧ ∀ (p : Nat) x, l[p]? = some x → stepP E call ops x (S p) = some (S (p + 1))
  | [], st, st', h => by
    simp only [runPlan, Option.some.injEq] at h
    subst h
    exact ⟨fun _ => st, rfl, rfl, fun p x hx => by simp at hx⟩
  | x :: l, st, st', h => by
    obtain ⟨s1, h1, h2⟩ := runPlan_cons h
    obtain ⟨S, k0, k1, k2⟩ := trace_exists h2
    refine ⟨fun p => match p with | 0 => st | p + 1 => S p, rfl, k1, fun p y hy => ?_⟩
    cases p with
    | zero =>
      simp only [List.getElem?_cons_zero, Option.some.injEq] at hy
      subst hy
      simp only [k0]
      exact h1
    | succ p => exact k2 p y (by simpa using hy)

theorem stepP_run {j : Nat} {o : Oper} (ho : ops[j]? = some o) (h : stepP E call ops (.run j) st = some st') : runOp E call ops st o = some st' := by
  simp only [stepP, runPlan, ho] at h
  split at h
  · rename_i s1 h1
    simp only [Option.some.injEq] at h
    subst h
    exact h1
  · cases h

theorem stepP_chk {j : Nat} (h : stepP E call ops (.chk j) st = some st') : st' = st := by
  simp only [stepP, runPlan] at h
  split at h
  · split at h
    · split at h
      · simp only [cond_eq_ite] at h
        split at h
        · simp only [Option.some.injEq] at h; exact h.symm
        · cases h
      · cases h
    · simp only [Option.some.injEq] at h; exact h.symm
    · cases h
  · cases h

theorem St.put_slot {dst : Option Nat} {v : AVal} (hs : st.nt ≤ 256) (h : st.put dst v = some st') (d : Nat) : st'.slot d = if dst = some d then v else st.slot d := by
  cases dst with
  | none => simp only [St.put, Option.some.injEq] at h; subst h; simp
  | some d' =>
    simp only [St.put, nblt, cond_eq_ite, decide_eq_true_eq] at h
    split at h
    · rename_i hlt
      simp only [Option.some.injEq] at h
      subst h
      unfold St.slot
      simp only
      rw [Slots.get_put _ _ _ _ (by omega)]
      by_cases e : d = d'
      · subst e; simp
      · rw [if_neg e, if_neg (by intro h; cases h; exact e rfl)]
    · cases h

theorem St.put_lt {d : Nat} {v : AVal} (h : st.put (some d) v = some st') : d < st.nt := by
  simp only [St.put, nblt, cond_eq_ite, decide_eq_true_eq] at h
  split at h
  · assumption
  · cases h

theorem runOp_put {o : Oper} (h : runOp E call ops st o = some st') : ∃ s v, s.slots = st.slots ∧ s.nt = st.nt ∧ St.put s o.dst v = some st' := by
  unfold runOp at h
  split at h
  · cases h
  · exact ⟨st, _, rfl, rfl, h⟩
  · simp only [cond_eq_ite] at h
    split at h
    · split at h
      · refine ⟨_, _, ?_, ?_, h⟩ <;> rfl
      · cases h
    · split at h
      · refine ⟨_, _, ?_, ?_, h⟩ <;> rfl
      · split at h
        · refine ⟨_, _, ?_, ?_, h⟩ <;> rfl
        · cases h
      · cases h

theorem runOp_slot {o : Oper} (hs : st.nt ≤ 256) (h : runOp E call ops st o = some st') {d : Nat} (hd : o.dst ≠ some d) : st'.slot d = st.slot d := by
  obtain ⟨s, v, h1, h2, h3⟩ := runOp_put h
  rw [St.put_slot (by omega) h3 d, if_neg hd]
  unfold St.slot
  rw [h1]

/-- What light operations do to memory. -/
theorem runOp_light {o : Oper} (hh : isHeavy o.op = false) (h : runOp E call ops st o = some st') : st'.mem = st.mem ∨ ∃ B, isNew o.op = true ∧ st.mem.next < 1048576 ∧ st'.mem = st.mem.add B := by
  unfold runOp at h
  split at h
  · cases h
  · exact .inl (St.put_fields h).2.2
  · simp only [hh, cond_false] at h
    split at h
    · exact .inl (St.put_fields h).2.2
    · rename_i blk mk hl
      simp only [cond_eq_ite, nblt, decide_eq_true_eq] at h
      split at h
      · rename_i hn
        exact .inr ⟨blk, light_new_kind hl, hn, (St.put_fields h).2.2⟩
      · cases h
    · cases h

variable (hS : Trace E Γ0 call ops plan S)
include hS

theorem Trace.runPos {p j : Nat} (h : plan[p]? = some (.run j)) : j < ops.length ∧ posOf plan j = p := by
  have := hS.ok
  simp only [planOk, Bool.and_eq_true] at this
  have := stepsIdx_get this.1.1 h
  simp only [Nat.zero_add, Bool.and_eq_true, nblt, nbeq, decide_eq_true_eq] at this
  exact this

theorem Trace.posLt {j : Nat} {o : Oper} (h : ops[j]? = some o) : posOf plan j < plan.length ∧ plan[posOf plan j]? = some (.run j) ∧ ∀ d ∈ deps o, posOf plan d < posOf plan j := by
  have := hS.ok
  simp only [planOk, Bool.and_eq_true] at this
  have := allIdx_get this.1.2 h
  simp only [Nat.zero_add, Bool.and_eq_true, nblt, decide_eq_true_eq, List.all_eq_true] at this
  refine ⟨this.1, ?_, this.2⟩
  have hlt := this.1
  unfold posOf at hlt ⊢
  rw [List.getElem?_eq_getElem hlt]
  have hb := List.findIdx_getElem (w := hlt)
  cases hx : plan[plan.findIdx (RStep.isRun j)] with
  | run k => rw [hx] at hb; simp only [RStep.isRun, nbeq, decide_eq_true_eq] at hb; rw [hb]
  | chk k => rw [hx] at hb; simp [RStep.isRun] at hb

theorem Trace.pair {x y : Nat} {ox oy : Oper} (hx : ops[x]? = some ox) (hy : ops[y]? = some oy) : pairOk ops plan (ancs ops) x y ox oy = true ∧ slotOk ops (ancs ops) x y ox oy = true := by
  have := hS.ok
  simp only [planOk, Bool.and_eq_true] at this
  have := allIdx_get (allIdx_get this.2 hx) hy
  simpa using this

theorem Trace.posInj {x y : Nat} {ox oy : Oper} (hx : ops[x]? = some ox) (hy : ops[y]? = some oy) (h : posOf plan x = posOf plan y) : x = y := by
  have h1 := (hS.posLt hx).2.1
  have h2 := (hS.posLt hy).2.1
  rw [h, h2] at h1
  simpa using h1.symm

theorem Trace.ancPos {x y : Nat} (h : isAnc (ancs ops) x y = true) (hne : x ≠ y) : posOf plan x < posOf plan y := by
  have := isAnc_ok (ops := ops) (T := fun k => k = y ∨ posOf plan k < posOf plan y) (fun j o hj ho d hd => ?_) h (.inl rfl)
  · rcases this with e | e
    · exact absurd e hne
    · exact e
  · have := (hS.posLt ho).2.2 d hd
    rcases hj with rfl | hj
    · exact .inr this
    · exact .inr (by omega)

theorem Trace.stepAt {j : Nat} {o : Oper} (h : ops[j]? = some o) : runOp E call ops (S (posOf plan j)) o = some (S (posOf plan j + 1)) :=
  stepP_run h (hS.tr _ _ (hS.posLt h).2.1)

theorem Trace.ref1 {p : Nat} (hp : p < plan.length) {Γ : Ctx} {a : Act} {w : World} (h : StR Γ0 Γ (S p) a w) : ∃ Δ a' w', Γ.le Δ ∧ StR Γ0 Δ (S (p + 1)) a' w' := by
  have ht := hS.tr p _ (List.getElem?_eq_getElem hp)
  cases hx : plan[p] with
  | chk j => rw [hx] at ht; rw [stepP_chk ht]; exact ⟨Γ, a, w, .refl Γ, h⟩
  | run j =>
    rw [hx] at ht
    have hj := (hS.runPos (p := p) (j := j) (by rw [List.getElem?_eq_getElem hp, hx])).1
    have ho : ops[j]? = some ops[j] := List.getElem?_eq_getElem hj
    exact runOp_exists hS.hT hS.hC ops (stepP_run ho ht) h

theorem Trace.ref {p : Nat} (hp : p ≤ plan.length) : ∃ Γ a w, StR Γ0 Γ (S p) a w := by
  induction p with
  | zero => exact hS.rf
  | succ p ih =>
    obtain ⟨Γ, a, w, h⟩ := ih (by omega)
    obtain ⟨Δ, a', w', _, h2⟩ := hS.ref1 (by omega) h
    exact ⟨Δ, a', w', h2⟩

theorem Trace.next1 {p : Nat} (hp : p < plan.length) : (S p).mem.next ≤ (S (p + 1)).mem.next := by
  obtain ⟨Γ, a, w, h⟩ := hS.ref (p := p) (by omega)
  obtain ⟨Δ, a', w', h1, h2⟩ := hS.ref1 hp h
  refine Decidable.byContradiction fun hn => ?_
  have := (h2.mem.dom _).1 (h1.dom _ ((h.mem.dom (S (p + 1)).mem.next).2 (by omega)))
  omega

theorem Trace.next {p q : Nat} (h : p ≤ q) (hq : q ≤ plan.length) : (S p).mem.next ≤ (S q).mem.next := by
  induction q with
  | zero => rw [show p = 0 by omega]; omega
  | succ q ih =>
    by_cases e : p = q + 1
    · rw [e]; omega
    · have h1 := ih (by omega) (by omega)
      have h2 := hS.next1 (p := q) (by omega)
      omega

theorem Trace.fields {p : Nat} (hp : p ≤ plan.length) : (S p).nt = (S 0).nt := by
  induction p with
  | zero => rfl
  | succ p ih =>
    have := runPlan_fields (hS.tr p _ (List.getElem?_eq_getElem (by omega : p < plan.length)))
    rw [this.2, ih (by omega)]

theorem Trace.small {p : Nat} (hp : p ≤ plan.length) : (S p).nt ≤ 256 := by
  obtain ⟨Γ, a, w, h⟩ := hS.ref hp
  exact h.small

/-- A slot keeps its value where nothing that writes it runs. -/
theorem Trace.slot {p q d : Nat} (h : p ≤ q) (hq : q ≤ plan.length) (hn : ∀ j o, ops[j]? = some o → o.dst = some d → ¬ (p ≤ posOf plan j ∧ posOf plan j < q)) : (S q).slot d = (S p).slot d := by
  induction q with
  | zero => rw [show p = 0 by omega]
  | succ q ih =>
    by_cases e : p = q + 1
    · rw [e]
    · rw [← ih (by omega) (by omega) (fun j o ho hd hc => hn j o ho hd (by omega))]
      have ht := hS.tr q _ (List.getElem?_eq_getElem (by omega : q < plan.length))
      cases hx : plan[q] with
      | chk j => rw [hx] at ht; rw [stepP_chk ht]
      | run j =>
        rw [hx] at ht
        obtain ⟨hj, hp⟩ := hS.runPos (p := q) (j := j) (by rw [List.getElem?_eq_getElem (by omega : q < plan.length), hx])
        have ho : ops[j]? = some ops[j] := List.getElem?_eq_getElem hj
        exact runOp_slot (hS.small (by omega)) (stepP_run ho ht) (fun hd => hn j _ ho hd (by omega))

/-- Of an operation that makes a block: the block, and where it stands. -/
def Alloc (ops : List Oper) (plan : List RStep) (S : Nat → St) (j : Nat) (B : Block) : Prop :=
  ∃ o, ops[j]? = some o ∧ isHeavy o.op = false ∧ isNew o.op = true ∧ (S (posOf plan j)).mem.next < 1048576 ∧ (S (posOf plan j + 1)).mem = (S (posOf plan j)).mem.add B

omit hS in
theorem Alloc.next {j : Nat} {B : Block} (h : Alloc ops plan S j B) : (S (posOf plan j + 1)).mem.next = (S (posOf plan j)).mem.next + 1 := by
  obtain ⟨o, _, _, _, _, e⟩ := h
  rw [e]; rfl

/-- Where nothing writes or calls, memory only grows. -/
theorem Trace.step {p : Nat} (hp : p < plan.length) (hn : ∀ j o, ops[j]? = some o → posOf plan j = p → isHeavy o.op = false) :
    (S (p + 1)).mem = (S p).mem ∨ ∃ j B, posOf plan j = p ∧ Alloc ops plan S j B := by
  have ht := hS.tr p _ (List.getElem?_eq_getElem hp)
  cases hx : plan[p] with
  | chk j => rw [hx] at ht; rw [stepP_chk ht]; exact .inl rfl
  | run j =>
    rw [hx] at ht
    obtain ⟨hj, hpp⟩ := hS.runPos (p := p) (j := j) (by rw [List.getElem?_eq_getElem hp, hx])
    have ho : ops[j]? = some ops[j] := List.getElem?_eq_getElem hj
    have hh := hn j _ ho hpp
    rcases runOp_light hh (stepP_run ho ht) with e | ⟨B, e1, e2, e3⟩
    · exact .inl e
    · exact .inr ⟨j, B, hpp, _, ho, hh, e1, by rw [hpp]; exact e2, by rw [hpp]; exact e3⟩

theorem Trace.keep {p q : Nat} (h : p ≤ q) (hq : q ≤ plan.length) (hn : ∀ j o, ops[j]? = some o → isHeavy o.op = true → ¬ (p ≤ posOf plan j ∧ posOf plan j < q)) {b : Nat} (hb : b < (S p).mem.next) :
    (S q).mem.get b = (S p).mem.get b := by
  induction q with
  | zero => rw [show p = 0 by omega]
  | succ q ih =>
    by_cases e : p = q + 1
    · rw [e]
    · rw [← ih (by omega) (by omega) (fun j o ho hd hc => hn j o ho hd (by omega))]
      have hmono := hS.next (p := p) (q := q) (by omega) (by omega)
      rcases hS.step (p := q) (by omega) (fun j o ho hp => Bool.eq_false_iff.2 fun hh => hn j o ho hh (by omega)) with e | ⟨j, B, hp, o, _, _, _, h4, h5⟩
      · rw [e]
      · rw [hp] at h4 h5
        rw [h5, get_add _ _ h4, if_neg (by omega)]
end
end Go.V
end
