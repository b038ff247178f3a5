/-
  All operations that call nothing and write nothing that was there.
-/
import Derived.Test.YtdmaodpmfbgcaaaGreatVLight2
namespace Go.V
section
variable {E : Env} {w : World} {Γ : Ctx} {m : Mem} {ρ : Operand → AVal} {σ : Operand → Value}

theorem bytesOf_ok {P : Program} (f : Value → ByteArray → Sem (ForInStep ByteArray)) (hf : ∀ n s, f (.int .u8 n) s = pure (ForInStep.yield (s.push (UInt8.ofNat n.toNat)))) :
    ∀ (cs : List AVal) (us : List Value) (acc r : ByteArray), bytesOf cs acc = some r → VRs Γ cs us → (forIn (m := Sem) us acc f).run P w = .ok r w
  | [], us, acc, r, h, hv => by
    simp only [bytesOf, Option.some.injEq] at h
    simp only [VRs] at hv
    subst h; subst hv
    simp
  | c :: cs, l, acc, r, h, hv => by
    simp only [VRs] at hv
    obtain ⟨v, vs, rfl, h1, h2⟩ := hv
    cases c with
    | int k n =>
      cases k <;> simp only [bytesOf, reduceCtorEq] at h
      simp only [VR] at h1
      subst h1
      have := bytesOf_ok (P := P) f hf cs vs _ r h h2
      simp only [List.forIn_cons, hf, Sem.run_bind, Sem.run_pure, Result.andThen_ok]
      exact this
    | _ => simp [bytesOf] at h

theorem light_convert (hT : TysOk E) {o : Oper} {s d : TypeId} {x : Operand} {v : AVal} (hm : MemV Γ m w) (ho : o.op = .convert s d x) (hρ : ∀ x, VR Γ (ρ x) (σ x)) (h : light E m ρ o.op = some (.val v)) :
    ∃ q, (execOp σ o).run E.P w = .ok (.value q) w ∧ VR Γ v q := by
  rw [ho] at h
  simp only [light] at h
  split at h
  · rename_i vs vd hs hd
    obtain ⟨si, sd, sz, oks⟩ := hT _ _ hs
    obtain ⟨di, dd, dz, okd⟩ := hT _ _ hd
    have hv := hρ x
    split at h
    · rename_i k k' n hdk hx
      have e := vdOf_int (okd.d.symm.trans hdk)
      subst e
      simp only [Option.some.injEq, Light.val.injEq] at h
      subst h
      rw [hx] at hv
      simp only [VR] at hv
      refine ⟨.int k (k.wrap n), ?_, by simp [VR]⟩
      simp [execOp, ho, convert, oks.run_und, okd.run_und, hv, Conv.intToInt]
    · rename_i b hdk hx
      have e := vdOf_str (okd.d.symm.trans hdk)
      subst e
      simp only [Option.some.injEq, Light.val.injEq] at h
      subst h
      rw [hx] at hv
      simp only [VR] at hv
      refine ⟨.string b, ?_, by simp [VR]⟩
      simp [execOp, ho, convert, oks.run_und, okd.run_und, hv]
    · rename_i hdk hnx
      have e := vdOf_str (okd.d.symm.trans hdk)
      subst e
      split at h
      · rename_i e hse
        have e2 := vdOf_slice (oks.d.symm.trans hse)
        subst e2
        split at h
        · rename_i _ _ _ hve
          obtain ⟨ei, ed, ez, oke⟩ := hT _ _ hve
          have e3 := vdOf_int oke.d.symm
          subst e3
          cases hl : sliceLen (ρ x) with
          | none => simp [hl] at h
          | some n =>
            simp only [hl, Option.bind_some] at h
            cases hc : sliceCells m (ρ x) n 1 with
            | none => simp [hc] at h
            | some cs =>
              simp only [hc, Option.bind_some, Option.map_eq_some_iff, Light.val.injEq] at h
              obtain ⟨b, hb, rfl⟩ := h
              obtain ⟨a, c, hsl, _⟩ := sliceLen_ok hl hv
              obtain ⟨us, k1, k2, k3, _, k4⟩ := sliceCells_ok (P := E.P) hm hc hv
              have k5 := k4 a n c hsl
              refine ⟨.string b, ?_, by simp [VR]⟩
              cases a with
              | none =>
                have hb0 : b = ByteArray.empty := by
                  have h0 : n = 0 := by
                    rw [hsl] at hv
                    cases hx : ρ x <;> simp [hx, sliceLen] at hl
                    · exact hl.symm
                    · rw [hx] at hv; simp [VR] at hv
                    · rename_i cells k
                      rw [hx] at hv
                      simp only [VR] at hv
                      obtain ⟨a', c', e4, _, hne⟩ := hv
                      cases e4
                      have : cells = [] := by
                        apply Classical.byContradiction
                        intro hne'
                        obtain ⟨ad, h1, _⟩ := hne hne'
                        cases h1
                      subst this
                      simp [hx, sliceCells, lget, cond_eq_ite, nble, nbeq] at hc
                      omega
                  subst h0
                  simp at k2
                  subst k2
                  cases cs with
                  | nil => simp [bytesOf] at hb; exact hb.symm
                  | cons _ _ => simp [VRs] at k1
                simp [execOp, ho, convert, oks.run_und, okd.run_und, oke.run_und, hsl, Conv.bytesToString, hb0] <;> rfl
              | some ad =>
                simp only [Option.getD_some, Nat.mul_one] at k5
                simp only [execOp, ho, convert, Sem.run_bind, oks.run_und, okd.run_und, oke.run_und, hsl, Result.andThen_ok, Conv.bytesToString, k5, List.forIn_toArray]
                rw [bytesOf_ok _ ?hf cs us _ b hb k1]
                case hf => intro n s; rfl
                rfl
        · cases h
      · cases h
    · cases h
  · cases h

/-- Each operation that yields a value yields the related one. -/
theorem light_val (hT : TysOk E) (hm : MemV Γ m w) (hρ : ∀ x, VR Γ (ρ x) (σ x)) (o : Oper) {v : AVal} (h : light E m ρ o.op = some (.val v)) :
    ∃ q, (execOp σ o).run E.P w = .ok (.value q) w ∧ VR Γ v q := by
  have h0 := h
  cases ho : o.op <;> rw [ho] at h <;> simp only [light, reduceCtorEq] at h
  case move x =>
    simp only [Option.some.injEq, Light.val.injEq] at h
    subst h
    exact ⟨σ x, by simp [execOp, ho], hρ x⟩
  case assign x =>
    simp only [Option.some.injEq, Light.val.injEq] at h
    subst h
    exact ⟨σ x, by simp [execOp, ho], hρ x⟩
  case pick c a b =>
    split at h
    · rename_i t hc
      simp only [Option.some.injEq, Light.val.injEq] at h
      subst h
      have hv := hρ c
      rw [hc] at hv
      simp only [VR] at hv
      cases t
      · exact ⟨σ b, by simp [execOp, ho, hv, asBool], hρ b⟩
      · exact ⟨σ a, by simp [execOp, ho, hv, asBool], hρ a⟩
    · cases h
  case alloc t => split at h <;> simp at h
  case box t x => split at h <;> simp at h
  case build t ps =>
    simp only [Option.map_eq_some_iff, Light.val.injEq] at h
    obtain ⟨r, hb, rfl⟩ := h
    obtain ⟨u, hu, hr⟩ := buildVal_ok (w := w) hT hρ hb
    exact ⟨u, by simp [execOp, ho, hu], hr⟩
  case buildSlice t n ps =>
    repeat' split at h
    all_goals first
      | (cases h; done)
      | (simp only [cond_eq_ite] at h; split at h <;> simp at h)
  case load t x =>
    split at h
    · rename_i vt hg
      obtain ⟨i, d, z, ok⟩ := hT _ _ hg
      cases hr : readCells m (ρ x) vt.size with
      | none => simp [hr] at h
      | some cs =>
        simp only [hr, Option.bind_some, Option.map_eq_some_iff, Light.val.injEq] at h
        obtain ⟨v', hmk, rfl⟩ := h
        obtain ⟨a, us, ha, _, k1, k2, k3, k4⟩ := readCells_ok hm hr (hρ x)
        have := run_loadVar_cells (w := w) ok a us k2 (fun hb => by obtain ⟨c, hc⟩ := mkVal_len ok hmk hb; have := k1.length; simp [hc] at this; exact this.symm) k4
        exact ⟨_, by simp [execOp, ho, Instr.loadAt, ha, Instr.sureAddr, this], mkVal_ok ok hmk k1 k3⟩
    · cases h
  case nilCheck x =>
    have hv := hρ x
    split at h <;> simp only [Option.some.injEq, Light.val.injEq, reduceCtorEq] at h
    · rename_i hx
      subst h
      rw [hx] at hv
      have hv' := hv
      simp only [VR] at hv
      obtain ⟨a, ha, _⟩ := hv
      exact ⟨σ x, by simp [execOp, ho, ha], hv'⟩
    · rename_i hx
      subst h
      rw [hx] at hv
      have hv' := hv
      simp only [VR] at hv
      obtain ⟨a, ha, _⟩ := hv
      exact ⟨σ x, by simp [execOp, ho, ha], hv'⟩
    · rename_i hx
      subst h
      rw [hx] at hv
      have hv' := hv
      simp only [VR] at hv
      obtain ⟨us, vs, ha, _⟩ := hv
      exact ⟨σ x, by simp [execOp, ho, ha], hv'⟩
  case binOp op xT x y yT =>
    simp only [Option.map_eq_some_iff, Light.val.injEq] at h
    obtain ⟨r, hb, rfl⟩ := h
    obtain ⟨q, hq, hr⟩ := bin_ok (w := w) hT hb (hρ x) (hρ y) x y
    refine ⟨q, ?_, hr⟩
    simp only [execOp, ho, Sem.run_bind] at hq ⊢
    rw [hq]
    rfl
  case unOp op xT x =>
    simp only [Option.map_eq_some_iff, Light.val.injEq] at h
    obtain ⟨r, hb, rfl⟩ := h
    obtain ⟨q, hq, hr⟩ := un_ok (E := E) (w := w) hb (hρ x)
    exact ⟨q, by simp [execOp, ho, hq], hr⟩
  case convert s d x => exact light_convert hT hm ho hρ h0
  case makeFunc f first captured =>
    cases f <;> simp only [Option.some.injEq, Light.val.injEq, reduceCtorEq] at h
    subst h
    refine ⟨_, by simp [execOp, ho, Instr.makeFunc] <;> rfl, ?_⟩
    simp only [VR]
    exact ⟨_, _, rfl, by simpa using VRs_map first.toList hρ, by simpa using VRs_map captured.toList hρ⟩
  case makeSlice t l c =>
    repeat' split at h
    all_goals first
      | (cases h; done)
      | (cases hl : natOf (ρ l) with
         | none => simp [hl] at h
         | some n =>
           cases hc : natOf (ρ c) with
           | none => simp [hl, hc] at h
           | some k => simp only [hl, hc, Option.bind_some, cond_eq_ite] at h; split at h <;> simp at h)
  case slice t x lo hi mx =>
    cases h1 : optNat ρ lo with
    | none => simp [h1] at h
    | some l =>
      cases h2 : optNat ρ hi with
      | none => simp [h1, h2] at h
      | some k =>
        cases h3 : optNat ρ mx with
        | none => simp [h1, h2, h3] at h
        | some j =>
          simp only [h1, h2, h3, Option.bind_some, Option.map_eq_some_iff, Light.val.injEq] at h
          obtain ⟨r, hs, rfl⟩ := h
          obtain ⟨u, hu, hr⟩ := sliceOp_ok (w := w) hT hs (hρ x) (optNat_ok hρ h1) (optNat_ok hρ h2) (optNat_ok hρ h3)
          exact ⟨u, by simp [execOp, ho, hu], hr⟩
  case fieldAddr t x f => exact light_fieldAddr hT ho hρ h0
  case field t x f => exact light_field hT ho hρ h0
  case indexAddr t x ix =>
    cases hi : natOf (ρ ix) with
    | none => simp [hi] at h
    | some i =>
      simp only [hi, Option.bind_some, Option.map_eq_some_iff, Light.val.injEq] at h
      obtain ⟨r, hs, rfl⟩ := h
      obtain ⟨k, hk⟩ := natOf_ok hi (hρ ix)
      obtain ⟨u, hu, hr⟩ := elemAddr_ok (w := w) hT hs (hρ x) hk
      exact ⟨u, by simp [execOp, ho, hu], hr⟩
  case index t x ix =>
    cases hi : natOf (ρ ix) with
    | none => simp [hi] at h
    | some i =>
      simp only [hi, Option.bind_some, Option.map_eq_some_iff, Light.val.injEq] at h
      obtain ⟨r, hs, rfl⟩ := h
      obtain ⟨k, hk⟩ := natOf_ok hi (hρ ix)
      obtain ⟨u, hu, hr⟩ := elemAt_ok (w := w) hT hs (hρ x) hk
      exact ⟨u, by simp [execOp, ho, hu], hr⟩
  case extract x i =>
    split at h
    · rename_i vs hx
      have hv := hρ x
      rw [hx] at hv
      simp only [VR] at hv
      obtain ⟨us, hus, hr⟩ := hv
      simp only [Option.map_eq_some_iff, Light.val.injEq] at h
      obtain ⟨r, hg, rfl⟩ := h
      obtain ⟨u, hu, hru⟩ := hr.get hg
      have hu' : us[i]? = some u := by simpa using hu
      exact ⟨u, by simp [execOp, ho, hus, Instr.extract, hu'], hru⟩
    · cases h
  case call c =>
    obtain ⟨callee, args, argTypes⟩ := c
    cases callee with
    | value f => simp at h
    | invoke r n => simp at h
    | builtin b =>
      cases b <;> simp only [reduceCtorEq] at h
      case len =>
        split at h
        · rename_i x t hx ht
          simp only [Option.map_eq_some_iff, Light.val.injEq] at h
          obtain ⟨n, hn, rfl⟩ := h
          have ha : args = #[x] := Array.ext' hx
          have hb : argTypes = #[t] := Array.ext' ht
          subst ha; subst hb
          have := lenOf_ok (w := w) (ty := o.type) hT hn (hρ x)
          exact ⟨_, by simp [execOp, ho, resolve, invoke, builtin, this] <;> rfl, by simp [VR]⟩
        · cases h
      case cap =>
        split at h
        · rename_i x t hx ht
          simp only [Option.map_eq_some_iff, Light.val.injEq] at h
          obtain ⟨n, hn, rfl⟩ := h
          have ha : args = #[x] := Array.ext' hx
          have hb : argTypes = #[t] := Array.ext' ht
          subst ha; subst hb
          have := capOf_ok (w := w) (ty := o.type) hT hn (hρ x)
          exact ⟨_, by simp [execOp, ho, resolve, invoke, builtin, this] <;> rfl, by simp [VR]⟩
        · cases h
      case max =>
        simp only [Option.map_eq_some_iff, Light.val.injEq] at h
        obtain ⟨r, hf, rfl⟩ := h
        obtain ⟨v0, rest, e, u, hu, hr⟩ := foldInt_ok (E := E) (w := w) _ Builtin.max2 (fun _ _ _ _ => rfl) hf (VRs_map args.toList hρ)
        have e' : (args.map σ).toList = v0 :: rest := by simpa using e
        have : (Builtin.max_ argTypes o.type (args.map σ)).run E.P w = .ok u w := by unfold Builtin.max_; rw [e']; exact hu
        exact ⟨u, by simp [execOp, ho, resolve, invoke, builtin, this], hr⟩
      case min =>
        simp only [Option.map_eq_some_iff, Light.val.injEq] at h
        obtain ⟨r, hf, rfl⟩ := h
        obtain ⟨v0, rest, e, u, hu, hr⟩ := foldInt_ok (E := E) (w := w) _ Builtin.min2 (fun _ _ _ _ => rfl) hf (VRs_map args.toList hρ)
        have e' : (args.map σ).toList = v0 :: rest := by simpa using e
        have : (Builtin.min_ argTypes o.type (args.map σ)).run E.P w = .ok u w := by unfold Builtin.min_; rw [e']; exact hu
        exact ⟨u, by simp [execOp, ho, resolve, invoke, builtin, this], hr⟩

/-! ### What makes a block -/
theorem zeros_length (z : List AVal) : ∀ n, (zeros z n).length = n * z.length
  | 0 => by simp [zeros]
  | n + 1 => by simp [zeros, zeros_length z n, Nat.add_mul]; omega

theorem zeros_get (z : List AVal) : ∀ (n i : Nat), i < n * z.length → (zeros z n)[i]? = z[i % z.length]?
  | 0, i, h => by simp at h
  | n + 1, i, h => by
    simp only [zeros, List.getElem?_append]
    split
    · rename_i hlt; rw [Nat.mod_eq_of_lt hlt]
    · rename_i hge
      rw [zeros_get z n (i - z.length) (by rw [Nat.add_mul, Nat.one_mul] at h; omega)]
      congr 1
      rw [Nat.mod_eq_sub_mod (a := i) (by omega)]

theorem zeros_rel {zA : List AVal} {z : Array Value} (h : VRs Γ zA z.toList) (n k : Nat) (hk : k = n * z.size) : VRs Γ (zeros zA n) ((Array.range k).map fun i => z[i % z.size]!).toList := by
  subst hk
  have hl := h.length
  simp only [Array.length_toList] at hl
  refine VRs.of_get (by simp [zeros_length, hl]) (fun i a ha => ?_)
  have hi : i < n * zA.length := by have := (List.getElem?_eq_some_iff.1 ha).1; rwa [zeros_length] at this
  rw [zeros_get zA n i hi] at ha
  obtain ⟨v, hv, hr⟩ := h.get ha
  have hzp : 0 < z.size := by
    rcases Nat.eq_zero_or_pos z.size with h0 | h0
    · rw [hl, h0, Nat.mul_zero] at hi; omega
    · exact h0
  have hlt : i % z.size < z.size := Nat.mod_lt _ hzp
  rw [hl] at hv
  refine ⟨v, ?_, hr⟩
  have hv' : z[i % z.size]? = some v := by simpa using hv
  simp [hl ▸ hi, hlt, (Array.getElem?_eq_some_iff.1 hv').2]

theorem zeros_cell {z : Array Value} (h : ∀ u ∈ z.toList, u.oneCell' = true) (k : Nat) (hk : k = 0 ∨ 0 < z.size) : ∀ u ∈ ((Array.range k).map fun i => z[i % z.size]!).toList, u.oneCell' = true := by
  intro u hu
  simp only [Array.toList_map, List.mem_map, Array.toList_range, List.mem_range] at hu
  obtain ⟨i, hi, rfl⟩ := hu
  have hz : 0 < z.size := by omega
  have hlt : i % z.size < z.size := Nat.mod_lt _ hz
  simp only [hlt, getElem!_pos]
  exact h _ (by simp)

def isNew : Op → Bool
  | .alloc _ | .box .. | .buildSlice .. | .makeSlice .. => true
  | _ => false

theorem map_val_ne {α : Type} {f : α → AVal} {x : Option α} {blk : Block} {mk : NewV} (h : (x.map fun a => Light.val (f a)) = some (.new blk mk)) : False := by
  cases x <;> simp at h

theorem light_new_kind {op : Op} {blk : Block} {mk : NewV} (h : light E m ρ op = some (.new blk mk)) : isNew op = true := by
  unfold light at h
  split at h
  all_goals first
    | rfl
    | (exfalso; cases h; done)
    | (exfalso; simp at h; done)
    | (exfalso
       repeat' split at h
       all_goals first
         | (cases h; done)
         | (simp at h; done)
         | (simp only [cond_eq_ite] at h; split at h <;> simp [Option.bind_eq_some_iff, Option.map_eq_some_iff, Function.comp] at h; done)
         | (simp [Option.bind_eq_some_iff] at h; done))

theorem light_new (hT : TysOk E) (hρ : ∀ x, VR Γ (ρ x) (σ x)) (o : Oper) {blk : Block} {mk : NewV} (h : light E m ρ o.op = some (.new blk mk)) :
    ∃ q cs, (execOp σ o).run E.P w = .ok (.value q) (w.alloc (.cells cs blk.ty)) ∧ blk.fz = 0 ∧ VRs Γ blk.cells cs.toList ∧ (∀ u ∈ cs.toList, u.oneCell' = true) ∧
      ∀ (Δ : Ctx) (id : Nat), Δ.dom id → Δ.blk id = some ⟨blk.cells.length, w.heap.size, cs.size⟩ → VR Δ (mk.at id) q := by
  have hk := light_new_kind h
  cases ho : o.op <;> rw [ho] at h hk <;> simp only [isNew, Bool.false_eq_true] at hk <;> simp only [light] at h
  case alloc t =>
    split at h
    · rename_i vt hg
      obtain ⟨i, d, z, ok⟩ := hT _ _ hg
      simp only [Option.some.injEq, Light.new.injEq] at h
      obtain ⟨rfl, rfl⟩ := h
      refine ⟨_, z.cells, by simp [execOp, ho, Instr.alloc, ok.run_zero, newVar, newRow] <;> rfl, rfl, ok.zrel, ok.cell, fun Δ id hid hb => ?_⟩
      simp only [NewV.at, VR]
      exact ⟨_, rfl, hid, fun j hj => by rw [hb] at hj; cases hj; exact ⟨Nat.le_refl _, fun _ => rfl⟩⟩
    · cases h
  case box t x =>
    split at h
    · rename_i cs hc
      simp only [Option.some.injEq, Light.new.injEq] at h
      obtain ⟨rfl, rfl⟩ := h
      obtain ⟨k1, k2⟩ := cells_ok hc (hρ x)
      refine ⟨_, (σ x).cells, by simp [execOp, ho, Instr.box, newVar, newRow] <;> rfl, rfl, k1, k2, fun Δ id hid hb => ?_⟩
      simp only [NewV.at, VR]
      exact ⟨_, rfl, hid, fun j hj => by rw [hb] at hj; cases hj; exact ⟨Nat.le_refl _, fun _ => rfl⟩⟩
    · cases h
  case buildSlice t n ps =>
    split at h
    · rename_i e _ _ _ _ hg
      obtain ⟨i, d, z, ok⟩ := hT _ _ hg
      have hd := vdOf_slice ok.d.symm
      subst hd
      split at h
      · rename_i ve hve
        obtain ⟨ei, ed, ez, oke⟩ := hT _ _ hve
        simp only [nble, nblt, nbeq, cond_eq_ite, Bool.and_eq_true, decide_eq_true_eq] at h
        split at h
        · rename_i hc
          obtain ⟨⟨c1, c2⟩, c3⟩ := hc
          simp only [Option.map_eq_some_iff, Light.new.injEq] at h
          obtain ⟨cs, hf, rfl, rfl⟩ := h
          have hzl := (oke.zrel (Γ := Γ)).length
          simp only [Array.length_toList] at hzl
          have hsz : ez.cells.size = ve.size := by omega
          have key : ∀ zz : Array Value, (n * ve.size = 0 ∧ zz = #[] ∨ n * ve.size ≠ 0 ∧ zz = ez.cells) →
              VRs Γ (zeros ve.zero n) ((Array.range (n * ve.size)).map fun i => zz[i % zz.size]!).toList ∧ ∀ u ∈ ((Array.range (n * ve.size)).map fun i => zz[i % zz.size]!).toList, u.oneCell' = true := by
            intro zz hzz
            rcases hzz with ⟨h0, rfl⟩ | ⟨h0, rfl⟩
            · have : n = 0 := by
                rcases Nat.mul_eq_zero.1 h0 with h | h
                · exact h
                · omega
              subst this
              simp [zeros, VRs]
            · exact ⟨zeros_rel oke.zrel n _ (by rw [hsz]), zeros_cell oke.cell _ (by right; omega)⟩
          have hfill := fun (zz : Array Value) hzz => fillA_ok (Γ := Γ) _ (fun i => some (i * ve.size, ve.size)) (fun i q hq => hq) _ ((ps.map fun (i, x) => (i, σ x)).toList) _ cs ((Array.range (n * ve.size)).map fun i => zz[i % zz.size]!) hf (by simp) (fun j i a hj => parts_rel ps hρ j i a hj) (key zz hzz).1 (key zz hzz).2
          have hlen : cs.length = n * ve.size := by
            have : ∀ (ps : List (Nat × AVal)) (c r : List AVal), fillA (fun i => some (i * ve.size, ve.size)) c ps = some r → r.length = c.length := by
              intro ps
              induction ps with
              | nil => intro c r h; simp only [fillA, Option.some.injEq] at h; rw [h]
              | cons p ps ih =>
                intro c r h
                obtain ⟨i, a⟩ := p
                simp only [fillA] at h
                split at h
                · simp only [cond_eq_ite] at h
                  split at h
                  · rw [ih _ _ h, lput_length]
                  · cases h
                · cases h
            rw [this _ _ _ hf, zeros_length, c3]
          by_cases h0 : n * ve.size = 0
          · obtain ⟨r', hr1, hr2, hr3⟩ := hfill #[] (.inl ⟨h0, rfl⟩)
            have hl2 := hr2.length
            have hl3 := hlen
            refine ⟨.slice (some ⟨w.heap.size, 0, none⟩) n n, r', ?_, rfl, hr2, hr3, ?_⟩
            · have h24 : ¬ (n * ve.size > 2 ^ 24) := by omega
              have hr1' := hr1
              rw [h0] at hr1'
              simp only [execOp, ho, Instr.buildSlice, Sem.run_bind, ok.run_und, Result.andThen_ok, oke.run_size, h0, gt_iff_lt, Nat.not_lt_zero, if_false, if_true, Sem.run_pure, hr1', newRow, run_newObj]
              rfl
            · intro Δ id hid hb
              simp only [NewV.at, VR]
              refine ⟨_, _, rfl, Nat.le_refl _, Nat.le_refl _, fun _ => rfl, hid, fun j hj => ?_⟩
              rw [hb] at hj
              cases hj
              simp only [Array.length_toList] at hl2
              exact ⟨by show n * ve.size ≤ cs.length; omega, fun _ => ⟨rfl, by show 0 + n * ve.size ≤ r'.size; omega⟩⟩
          · obtain ⟨r', hr1, hr2, hr3⟩ := hfill ez.cells (.inr ⟨h0, rfl⟩)
            have hl2 := hr2.length
            have hl3 := hlen
            refine ⟨.slice (some ⟨w.heap.size, 0, none⟩) n n, r', ?_, rfl, hr2, hr3, ?_⟩
            · have h24 : ¬ (n * ve.size > 2 ^ 24) := by omega
              simp only [execOp, ho, Instr.buildSlice, Sem.run_bind, ok.run_und, Result.andThen_ok, oke.run_size, if_neg h24, if_neg h0, oke.run_zero, Sem.run_pure, hr1, newRow, run_newObj]
              rfl
            · intro Δ id hid hb
              simp only [NewV.at, VR]
              refine ⟨_, _, rfl, Nat.le_refl _, Nat.le_refl _, fun _ => rfl, hid, fun j hj => ?_⟩
              rw [hb] at hj
              cases hj
              simp only [Array.length_toList] at hl2
              exact ⟨by show n * ve.size ≤ cs.length; omega, fun _ => ⟨rfl, by show 0 + n * ve.size ≤ r'.size; omega⟩⟩
        · cases h
      · cases h
    · cases h
  case makeSlice t l c =>
    split at h
    · rename_i e _ _ _ _ hg
      obtain ⟨i, d, z, ok⟩ := hT _ _ hg
      have hd := vdOf_slice ok.d.symm
      subst hd
      split at h
      · rename_i ve hve
        obtain ⟨ei, ed, ez, oke⟩ := hT _ _ hve
        cases hl : natOf (ρ l) with
        | none => simp [hl] at h
        | some n =>
          cases hc : natOf (ρ c) with
          | none => simp [hl, hc] at h
          | some k =>
            simp only [hl, hc, Option.bind_some, nble, nblt, nbeq, cond_eq_ite, Bool.and_eq_true, decide_eq_true_eq] at h
            split at h
            · rename_i hcond
              obtain ⟨⟨⟨⟨c1, c2⟩, c3⟩, c4⟩, c5⟩ := hcond
              simp only [Option.some.injEq, Light.new.injEq] at h
              obtain ⟨rfl, rfl⟩ := h
              obtain ⟨k1, hk1⟩ := natOf_ok hl (hρ l)
              obtain ⟨k2, hk2⟩ := natOf_ok hc (hρ c)
              have hzl := (oke.zrel (Γ := Γ)).length
              simp only [Array.length_toList] at hzl
              have hsz : ez.cells.size = ve.size := by omega
              have w1 : IntKind.i64.wrap (n : Int) = n := by
                simp only [IntKind.wrap, IntKind.signed, IntKind.bits]
                have : (n : Int) % 2 ^ 64 = n := by omega
                simp; omega
              have w2 : IntKind.i64.wrap (k : Int) = k := by
                simp only [IntKind.wrap, IntKind.signed, IntKind.bits]
                have : (k : Int) % 2 ^ 64 = k := by omega
                simp; omega
              have w0 : IntKind.i64.wrap 0 = 0 := by decide
              have hbytes : ¬ (281474976710656 < (ei.bytes : Int) * (k : Int)) := by
                have e1 := oke.bytes
                have : ei.bytes * k ≤ 65536 * 1048576 := Nat.mul_le_mul (by omega) c2
                have h2 : ((ei.bytes * k : Nat) : Int) ≤ 65536 * 1048576 := by omega
                rw [Int.natCast_mul] at h2
                omega
              by_cases h0 : k * ve.size = 0
              · have hk0 : k = 0 := by rcases Nat.mul_eq_zero.1 h0 with h | h <;> omega
                subst hk0
                have hn0 : n = 0 := by omega
                subst hn0
                refine ⟨.slice (some ⟨w.heap.size, 0, none⟩) 0 0, #[], ?_, rfl, by simp [zeros, VRs], by simp, ?_⟩
                · simp [execOp, ho, Instr.makeSlice, ok.run_und, asInt, asIntOf, hk1, hk2, oke.run_info, w0, oke.run_size, newRow]
                  congr 2
                  apply Array.ext'
                  simp
                · intro Δ id hid hb
                  simp only [NewV.at, VR]
                  refine ⟨_, _, rfl, Nat.le_refl _, Nat.le_refl _, fun _ => rfl, hid, fun j hj => ?_⟩
                  rw [hb] at hj
                  cases hj
                  exact ⟨by simp, fun _ => ⟨rfl, by simp⟩⟩
              · refine ⟨.slice (some ⟨w.heap.size, 0, none⟩) n k, (Array.range (k * ve.size)).map fun i => ez.cells[i % ez.cells.size]!, ?_, rfl, zeros_rel oke.zrel k _ (by rw [hsz]), zeros_cell oke.cell _ (by right; omega), ?_⟩
                · have hlk : ¬ (k < n) := by omega
                  simp [execOp, ho, Instr.makeSlice, ok.run_und, asInt, asIntOf, hk1, hk2, oke.run_info, w1, w2, oke.run_size, oke.run_zero, newRow, h0, hbytes, hlk]
                  intro hbad
                  omega
                · intro Δ id hid hb
                  simp only [NewV.at, VR]
                  refine ⟨_, _, rfl, c1, Nat.le_refl _, fun _ => rfl, hid, fun j hj => ?_⟩
                  rw [hb] at hj
                  cases hj
                  exact ⟨by simp [zeros_length, c5], fun _ => ⟨rfl, by simp⟩⟩
            · cases h
      · cases h
    · cases h
end
end Go.V
