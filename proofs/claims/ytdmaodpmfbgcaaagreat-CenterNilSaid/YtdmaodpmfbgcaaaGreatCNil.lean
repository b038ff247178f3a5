/-
  CenterNil answers true, whatever the change and the message, and leaves all memory as it was: said of the model's own calls.
-/
import Derived.Test.YtdmaodpmfbgcaaaGreatMsg
import Derived.Test.YtdmaodpmfbgcaaaGreatAwake27
set_option maxRecDepth 100000
namespace Go.Proofs.Tryz
open Go Go.V

theorem ctagsAt_ctags : ∀ (n k : Nat) (cs : List AVal), ctagsAt k n cs = true → cs = ctags k n
  | 0, k, [], _ => rfl
  | 0, k, _ :: _, h => by cases h
  | n + 1, k, [], h => by cases h
  | n + 1, k, c :: cs, h => by
    cases c <;> first | (cases h; done) | skip
    rename_i j
    simp only [ctagsAt, Bool.and_eq_true, nbeq, decide_eq_true_eq] at h
    rw [ctags, h.1, ctagsAt_ctags n (k + 1) cs h.2]

theorem tags_eq {Γ : Ctx} : ∀ (n k : Nat) (vs us : List Value), VRs Γ (ctags k n) vs → us.length = n → (∀ i, i < n → Γ.inp (k + i) = us.getD i undef) → vs = us
  | 0, k, vs, us, h, hl, _ => by
    simp only [ctags, VRs] at h
    cases us with
    | nil => exact h
    | cons _ _ => cases hl
  | n + 1, k, vs, us, h, hl, hi => by
    simp only [ctags, VRs, VR] at h
    obtain ⟨v, l, rfl, ⟨h1, _⟩, h2⟩ := h
    cases us with
    | nil => cases hl
    | cons u us =>
      have e := hi 0 (by omega)
      rw [Nat.add_zero] at e
      rw [h1, e, tags_eq n (k + 1) l us h2 (by simpa using hl) fun i hin => by rw [show k + 1 + i = k + (i + 1) by omega, hi (i + 1) (by omega)]; simp]
      rfl

theorem tags_vrs {Γ : Ctx} : ∀ (n k : Nat) (us : List Value), us.length = n → (∀ i, i < n → Γ.inp (k + i) = us.getD i undef) → (∀ u ∈ us, u.oneCell' = true) → VRs Γ (ctags k n) us
  | 0, k, [], _, _, _ => by simp only [ctags, VRs]
  | n + 1, k, u :: us, hl, hi, ho => by
    simp only [ctags, VRs, VR]
    refine ⟨u, us, rfl, ⟨by have := hi 0 (by omega); rw [Nat.add_zero] at this; rw [this]; rfl, ho u (List.mem_cons_self ..)⟩, tags_vrs n (k + 1) us (by simpa using hl) (fun i hin => ?_) fun u hu => ho u (List.mem_cons_of_mem _ hu)⟩
    rw [show k + 1 + i = k + (i + 1) by omega, hi (i + 1) (by omega)]; simp

theorem agg_eq {Γ : Ctx} {l : List AVal} {us : Array Value} {v : Value} (h : VR Γ (.agg l) v) (he : ∀ vs, VRs Γ l vs → vs = us.toList) : v = .agg us := by
  simp only [VR] at h
  obtain ⟨ws, rfl, h1, _⟩ := h
  have := he _ h1
  congr 1
  exact Array.toList_inj.1 this

theorem agg_vr {Γ : Ctx} {l : List AVal} {us : Array Value} (h : VRs Γ l us.toList) (ho : ∀ u ∈ us.toList, u.oneCell' = true) : VR Γ (.agg l) (.agg us) := by
  simp only [VR]
  exact ⟨us, rfl, h, ho⟩

theorem to_call {nb : Nat} (h : nb ≤ 20) : ∃ n cs m, V.call (E orc0) n 33 [.agg (msgTags nb)] Mem.nil = some (.agg cs, m) ∧ cs.length = 11 := by
  have := List.all_eq_true.1 to_run nb (List.mem_range.2 (by omega))
  cases hr : fcall (E orc0) 1000 33 [.agg (msgTags nb)] Mem.nil with
  | stuck => rw [hr] at this; cases this
  | ok v m =>
    rw [hr] at this
    have h' : (@Option.rec (List AVal) (fun _ => Bool) false (fun cs => Nat.beq cs.length 11) (V.asAgg v)) = true := this
    cases hb : V.asAgg v with
    | none => rw [hb] at h'; cases h'
    | some cs =>
      rw [hb] at h'
      obtain ⟨k, hk⟩ := fcall_ok 1000 33 _ _ v m hr
      rw [asAgg_some hb] at hk
      exact ⟨k, cs, m, hk, Nat.eq_of_beq_eq_true h'⟩

theorem vrs_any {Γ : Ctx} : ∀ (n : Nat) (us : List Value), us.length = n → VRs Γ (List.replicate n .any) us
  | 0, [], _ => by simp [VRs]
  | n + 1, u :: us, h => by
    rw [List.replicate_succ]
    simp only [VRs]
    exact ⟨u, us, rfl, by simp only [VR], vrs_any n us (by simpa using h)⟩

variable {W : World} {o4 m11 : List Value} {b o : Nat}

/-- The contract of CenterNil: the change's four cells, the message's eleven. -/
theorem cnil_calls {v0 : Value} (ho4 : o4.length = 4) (hm11 : m11.length = 11) (oo : ∀ c ∈ o4, c.oneCell' = true) (om : ∀ c ∈ m11, c.oneCell' = true)
    {strs : List ByteArray} {s : ByteArray} (hop : VRs (ctxM W (o4 ++ m11) b o) [.imm (strs.map .str) strs.length, .any, .str s, .any] o4)
    {bss : List (List AVal)} {n : Nat} {kss : List (List AVal)} {c : Nat} (hb : ∀ x ∈ bss, BunR x) (hT : TreeR n kss) (hdeep : VRs (ctxM W (o4 ++ m11) b o) (msgC bss n kss c) m11) (htags : VRs (ctxM W (o4 ++ m11) b o) (msgTags bss.length) m11) :
    Calls prog 5 #[v0, .agg o4.toArray, .agg m11.toArray] W fun e w' => e = .returned (.bool true) ∧ V.Grown W w' := by
  have hinp : ∀ i, i < 15 → (ctxM W (o4 ++ m11) b o).inp i = (o4 ++ m11).getD i undef := fun i hi => by
    show (if i < 100 then _ else _) = _
    rw [if_pos (by omega)]
  have hi4 : ∀ i, i < 4 → (ctxM W (o4 ++ m11) b o).inp (0 + i) = o4.getD i undef := fun i hi => by
    rw [hinp _ (by omega), List.getD_eq_getElem?_getD, List.getD_eq_getElem?_getD, Nat.zero_add, List.getElem?_append_left (by omega)]
  have hi11 : ∀ i, i < 11 → (ctxM W (o4 ++ m11) b o).inp (4 + i) = m11.getD i undef := fun i hi => by
    rw [hinp _ (by omega), List.getD_eq_getElem?_getD, List.getD_eq_getElem?_getD, List.getElem?_append_right (by omega), show 4 + i - o4.length = i by omega]
  have hE : EnvOk (E orc0) (ctxM W (o4 ++ m11) b o) := envOk (fun _ h => h) (orcOk0 _)
  obtain ⟨na, ma, hawake⟩ := okB_call awake27_run
  obtain ⟨ns, b1, ms, hshort⟩ := short_call strs s
  obtain ⟨nm, v2, mm, hsmall, h20, b2, rfl⟩ := small25_ok hb hT c Mem.nil (by show 0 ≤ 100; omega)
  have hO : OrcOk (E (orcC b1 b2)) (ctxM W (o4 ++ m11) b o) := by
    intro f args v hv
    have hv' : orcC b1 b2 f args = some v := hv
    unfold orcC at hv'
    simp only [nbeq, cond_eq_ite, decide_eq_true_eq] at hv'
    split at hv'
    · rename_i hf; subst hf
      split at hv'
      · cases hv'
        refine ⟨(call_sound hE na).fn 9 [] Mem.nil _ hawake, fun Γ vs w hbase ha hro => ?_⟩
        exact orc_bool hE hawake hbase (by simp only [VRs] at ha ⊢; exact ha) hro
      · cases hv'
    · split at hv'
      · rename_i hf; subst hf
        split at hv'
        · rename_i cs
          split at hv'
          · rename_i ht
            cases hv'
            have := ctagsAt_ctags 4 0 cs ht
            subst this
            refine ⟨(call_sound hE ns).fn 18 _ Mem.nil _ hshort, fun Γ vs w hbase ha hro => ?_⟩
            refine orc_bool hE hshort hbase ?_ hro
            simp only [VRs] at ha ⊢
            obtain ⟨v, l, e, h1, rfl⟩ := ha
            have hi : Γ.inp = (ctxM W (o4 ++ m11) b o).inp := hbase.inp
            have := agg_eq (us := o4.toArray) h1 fun vs hvs => by
              simpa using tags_eq 4 0 vs o4 hvs ho4 (fun i h => by rw [hi]; exact hi4 i h)
            subst this
            exact ⟨_, [], e, agg_vr (us := o4.toArray) hop oo, rfl⟩
          · cases hv'
        · cases hv'
      · split at hv'
        · rename_i hf; subst hf
          split at hv'
          · rename_i cs
            split at hv'
            · rename_i ht
              cases hv'
              have := ctagsAt_ctags 11 4 cs ht
              subst this
              refine ⟨(call_sound hE nm).fn 28 _ Mem.nil _ hsmall, fun Γ vs w hbase ha hro => ?_⟩
              refine orc_bool hE hsmall hbase ?_ hro
              simp only [VRs] at ha ⊢
              obtain ⟨v, l, e, h1, v', l', rfl, h2, rfl⟩ := ha
              have hi : Γ.inp = (ctxM W (o4 ++ m11) b o).inp := hbase.inp
              have := agg_eq (us := m11.toArray) h1 fun vs hvs => by
                simpa using tags_eq 11 4 vs m11 hvs hm11 (fun i h => by rw [hi]; exact hi11 i h)
              subst this
              simp only [VR] at h2
              subst h2
              exact ⟨_, _, e, agg_vr (us := m11.toArray) hdeep om, _, [], rfl, by simp only [VR]; rfl, rfl⟩
            · cases hv'
          · cases hv'
        · split at hv'
          · rename_i hf; subst hf
            split at hv'
            · rename_i cs
              split at hv'
              · rename_i ht
                rw [Bool.and_eq_true] at ht
                cases hv'
                have hnb : bss.length ≤ 20 := by
                  rcases Nat.lt_or_ge 20 bss.length with h | h
                  · have := h20 h
                    rw [ht.1] at this; cases this
                  · exact h
                obtain ⟨nt, cs', mt, hto, hc11⟩ := to_call hnb
                have := ctagsAt_ctags 11 4 cs ht.2
                subst this
                refine ⟨(call_sound hE nt).fn 33 _ Mem.nil _ hto, fun Γ vs w hbase ha hro => ?_⟩
                have hi : Γ.inp = (ctxM W (o4 ++ m11) b o).inp := hbase.inp
                simp only [VRs] at ha
                obtain ⟨v, l, e, h1, rfl⟩ := ha
                have := agg_eq (us := m11.toArray) h1 fun vs hvs => by
                  simpa using tags_eq 11 4 vs m11 hvs hm11 (fun i h => by rw [hi]; exact hi11 i h)
                subst this
                refine (still_calls hE hto (vs := vs) (w := w) (by rw [e]; simp only [VRs]; exact ⟨_, [], rfl, agg_vr (us := m11.toArray) htags om, rfl⟩) fun b o u h => hro b o u (hbase.ro b o u h)).mono fun e w' he => ?_
                obtain ⟨Δ, u, h3, h4, h5⟩ := he
                refine ⟨u, h3, ?_, h5⟩
                simp only [VR] at h4
                obtain ⟨us, rfl, h6, h7⟩ := h4
                exact agg_vr (vrs_any 11 us.toList (by rw [← h6.length, hc11])) h7
              · cases hv'
            · cases hv'
          · cases hv'
  have hE2 : EnvOk (E (orcC b1 b2)) (ctxM W (o4 ++ m11) b o) := envOk (fun _ h => h) hO
  have hc : ∃ k m, V.call (E (orcC b1 b2)) k 5 [.any, .agg (ctags 0 4), .agg (ctags 4 11)] Mem.nil = some (.bool true, m) := by
    cases b1 <;> cases b2
    · exact okB_call cnil_ff
    · exact okB_call cnil_ft
    · exact okB_call cnil_tf
    · exact okB_call cnil_tt
  obtain ⟨k, m, hc⟩ := hc
  refine (still_calls (vs := #[v0, .agg o4.toArray, .agg m11.toArray]) (w := W) hE2 hc ?_ fun _ _ _ h => h).mono fun e w' he => ?_
  · simp only [VRs]
    exact ⟨_, _, rfl, by simp only [VR], _, _, rfl, agg_vr (us := o4.toArray) (tags_vrs 4 0 o4 ho4 hi4 oo) oo, _, [], rfl, agg_vr (us := m11.toArray) (tags_vrs 11 4 m11 hm11 hi11 om) om, rfl⟩
  · obtain ⟨Δ, u, rfl, hu, hg⟩ := he
    simp only [VR] at hu
    subst hu
    exact ⟨rfl, hg⟩
end Go.Proofs.Tryz
