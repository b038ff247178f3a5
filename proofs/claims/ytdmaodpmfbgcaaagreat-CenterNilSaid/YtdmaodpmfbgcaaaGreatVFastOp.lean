/-
  Operations, code and calls of the machine made for the kernel: what they answer, the abstract machine answers.
-/
import Derived.Test.YtdmaodpmfbgcaaaGreatVFastLc2
namespace Go.V

/-- What a call of the machine answers, the abstract machine answers. -/
def CfOk (E : Env) (cf : CF) : Prop := ∀ f args m v m', cf f args m = .ok v m' → ∃ n, call E n f args m = some (v, m')

section
variable {E : Env} {f nt : Nat} {s : Slots} {m : Mem} {cf : CF} {k : KT}

theorem dst_ok (hnt : nt ≤ 256) (d : Option Nat) (v : AVal) : (dst nt d).d v k s m = .stuck ∨ ∃ s', St.put ⟨f, nt, s, m⟩ d v = some ⟨f, nt, s', m⟩ ∧ (dst nt d).d v k s m = k s' m := by
  cases d with
  | none => exact .inr ⟨s, rfl, rfl⟩
  | some d =>
    simp only [dst, St.put]
    cases h : Nat.blt d nt with
    | false => exact .inl rfl
    | true =>
      rw [nblt, decide_eq_true_eq] at h
      refine .inr ⟨Slots.put s d v, rfl, ?_⟩
      simp only [cond_true]
      rw [sp_ok d (by omega)]

/-- An operation's closure. -/
def OpOk (E : Env) (f nt : Nat) (ops : List Oper) (o : Oper) (oc : OC) : Prop :=
  ∀ cf, CfOk E cf → ∀ k s m, oc.run cf k s m = .stuck ∨ ∃ n s' m', runOp E (call E n) ops ⟨f, nt, s, m⟩ o = some ⟨f, nt, s', m'⟩ ∧ oc.run cf k s m = k s' m'

/-- The same of an operation that is wanted. -/
def PlainOk (E : Env) (f nt : Nat) (o : Oper) (oc : OC) : Prop :=
  ∀ cf, CfOk E cf → ∀ k s m, oc.run cf k s m = .stuck ∨ ∃ n s' m', oc.run cf k s m = k s' m' ∧ ∀ ops, wanted ops ⟨f, nt, s, m⟩ o = some true → runOp E (call E n) ops ⟨f, nt, s, m⟩ o = some ⟨f, nt, s', m'⟩

theorem run_val {call : CallFn} {ops : List Oper} {o : Oper} {v : AVal} {s' : Slots} (hw : wanted ops ⟨f, nt, s, m⟩ o = some true) (hh : isHeavy o.op = false) (hl : light E m (evF s) o.op = some (.val v)) (hp : St.put ⟨f, nt, s, m⟩ o.dst v = some ⟨f, nt, s', m⟩) :
    runOp E call ops ⟨f, nt, s, m⟩ o = some ⟨f, nt, s', m⟩ := by
  unfold runOp
  rw [hw]
  simp only [hh, cond_false]
  rw [← evF_ok f nt s m, hl]
  exact hp

theorem run_new {call : CallFn} {ops : List Oper} {o : Oper} {blk : Block} {mk : NewV} {s' : Slots} (hw : wanted ops ⟨f, nt, s, m⟩ o = some true) (hh : isHeavy o.op = false) (hl : light E m (evF s) o.op = some (.new blk mk))
    (hn : m.next < 65536) (hp : St.put ⟨f, nt, s, m.add blk⟩ o.dst (mk.at m.next) = some ⟨f, nt, s', m.add blk⟩) :
    runOp E call ops ⟨f, nt, s, m⟩ o = some ⟨f, nt, s', m.add blk⟩ := by
  unfold runOp
  rw [hw]
  simp only [hh, cond_false]
  rw [← evF_ok f nt s m, hl]
  simp only [nblt, hn, decide_true, cond_true]
  exact hp

theorem run_heavy {call : CallFn} {ops : List Oper} {o : Oper} {v : AVal} {m' : Mem} {s' : Slots} (hw : wanted ops ⟨f, nt, s, m⟩ o = some true) (hh : isHeavy o.op = true) (hl : heavy E call m (evF s) o.op = some (v, m')) (hp : St.put ⟨f, nt, s, m'⟩ o.dst v = some ⟨f, nt, s', m'⟩) :
    runOp E call ops ⟨f, nt, s, m⟩ o = some ⟨f, nt, s', m'⟩ := by
  unfold runOp
  rw [hw]
  simp only [hh, cond_true]
  rw [← evF_ok f nt s m, hl]
  exact hp

theorem forceN_ok (n : Nat) (g : Nat → XR) : forceN n g = g n := by cases n <;> rfl
theorem mkAt_ok (id : Nat) (mk : NewV) : mkAt id mk = mk.at id := by cases mk <;> rfl

theorem newF_ok (hnt : nt ≤ 256) (blk : Block) (mk : NewV) (d : Option Nat) : newF blk mk (dst nt d) k s m = .stuck ∨ (m.next < 65536 ∧ ∃ s', St.put ⟨f, nt, s, m.add blk⟩ d (mk.at m.next) = some ⟨f, nt, s', m.add blk⟩ ∧ newF blk mk (dst nt d) k s m = k s' (m.add blk)) := by
  obtain ⟨bl, nx⟩ := m
  have e : newF blk mk (dst nt d) k s ⟨bl, nx⟩ = @Bool.rec (fun _ => XR) .stuck (forceN nx (fun id => (dst nt d).d (mkAt id mk) k s ⟨(hp id).p bl (some blk), Nat.succ id⟩)) (Nat.blt nx 65536) := rfl
  rw [e, brec, forceN_ok, mkAt_ok, nblt, cond_eq_ite]
  by_cases h : nx < 65536
  · rw [if_pos (by simpa using h)]
    have e2 : (⟨(hp nx).p bl (some blk), Nat.succ nx⟩ : Mem) = Mem.add ⟨bl, nx⟩ blk := by
      unfold Mem.add Hp.put
      exact congrArg (fun z => (⟨z, nx + 1⟩ : Mem)) (pacc_ok (some blk) 8 bl nx)
    rw [e2]
    rcases dst_ok (f := f) (k := k) (s := s) (m := Mem.add ⟨bl, nx⟩ blk) hnt d (mk.at nx) with h1 | ⟨s', h1, h2⟩
    · exact .inl h1
    · exact .inr ⟨h, s', h1, h2⟩
  · rw [if_neg (by simpa using h)]; exact .inl rfl

theorem fin_ok (hnt : nt ≤ 256) {d : Option Nat} {r : Option AVal} : fin (dst nt d) r k s m = .stuck ∨ ∃ v s', r = some v ∧ St.put ⟨f, nt, s, m⟩ d v = some ⟨f, nt, s', m⟩ ∧ fin (dst nt d) r k s m = k s' m := by
  cases r with
  | none => exact .inl rfl
  | some v =>
    rcases dst_ok (f := f) (k := k) (s := s) (m := m) hnt d v with h | ⟨s', h1, h2⟩
    · exact .inl h
    · exact .inr ⟨v, s', rfl, h1, h2⟩

theorem newG_ok (hnt : nt ≤ 256) {o : Oper} (hh : isHeavy o.op = false) (oc : OC) (he : ∀ cf k s m, oc.run cf k s m = newG (newOf E m (evF s) o.op) (dst nt o.dst) k s m) : PlainOk E f nt o oc := by
  intro cf _ k s m
  rw [he]
  cases hr : newOf E m (evF s) o.op with
  | none => exact .inl rfl
  | some p =>
    obtain ⟨blk, mk⟩ := p
    rcases newF_ok (f := f) (k := k) (s := s) (m := m) hnt blk mk o.dst with h | ⟨h0, s', h1, h2⟩
    · exact .inl h
    · refine .inr ⟨0, s', m.add blk, h2, fun ops hw => run_new hw hh ?_ h0 h1⟩
      unfold newOf at hr
      split at hr
      · rename_i b k' hl; cases hr; exact hl
      · cases hr

theorem lightC_ok (hnt : nt ≤ 256) {o : Oper} (hh : isHeavy o.op = false) : PlainOk E f nt o (lightC E o.op (dst nt o.dst)) := by
  have gen : ∀ oc : OC, (∀ cf k s m, oc.run cf k s m = fin (dst nt o.dst) ((lc E o.op).l s m) k s m) → PlainOk E f nt o oc := by
    intro oc he cf _ k s m
    rw [he]
    rcases fin_ok (f := f) (k := k) (s := s) (m := m) (d := o.dst) (r := (lc E o.op).l s m) hnt with h | ⟨v, s', h0, h1, h2⟩
    · exact .inl h
    · exact .inr ⟨0, s', m, h2, fun ops hw => run_val hw hh (lc_ok _ h0) h1⟩
  obtain ⟨d, op, ty, pos, after, guard⟩ := o
  cases op <;> try exact gen _ (fun _ _ _ _ => rfl)
  case alloc t =>
    intro cf _ k s m
    simp only [lightC]
    cases ht : E.ty.get t with
    | none => exact .inl rfl
    | some vt =>
      simp only
      rcases newF_ok (f := f) (k := k) (s := s) (m := m) hnt ⟨t, vt.zero, 0⟩ (.ptr (lenF vt.zero)) d with h | ⟨h0, s', h1, h2⟩
      · exact .inl h
      · refine .inr ⟨0, s', _, h2, fun ops hw => run_new hw rfl ?_ h0 h1⟩
        simp only [light, ht, lenF_ok]
  case box t x =>
    intro cf _ k s m
    have e : (lightC E (.box t x) (dst nt d)).run cf k s m = boxF t (cellsF (evF s x)) (dst nt d) k s m := rfl
    rw [e, cellsF_ok]
    cases hc : (evF s x).cells? with
    | none => exact .inl rfl
    | some cs =>
      have e2 : boxF t (some cs) (dst nt d) k s m = newF ⟨t, cs, 0⟩ (.ptr (lenF cs)) (dst nt d) k s m := rfl
      rw [e2]
      rcases newF_ok (f := f) (k := k) (s := s) (m := m) hnt ⟨t, cs, 0⟩ (.ptr (lenF cs)) d with h | ⟨h0, s', h1, h2⟩
      · exact .inl h
      · refine .inr ⟨0, s', _, h2, fun ops hw => run_new hw rfl ?_ h0 h1⟩
        simp only [light, hc, lenF_ok]
  case buildSlice => exact newG_ok hnt hh _ (fun _ _ _ _ => rfl)
  case makeSlice => exact newG_ok hnt hh _ (fun _ _ _ _ => rfl)

theorem argsC_ok : ∀ l : List Operand, (argsC l).a s = l.map (evF s)
  | [] => rfl
  | x :: l => congrArg (evF s x :: ·) (argsC_ok l)

theorem leq_none {call : CallFn} : Leq (fun _ _ _ => none) call := fun _ _ _ _ h => by cases h

theorem call_run (hnt : nt ≤ 256) (hcf : CfOk E cf) {o : Oper} {g : FuncId} {args : List AVal} (hh : isHeavy o.op = true) (hl : ∀ call : CallFn, heavy E call m (evF s) o.op = call g args m) :
    callF1 (cf g args m) (dst nt o.dst) k s = .stuck ∨ ∃ n s' m', callF1 (cf g args m) (dst nt o.dst) k s = k s' m' ∧ ∀ ops, wanted ops ⟨f, nt, s, m⟩ o = some true → runOp E (call E n) ops ⟨f, nt, s, m⟩ o = some ⟨f, nt, s', m'⟩ := by
  cases hr : cf g args m with
  | stuck => exact .inl rfl
  | ok v m' =>
    have e : callF1 (.ok v m') (dst nt o.dst) k s = (dst nt o.dst).d v k s m' := rfl
    rw [e]
    obtain ⟨n, hn⟩ := hcf _ _ _ _ _ hr
    rcases dst_ok (f := f) (k := k) (s := s) (m := m') hnt o.dst v with h | ⟨s', h1, h2⟩
    · exact .inl h
    · exact .inr ⟨n, s', m', h2, fun ops hw => run_heavy hw hh (by rw [hl]; exact hn) h1⟩

theorem heavyC_ok (hnt : nt ≤ 256) {o : Oper} (hh : isHeavy o.op = true) : PlainOk E f nt o (heavyC E o.op (dst nt o.dst)) := by
  have gen : ∀ oc : OC, (∀ cf k s m, oc.run cf k s m = heavyG (heavy E (fun _ _ _ => none) m (evF s) o.op) (dst nt o.dst) k s) → PlainOk E f nt o oc := by
    intro oc he cf _ k s m
    rw [he]
    cases hr : heavy E (fun _ _ _ => none) m (evF s) o.op with
    | none => exact .inl rfl
    | some p =>
      obtain ⟨v, m'⟩ := p
      rcases dst_ok (f := f) (k := k) (s := s) (m := m') hnt o.dst v with h | ⟨s', h1, h2⟩
      · exact .inl h
      · exact .inr ⟨0, s', m', h2, fun ops hw => run_heavy hw hh (heavy_mono leq_none hr) h1⟩
  obtain ⟨d, op, ty, pos, after, guard⟩ := o
  cases op <;> try exact gen _ (fun _ _ _ _ => rfl)
  case store t a v =>
    intro cf _ k s m
    simp only [heavyC]
    cases ht : E.ty.get t with
    | none => exact .inl rfl
    | some vt =>
      have e1 : (opn a).g s = evF s a := rfl
      have e2 : (opn v).g s = evF s v := rfl
      simp only [e1, e2, cellsF_ok]
      cases hc : (evF s v).cells? with
      | none => exact .inl rfl
      | some cs =>
        cases ha : asPtr (evF s a) with
        | no => left; unfold storeF; simp only [ha]
        | iptr cells => left; unfold storeF; simp only [ha]
        | ptr b ext off =>
          have e3 : storeF vt.size (evF s a) (some cs) (dst nt d) k s m = wrF (mget m b) b ext off vt.size cs (dst nt d) k s m := by
            unfold storeF; simp only [ha]
          rw [e3, mget_ok]
          cases hg : m.get b with
          | none => exact .inl rfl
          | some blk =>
            obtain ⟨bty, cells, fz⟩ := blk
            have e4 : wrF (some ⟨bty, cells, fz⟩) b ext off vt.size cs (dst nt d) k s m = @Bool.rec (fun _ => XR) .stuck (@Bool.rec (fun _ => XR) .stuck (@Bool.rec (fun _ => XR) .stuck (@Bool.rec (fun _ => XR) .stuck
              ((dst nt d).d (.tup []) k s (mupd m b ⟨bty, lputF cells off cs, fz⟩)) (Nat.ble (Nat.add off vt.size) ext)) (Nat.ble fz off)) (Nat.beq (lenF cells) ext)) (Nat.beq (lenF cs) vt.size) := rfl
            rw [e4]
            simp only [brec, nbeq, nble, cond_eq_ite, decide_eq_true_eq, lenF_ok]
            by_cases c1 : cs.length = vt.size
            · rw [if_pos c1]
              by_cases c2 : cells.length = ext
              · rw [if_pos c2]
                by_cases c3 : fz ≤ off
                · rw [if_pos c3]
                  by_cases c4 : off + vt.size ≤ ext
                  · rw [if_pos (show Nat.add off vt.size ≤ ext from c4), mupd_ok, lputF_ok]
                    rcases dst_ok (f := f) (k := k) (s := s) (m := m.upd b ⟨bty, lput cells off cs, fz⟩) hnt d (.tup []) with h | ⟨s', h1, h2⟩
                    · exact .inl h
                    · refine .inr ⟨0, s', _, h2, fun ops hw => run_heavy hw hh ?_ h1⟩
                      simp only [heavy, ht, asPtr_ptr ha, hc, nbeq, c1, decide_true, cond_true, writeCells, hg, c2, nble, c3, c4, Bool.and_self, Option.map_some]
                  · rw [if_neg (show ¬ Nat.add off vt.size ≤ ext from c4)]; exact .inl rfl
                · rw [if_neg c3]; exact .inl rfl
              · rw [if_neg c2]; exact .inl rfl
            · rw [if_neg c1]; exact .inl rfl
  case call c =>
    obtain ⟨callee, args, argTypes⟩ := c
    cases callee with
    | invoke r n => exact gen _ (fun _ _ _ _ => rfl)
    | builtin b => exact gen _ (fun _ _ _ _ => rfl)
    | value x =>
      have dyn : ∀ cf k s m, CfOk E cf → callG (evF s x) ((argsC args.toList).a s) cf (dst nt d) k s m = .stuck ∨ ∃ n s' m', callG (evF s x) ((argsC args.toList).a s) cf (dst nt d) k s m = k s' m' ∧
          ∀ ops, wanted ops ⟨f, nt, s, m⟩ ⟨d, .call ⟨.value x, args, argTypes⟩, ty, pos, after, guard⟩ = some true → runOp E (call E n) ops ⟨f, nt, s, m⟩ ⟨d, .call ⟨.value x, args, argTypes⟩, ty, pos, after, guard⟩ = some ⟨f, nt, s', m'⟩ := by
        intro cf k s m hcf
        cases hx : evF s x <;> try exact .inl rfl
        rename_i g first captured
        have e : callG (.fn g first captured) ((argsC args.toList).a s) cf (dst nt d) k s m = callF1 (cf g (first ++ (argsC args.toList).a s ++ captured) m) (dst nt d) k s := rfl
        rw [e, argsC_ok]
        exact call_run hnt hcf (o := ⟨d, .call ⟨.value x, args, argTypes⟩, ty, pos, after, guard⟩) rfl fun call => by simp only [heavy, hx]
      cases x with
      | func g =>
        intro cf hcf k s m
        have e : (heavyC E (.call ⟨.value (.func g), args, argTypes⟩) (dst nt d)).run cf k s m = callF1 (cf g ((argsC args.toList).a s) m) (dst nt d) k s := rfl
        rw [e, argsC_ok]
        refine call_run hnt hcf (o := ⟨d, .call ⟨.value (.func g), args, argTypes⟩, ty, pos, after, guard⟩) rfl fun call => ?_
        have hx : evF s (.func g) = .fn g [] [] := rfl
        simp only [heavy, hx, List.nil_append, List.append_nil]
      | tmp t => intro cf hcf k s m; exact dyn cf k s m hcf
      | const v => intro cf hcf k s m; exact dyn cf k s m hcf
      | global g => intro cf hcf k s m; exact dyn cf k s m hcf

theorem plainC_ok (hnt : nt ≤ 256) (o : Oper) : PlainOk E f nt o (plainC E nt o) := by
  unfold plainC
  cases hh : isHeavy o.op with
  | true => simp only [cond_true]; exact heavyC_ok hnt hh
  | false =>
    simp only [cond_false]
    have mv : ∀ (x : Operand) (d : Nat), o.dst = some d → (∀ m s, light E m (evF s) o.op = some (.val (evF s x))) → PlainOk E f nt o (bif Nat.blt d nt then ⟨fun _ k s m => k ((sp d).p s ((opn x).g s)) m⟩ else ⟨fun _ _ _ _ => .stuck⟩) := by
      intro x d hd hl cf _ k s m
      cases hb : Nat.blt d nt with
      | false => exact .inl rfl
      | true =>
        have hlt := hb
        rw [nblt, decide_eq_true_eq] at hlt
        have e : (sp d).p s ((opn x).g s) = Slots.put s d (evF s x) := sp_ok d (by omega) s _
        refine .inr ⟨0, Slots.put s d (evF s x), m, ?_, fun ops hw => run_val hw hh (hl m s) ?_⟩
        · simp only [cond_true, e]
        · rw [hd]; simp only [St.put, hb, cond_true]
    split
    · rename_i x d h1 h2; exact mv x d h2 fun m s => by rw [h1]; rfl
    · rename_i x d h1 h2; exact mv x d h2 fun m s => by rw [h1]; rfl
    · exact lightC_ok hnt hh

theorem opC_ok (hnt : nt ≤ 256) (ops : List Oper) (o : Oper) : OpOk E f nt ops o (opC E nt ops o) := by
  intro cf hcf k s m
  unfold opC
  split
  · rename_i hg
    rcases plainC_ok (E := E) (f := f) hnt o cf hcf k s m with h | ⟨n, s', m', h1, h2⟩
    · exact .inl h
    · exact .inr ⟨n, s', m', h2 ops (by simp only [wanted, hg]), h1⟩
  · rename_i j want hg
    split
    · rename_i d _ _ _ _ _ hj
      have e : (opn (.tmp d)).g s = St.slot ⟨f, nt, s, m⟩ d := opn_ok (.tmp d) f nt s m
      simp only [e]
      have skip : wanted ops ⟨f, nt, s, m⟩ o = some false → (dst nt o.dst).d (.tup []) k s m = .stuck ∨ ∃ n s' m', runOp E (call E n) ops ⟨f, nt, s, m⟩ o = some ⟨f, nt, s', m'⟩ ∧ (dst nt o.dst).d (.tup []) k s m = k s' m' := by
        intro hw
        rcases dst_ok (f := f) (k := k) (s := s) (m := m) hnt o.dst (.tup []) with h | ⟨s', h1, h2⟩
        · exact .inl h
        · exact .inr ⟨0, s', m, by unfold runOp; rw [hw]; exact h1, h2⟩
      cases hv : asGuard (St.slot ⟨f, nt, s, m⟩ d) with
      | no => exact .inl rfl
      | tup =>
        obtain ⟨vs, hvs⟩ := asGuard_tup hv
        exact skip (by simp only [wanted, hg, hj, hvs])
      | bool b =>
        have hb := asGuard_bool hv
        have hw : wanted ops ⟨f, nt, s, m⟩ o = some (b == want) := by simp only [wanted, hg, hj, hb]
        have e2 : guardF (.bool b) want (plainC E nt o) (dst nt o.dst) cf k s m = @Bool.rec (fun _ => XR) ((plainC E nt o).run cf k s m) ((dst nt o.dst).d (.tup []) k s m) (xorF b want) := rfl
        rw [e2, xorF_ok]
        cases hx : (b != want) with
        | true => exact skip (by rw [hw]; cases b <;> cases want <;> first | rfl | cases hx)
        | false =>
          rcases plainC_ok (E := E) (f := f) hnt o cf hcf k s m with h | ⟨n, s', m', h1, h2⟩
          · exact .inl h
          · exact .inr ⟨n, s', m', h2 ops (by rw [hw]; cases b <;> cases want <;> first | rfl | cases hx), h1⟩
    · exact .inl rfl
end
end Go.V
