/-
  'Small' of the references answers a Bool, whatever the message: on the abstract machine.
-/
import Derived.Test.YtdmaodpmfbgcaaaGreatRoom
set_option maxRecDepth 100000
namespace Go.Proofs.Tryz
open Go Go.V
attribute [local simp] runOp wanted isHeavy light St.ev St.slot_mk sget_put St.put_mk AVal.cells? NewV.at nblt nble ofConst ofConst1 fieldOf shift readCells lget mkVal VD.isAgg lenOf sliceLen bin arith cmpInt natOf_cast elemAddr argSlots un
theorem ty44 : ∃ z q e, (E orc0).ty.get 44 = some ⟨.struct [(40, 0), (42, 2)], 3, q, z, e⟩ := ⟨_, _, _, rfl⟩
theorem ty42 : ∃ z q e, (E orc0).ty.get 42 = some ⟨.slice 298, 1, q, z, e⟩ := ⟨_, _, _, rfl⟩
theorem ty45 : ∃ z q e, (E orc0).ty.get 45 = some ⟨.slice 197, 1, q, z, e⟩ := ⟨_, _, _, rfl⟩
theorem ty197 : ∃ z q e, (E orc0).ty.get 197 = some ⟨.struct [(3, 0), (2, 1), (2, 2), (50, 3), (44, 7)], 10, q, z, e⟩ := ⟨_, _, _, rfl⟩
theorem ty89 : ∃ z q e, (E orc0).ty.get 89 = some ⟨.struct [(3, 0), (3, 1), (3, 2), (50, 3), (45, 7), (44, 8)], 11, q, z, e⟩ := ⟨_, _, _, rfl⟩
theorem fns180 : (E orc0).fns.get 180 = some f180 := by kernel_rfl
theorem vntmps180 : f180.ntmps = 9 := by kernel_rfl
theorem vresults180 : f180.results.toList = [.tmp 4] := by kernel_rfl
theorem body180 : f180.body = some ((f180.body).getD .skip) := by kernel_rfl
theorem fns92 : (E orc0).fns.get 92 = some f92 := by kernel_rfl
theorem vntmps92 : f92.ntmps = 16 := by kernel_rfl
theorem vresults92 : f92.results.toList = [.tmp 4] := by kernel_rfl
theorem body92 : f92.body = some ((f92.body).getD .skip) := by kernel_rfl
theorem fns93 : (E orc0).fns.get 93 = some f93 := by kernel_rfl
theorem vntmps93 : f93.ntmps = 9 := by kernel_rfl
theorem vresults93 : f93.results.toList = [.tmp 4] := by kernel_rfl
theorem body93 : f93.body = some ((f93.body).getD .skip) := by kernel_rfl
theorem fns28 : (E orc0).fns.get 28 = some f28 := by kernel_rfl
theorem vntmps28 : f28.ntmps = 32 := by kernel_rfl
theorem vresults28 : f28.results.toList = [.tmp 4] := by kernel_rfl
theorem body28 : f28.body = some ((f28.body).getD .skip) := by kernel_rfl

/-- A tree: so many entries, and these kids. -/
def TreeR (n : Nat) (kss : List (List AVal)) : Prop := n ≤ 140737488355328 ∧ kss.length ≤ 140737488355328 ∧ ∀ ks ∈ kss, KidR ks
theorem room_tree {n : Nat} {kss : List (List AVal)} (h : TreeR n kss) : RoomOk n kss := room_body n kss h.2.2 (fun ks hk => room_ok (h.2.2 ks hk)) h.1 h.2.1
abbrev treeC (n : Nat) (kss : List (List AVal)) : List AVal := [.imm [] n, .imm kss.flatten kss.length]
abbrev cauC (n : Nat) (kss : List (List AVal)) (c : Nat) : List AVal := [.imm [] n, .imm kss.flatten kss.length, .imm [] c]
abbrev bunC (n : Nat) (kss : List (List AVal)) (c : Nat) : List AVal := [.any, .any, .any, .any, .any, .any, .any, .imm [] n, .imm kss.flatten kss.length, .imm [] c]
def IsBool (v : AVal) : Prop := ∃ b, v = .bool b

theorem small8_ok {n : Nat} {kss : List (List AVal)} (h : TreeR n kss) (m : Mem) (hm0 : m.next ≤ 50000) : vcall (E orc0) 180 [.agg (treeC n kss), .int .i64 30] m fun v m' => IsBool v ∧ Grew m m' 32 := by
  obtain ⟨z40, q40, e40, t40⟩ := ty40
  obtain ⟨z37, q37, e37, t37⟩ := ty37
  obtain ⟨z38, q38, e38, t38⟩ := ty38
  obtain ⟨z301, q301, e301, t301⟩ := ty301
  obtain ⟨z44, q44, e44, t44⟩ := ty44
  obtain ⟨z42, q42, e42, t42⟩ := ty42
  obtain ⟨z45, q45, e45, t45⟩ := ty45
  obtain ⟨z197, q197, e197, t197⟩ := ty197
  obtain ⟨z89, q89, e89, t89⟩ := ty89
  have hnx : m.next < 65536 := by omega
  have hm := get_add_self m ⟨40, treeC n kss, 0⟩ hnx
  refine vcall_body (fn := f180) (c := ((f180.body).getD .skip)) rfl fns180 body180 (by rw [vntmps180]; show 2 ≤ 9; decide) (by rw [vntmps180]; decide) ?_
  rw [vntmps180]
  simp only [vresults180]
  unfold f180
  simp only [Option.getD_some]
  refine vwp_seq ?_
  refine vwp_region ?_
  iterate 2 (refine vops_cons (n := 0) (by simp [hnx]; rfl) ?_)
  refine vops_nil ?_
  refine vwp_seq (vwp_region ?_)
  iterate 2 (refine vops_cons (n := 0) (by simp [t40, hm]; rfl) ?_)
  refine vops_call (g := 290) rfl rfl rfl ?_
  refine (room_tree h 30 8 _ (by omega) (by omega) (by rw [next_add]; omega)).mono fun v m' hv => ?_
  obtain ⟨z, rfl, hz, hup, hpos, hneg, hkeep⟩ := hv
  refine ⟨_, by simp; rfl, ?_⟩
  iterate 2 (refine vops_cons (n := 0) (by simp; rfl) ?_)
  refine vops_nil (vwp_ret ⟨.inr rfl, _, by simp [resultVals]; rfl, ⟨_, rfl⟩, ?_⟩)
  rw [next_add] at hup hpos hneg
  refine ⟨by show m.next ≤ m'.next; omega, ?_, fun b hb => ?_⟩
  · show m'.next ≤ m.next + 32
    by_cases hz0 : 0 ≤ z
    · have := hpos hz0; omega
    · have := hneg (by omega); omega
  · show m'.get b = m.get b
    rw [hkeep b (by rw [next_add]; omega), get_add m _ hnx, if_neg (by omega)]

theorem small9_ok {n : Nat} {kss : List (List AVal)} (h : TreeR n kss) (c : Nat) (m : Mem) (hm0 : m.next ≤ 40000) : vcall (E orc0) 92 [.agg (cauC n kss c), .int .i64 30] m fun v m' => IsBool v ∧ Grew m m' 33 := by
  obtain ⟨z40, q40, e40, t40⟩ := ty40
  obtain ⟨z37, q37, e37, t37⟩ := ty37
  obtain ⟨z38, q38, e38, t38⟩ := ty38
  obtain ⟨z301, q301, e301, t301⟩ := ty301
  obtain ⟨z44, q44, e44, t44⟩ := ty44
  obtain ⟨z42, q42, e42, t42⟩ := ty42
  obtain ⟨z45, q45, e45, t45⟩ := ty45
  obtain ⟨z197, q197, e197, t197⟩ := ty197
  obtain ⟨z89, q89, e89, t89⟩ := ty89
  have hnx : m.next < 65536 := by omega
  have hm := get_add_self m ⟨44, cauC n kss c, 0⟩ hnx
  refine vcall_body (fn := f92) (c := ((f92.body).getD .skip)) rfl fns92 body92 (by rw [vntmps92]; show 2 ≤ 16; decide) (by rw [vntmps92]; decide) ?_
  rw [vntmps92]
  simp only [vresults92]
  unfold f92
  simp only [Option.getD_some]
  refine vwp_seq ?_
  refine vwp_region ?_
  iterate 2 (refine vops_cons (n := 0) (by simp [hnx]; rfl) ?_)
  refine vops_nil ?_
  refine vwp_seq (vwp_region ?_)
  iterate 3 (refine vops_cons (n := 0) (by simp [t40, t44, hm]; rfl) ?_)
  refine vops_call (g := 180) rfl rfl rfl ?_
  refine (small8_ok h _ (by rw [next_add]; omega)).mono fun v m' hv => ?_
  obtain ⟨⟨b, rfl⟩, hG⟩ := hv
  have hG0 := (Grew.add m ⟨44, cauC n kss c, 0⟩ hnx).trans hG (Nat.le_refl 33)
  have hm2 : m'.get m.next = some ⟨44, cauC n kss c, 0⟩ := by rw [hG.keep _ (by rw [next_add]; omega)]; exact hm
  refine ⟨_, by simp; rfl, ?_⟩
  cases b with
  | true =>
    iterate 8 (refine vops_cons (n := 0) (by simp [t44, t42, hm2]; rfl) ?_)
    exact vops_nil (vwp_ret ⟨.inr rfl, _, by simp [resultVals]; rfl, ⟨_, rfl⟩, hG0⟩)
  | false =>
    iterate 8 (refine vops_cons (n := 0) (by simp; rfl) ?_)
    exact vops_nil (vwp_ret ⟨.inr rfl, _, by simp [resultVals]; rfl, ⟨_, rfl⟩, hG0⟩)

theorem small22_ok {n : Nat} {kss : List (List AVal)} (h : TreeR n kss) (c : Nat) (m : Mem) (hm0 : m.next ≤ 30000) : vcall (E orc0) 93 [.agg (bunC n kss c), .int .i64 30] m fun v m' => IsBool v ∧ Grew m m' 34 := by
  obtain ⟨z40, q40, e40, t40⟩ := ty40
  obtain ⟨z37, q37, e37, t37⟩ := ty37
  obtain ⟨z38, q38, e38, t38⟩ := ty38
  obtain ⟨z301, q301, e301, t301⟩ := ty301
  obtain ⟨z44, q44, e44, t44⟩ := ty44
  obtain ⟨z42, q42, e42, t42⟩ := ty42
  obtain ⟨z45, q45, e45, t45⟩ := ty45
  obtain ⟨z197, q197, e197, t197⟩ := ty197
  obtain ⟨z89, q89, e89, t89⟩ := ty89
  have hnx : m.next < 65536 := by omega
  have hm := get_add_self m ⟨197, bunC n kss c, 0⟩ hnx
  refine vcall_body (fn := f93) (c := ((f93.body).getD .skip)) rfl fns93 body93 (by rw [vntmps93]; show 2 ≤ 9; decide) (by rw [vntmps93]; decide) ?_
  rw [vntmps93]
  simp only [vresults93]
  unfold f93
  simp only [Option.getD_some]
  refine vwp_seq ?_
  refine vwp_region ?_
  iterate 2 (refine vops_cons (n := 0) (by simp [hnx]; rfl) ?_)
  refine vops_nil ?_
  refine vwp_seq (vwp_region ?_)
  iterate 3 (refine vops_cons (n := 0) (by simp [t44, t197, hm]; rfl) ?_)
  refine vops_call (g := 92) rfl rfl rfl ?_
  refine (small9_ok h c _ (by rw [next_add]; omega)).mono fun v m' hv => ?_
  obtain ⟨⟨b, rfl⟩, hG⟩ := hv
  have hG0 := (Grew.add m ⟨197, bunC n kss c, 0⟩ hnx).trans hG (Nat.le_refl 34)
  refine ⟨_, by simp; rfl, ?_⟩
  iterate 1 (refine vops_cons (n := 0) (by simp; rfl) ?_)
  exact vops_nil (vwp_ret ⟨.inr rfl, _, by simp [resultVals]; rfl, ⟨_, rfl⟩, hG0⟩)


/-- The bundles' cells. -/
def BunR (x : List AVal) : Prop := ∃ n kss c, TreeR n kss ∧ x = bunC n kss c

theorem flatten_drop' {w : Nat} {l : List (List AVal)} (h : ∀ ks ∈ l, ks.length = w) : ∀ {i : Nat} {ks : List AVal}, l[i]? = some ks → l.flatten.drop (i * w) = ks ++ (l.drop (i + 1)).flatten := by
  induction l with
  | nil => intro i ks hi; cases hi
  | cons x l ih =>
    intro i ks hi
    cases i with
    | zero => simp only [List.getElem?_cons_zero, Option.some.injEq] at hi; subst hi; simp
    | succ i =>
      simp only [List.getElem?_cons_succ] at hi
      have hx := h x (List.mem_cons_self ..)
      rw [List.flatten_cons, show (i + 1) * w = x.length + i * w by rw [hx, Nat.add_mul]; omega, List.drop_append, Nat.add_sub_cancel_left, ih (fun ks hk => h ks (List.mem_cons_of_mem _ hk)) hi]
      simp

theorem flatten_len' {w : Nat} {l : List (List AVal)} (h : ∀ ks ∈ l, ks.length = w) : l.flatten.length = l.length * w := by
  induction l with
  | nil => simp
  | cons x l ih =>
    rw [List.flatten_cons, List.length_append, h x (List.mem_cons_self ..), ih fun ks hk => h ks (List.mem_cons_of_mem _ hk), List.length_cons, Nat.add_mul]
    omega

/-- A message's cells. -/
abbrev msgC (bss : List (List AVal)) (n : Nat) (kss : List (List AVal)) (c : Nat) : List AVal := [.any, .any, .any, .any, .any, .any, .any, .imm bss.flatten bss.length, .imm [] n, .imm kss.flatten kss.length, .imm [] c]

noncomputable def loop28 : Code := match f28.body with
  | some (.seq _ (.seq _ (.seq (.seq _ (.block _ l)) _))) => l
  | _ => .skip

theorem small25_loop {bss : List (List AVal)} (hb : ∀ x ∈ bss, BunR x) (hlen : bss.length ≤ 20) {n : Nat} {kss : List (List AVal)} {c : Nat} (B : Nat) : ∀ (j i : Nat) (sl : Slots) (m : Mem), i + j = bss.length → sget sl 1 = .int .i64 30 → sget sl 2 = .ptr B 11 0 → sget sl 19 = .int .i64 (bss.length : Nat) → sget sl 20 = .int .i64 (i : Nat) →
    m.get B = some ⟨89, msgC bss n kss c, 0⟩ → B < m.next → m.next ≤ 2000 + i * 34 →
    vwp (E orc0) loop28 (fun ex st => (ex = .exit 0 ∧ ∃ sl' m', st = ⟨28, 32, sl', m'⟩) ∨ (ex = .ret ∧ IsBool (sget st.slots 4))) ⟨28, 32, sl, m⟩ := by
  obtain ⟨z40, q40, e40, t40⟩ := ty40
  obtain ⟨z37, q37, e37, t37⟩ := ty37
  obtain ⟨z38, q38, e38, t38⟩ := ty38
  obtain ⟨z301, q301, e301, t301⟩ := ty301
  obtain ⟨z44, q44, e44, t44⟩ := ty44
  obtain ⟨z42, q42, e42, t42⟩ := ty42
  obtain ⟨z45, q45, e45, t45⟩ := ty45
  obtain ⟨z197, q197, e197, t197⟩ := ty197
  obtain ⟨z89, q89, e89, t89⟩ := ty89
  have hw10 : ∀ x ∈ bss, x.length = 10 := fun x hx => by obtain ⟨_, _, _, _, rfl⟩ := hb x hx; rfl
  intro j
  induction j with
  | zero =>
    intro i sl m hij s1 s2 s19 s20 hm hBm hmm
    obtain rfl : i = bss.length := by omega
    unfold loop28 f28
    refine vwp_loop (vwp_seq ?_)
    refine vwp_region ?_
    iterate 1 (refine vops_cons (n := 0) (by simp [s19, s20]; rfl) ?_)
    refine vops_nil ?_
    refine vwp_seq (vwp_cond (t := false) (by simp [St.ev, St.slot_mk, sget_put]) (vwp_exit ?_))
    exact .inl ⟨rfl, _, m, rfl⟩
  | succ j ihj =>
    intro i sl m hij s1 s2 s19 s20 hm hBm hmm
    have hik : i < bss.length := by omega
    have hik' : (i : Int) < (bss.length : Int) := by omega
    unfold loop28 f28
    refine vwp_loop (vwp_seq ?_)
    refine vwp_region ?_
    iterate 1 (refine vops_cons (n := 0) (by simp [s19, s20, hik']; rfl) ?_)
    refine vops_nil ?_
    refine vwp_seq (vwp_cond (t := true) (by simp [St.ev, St.slot_mk, sget_put]) (vwp_skip ?_))
    refine vwp_seq (vwp_block (vwp_seq ?_))
    refine vwp_region ?_
    iterate 2 (refine vops_cons (n := 0) (by simp [s20]; rfl) ?_)
    refine vops_nil ?_
    obtain ⟨x, hx⟩ : ∃ x, bss[i]? = some x := ⟨bss[i], List.getElem?_eq_getElem hik⟩
    obtain ⟨n', kss', c', hT, rfl⟩ := hb x (List.mem_of_getElem? hx)
    have hd := flatten_drop' hw10 hx
    have hsum : (List.map List.length bss).sum = bss.length * 10 := by rw [← List.length_flatten]; exact flatten_len' hw10
    have hle : (i + 1) * 10 ≤ bss.length * 10 := by omega
    refine vwp_seq (vwp_region ?_)
    iterate 6 (refine vops_cons (n := 0) (by simp [t45, t197, t89, s1, s2, hm, hik, hd, hsum, hle]; rfl) ?_)
    refine vops_call (g := 93) rfl rfl rfl ?_
    refine (small22_ok hT c' _ (by show m.next ≤ 30000; omega)).mono fun v m' hv => ?_
    obtain ⟨⟨b, rfl⟩, hG⟩ := hv
    have hup : m.next ≤ m'.next := hG.up
    have hmost : m'.next ≤ m.next + 34 := hG.most
    refine ⟨_, by simp; rfl, ?_⟩
    iterate 1 (refine vops_cons (n := 0) (by simp; rfl) ?_)
    refine vops_nil ?_
    cases b with
    | false =>
      refine vwp_cond (t := true) (by simp [St.ev, St.slot_mk, sget_put]) ?_
      refine vwp_seq ?_
      refine vwp_region ?_
      iterate 1 (refine vops_cons (n := 0) (by simp; rfl) ?_)
      refine vops_nil ?_
      exact vwp_ret (.inr ⟨rfl, false, by simp⟩)
    | true =>
      refine vwp_cond (t := false) (by simp [St.ev, St.slot_mk, sget_put]) (vwp_skip ?_)
      have hw : IntKind.i64.wrap ((i : Int) + 1) = ((i + 1 : Nat) : Int) := by rw [IntWalk.i64_in _ (by omega)]; omega
      refine vwp_region ?_
      iterate 2 (refine vops_cons (n := 0) (by simp [s20, hw]; rfl) ?_)
      refine vops_nil ?_
      refine ihj (i + 1) _ m' (by omega) ?_ ?_ ?_ ?_ ?_ ?_ ?_
      · simp [s1]
      · simp [s2]
      · simp [s19]
      · simp
      · rw [hG.keep _ hBm]; exact hm
      · omega
      · omega

theorem small25_ok {bss : List (List AVal)} (hb : ∀ x ∈ bss, BunR x) {n : Nat} {kss : List (List AVal)} (h : TreeR n kss) (c : Nat) (m : Mem) (hm0 : m.next ≤ 100) :
    vcall (E orc0) 28 [.agg (msgC bss n kss c), .int .i64 30] m fun v _ => (20 < bss.length → v = .bool false) ∧ IsBool v := by
  obtain ⟨z40, q40, e40, t40⟩ := ty40
  obtain ⟨z37, q37, e37, t37⟩ := ty37
  obtain ⟨z38, q38, e38, t38⟩ := ty38
  obtain ⟨z301, q301, e301, t301⟩ := ty301
  obtain ⟨z44, q44, e44, t44⟩ := ty44
  obtain ⟨z42, q42, e42, t42⟩ := ty42
  obtain ⟨z45, q45, e45, t45⟩ := ty45
  obtain ⟨z197, q197, e197, t197⟩ := ty197
  obtain ⟨z89, q89, e89, t89⟩ := ty89
  have hnx : m.next < 65536 := by omega
  have hm := get_add_self m ⟨89, msgC bss n kss c, 0⟩ hnx
  refine vcall_body (fn := f28) (c := ((f28.body).getD .skip)) rfl fns28 body28 (by rw [vntmps28]; show 2 ≤ 32; decide) (by rw [vntmps28]; decide) ?_
  rw [vntmps28]
  simp only [vresults28]
  unfold f28
  simp only [Option.getD_some]
  refine vwp_seq ?_
  refine vwp_region ?_
  iterate 2 (refine vops_cons (n := 0) (by simp [hnx]; rfl) ?_)
  refine vops_nil ?_
  by_cases c20 : (20 : Int) < (bss.length : Int)
  · refine vwp_seq (vwp_seq ?_)
    refine vwp_region ?_
    iterate 11 (refine vops_cons (n := 0) (by simp [t45, t89, hm, c20]; rfl) ?_)
    refine vops_nil ?_
    refine vwp_cond (t := true) (by simp [St.ev, St.slot_mk, sget_put]) ?_
    refine vwp_seq ?_
    refine vwp_region ?_
    iterate 1 (refine vops_cons (n := 0) (by simp; rfl) ?_)
    refine vops_nil ?_
    exact vwp_ret ⟨.inr rfl, _, by simp [resultVals]; rfl, fun _ => rfl, false, rfl⟩
  · refine vwp_seq (vwp_seq (vwp_region ?_))
    iterate 8 (refine vops_cons (n := 0) (by simp [t44, t45, t89, hm, c20]; rfl) ?_)
    refine vops_call (g := 92) (by simp) rfl (avs := [.agg (cauC n kss c), .int .i64 30]) (by simp) ?_
    refine (small9_ok h c _ (by show m.next + 1 ≤ _; omega)).mono fun v m' hv => ?_
    obtain ⟨⟨b, rfl⟩, hG⟩ := hv
    have hm2 : m'.get m.next = some ⟨89, msgC bss n kss c, 0⟩ := by rw [hG.keep _ (by show m.next < m.next + 1; omega)]; exact hm
    have hmost : m'.next ≤ m.next + 1 + 33 := hG.most
    have hup : m.next + 1 ≤ m'.next := hG.up
    refine ⟨_, by simp; rfl, ?_⟩
    cases b with
    | false =>
      iterate 2 (refine vops_cons (n := 0) (by simp; rfl) ?_)
      refine vops_nil ?_
      refine vwp_cond (t := true) (by simp [St.ev, St.slot_mk, sget_put]) ?_
      refine vwp_seq ?_
      refine vwp_region ?_
      iterate 1 (refine vops_cons (n := 0) (by simp; rfl) ?_)
      refine vops_nil ?_
      exact vwp_ret ⟨.inr rfl, _, by simp [resultVals]; rfl, fun _ => rfl, false, rfl⟩
    | true =>
      iterate 2 (refine vops_cons (n := 0) (by simp; rfl) ?_)
      refine vops_nil ?_
      refine vwp_cond (t := false) (by simp [St.ev, St.slot_mk, sget_put]) (vwp_skip ?_)
      refine vwp_seq (vwp_seq ?_)
      refine vwp_region ?_
      iterate 4 (refine vops_cons (n := 0) (by simp [t45, t89, hm2]; rfl) ?_)
      refine vops_nil ?_
      refine vwp_block ?_
      refine (small25_loop (n := n) (kss := kss) (c := c) hb (by omega) m.next bss.length 0 _ m' (by omega) ?_ ?_ ?_ ?_ hm2 (by omega) (by omega)).mono ?_
      · simp
      · simp
      · simp
      · simp
      · intro ex st hh
        rcases hh with ⟨rfl, sl', mm', rfl⟩ | ⟨rfl, b, hb⟩
        · simp only [Ex.blockV, Ex.thenV]
          refine vwp_seq ?_
          refine vwp_region ?_
          iterate 1 (refine vops_cons (n := 0) (by simp; rfl) ?_)
          refine vops_nil ?_
          exact vwp_ret ⟨.inr rfl, _, by simp [resultVals]; rfl, fun h => absurd h (by omega), true, rfl⟩
        · refine ⟨.inr rfl, [sget st.slots 4], by simp [resultVals, St.slot]; rfl, fun h => absurd h (by omega), b, hb⟩

end Go.Proofs.Tryz
