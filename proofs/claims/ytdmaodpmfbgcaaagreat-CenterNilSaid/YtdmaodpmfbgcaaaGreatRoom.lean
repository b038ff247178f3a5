/-
  How much room a tree leaves: the reference's 'room' answers a number, whatever the tree: on the abstract machine.
-/
import Derived.Test.YtdmaodpmfbgcaaaGreatVCallW
import Derived.Test.YtdmaodpmfbgcaaaGreatOrc
set_option maxRecDepth 100000
namespace Go.Proofs.Tryz
open Go Go.V
attribute [local simp] runOp wanted isHeavy light St.ev St.slot_mk sget_put St.put_mk AVal.cells? NewV.at nblt nble ofConst ofConst1 fieldOf shift readCells lget mkVal VD.isAgg lenOf sliceLen bin arith cmpInt natOf_cast elemAddr argSlots
theorem ty40 : ∃ z q e, (E orc0).ty.get 40 = some ⟨.struct [(37, 0), (38, 1)], 2, q, z, e⟩ := ⟨_, _, _, rfl⟩
theorem ty37 : ∃ z q e, (E orc0).ty.get 37 = some ⟨.slice 346, 1, q, z, e⟩ := ⟨_, _, _, rfl⟩
theorem ty38 : ∃ z q e, (E orc0).ty.get 38 = some ⟨.slice 301, 1, q, z, e⟩ := ⟨_, _, _, rfl⟩
theorem ty301 : ∃ z q e, (E orc0).ty.get 301 = some ⟨.struct [(9, 0), (40, 1)], 3, q, z, e⟩ := ⟨_, _, _, rfl⟩
theorem ty3 : ∃ z q e, (E orc0).ty.get 3 = some ⟨.int .i64, 1, q, z, e⟩ := ⟨_, _, _, rfl⟩
theorem ty9' : ∃ z q e, (E orc0).ty.get 9 = some ⟨.str, 1, q, z, e⟩ := ⟨_, _, _, rfl⟩
theorem fns290 : (E orc0).fns.get 290 = some f290 := by kernel_rfl
theorem vntmps290 : f290.ntmps = 41 := by kernel_rfl
theorem vresults290 : f290.results.toList = [.tmp 6] := by kernel_rfl

/-- A kid's cells: its key, and its tree: how many entries, and its kids. -/
inductive KidR : List AVal → Prop where
  | mk (n : Nat) (kss : List (List AVal)) : n ≤ 140737488355328 → kss.length ≤ 140737488355328 → (∀ ks, ks ∈ kss → KidR ks) → KidR [.any, .imm [] n, .imm kss.flatten kss.length]

/-- 'room' of a tree of so many entries, and these kids. -/
def RoomOk (n : Nat) (kss : List (List AVal)) : Prop := ∀ (left deep : Int) (m : Mem), 0 ≤ left → left ≤ 1000 → (m.next : Int) + 1 + left ≤ 60000 →
  vcall (E orc0) 290 [.agg [.imm [] n, .imm kss.flatten kss.length], .int .i64 left, .int .i64 deep] m fun v m' => ∃ z : Int, v = .int .i64 z ∧ z ≤ left ∧ m.next ≤ m'.next ∧ (0 ≤ z → (m'.next : Int) ≤ m.next + 1 + (left - z)) ∧ (z < 0 → (m'.next : Int) ≤ m.next + 1 + left) ∧ ∀ b, b < m.next → m'.get b = m.get b

theorem flatten_drop {l : List (List AVal)} (h : ∀ ks ∈ l, ks.length = 3) : ∀ {i : Nat} {ks : List AVal}, l[i]? = some ks → l.flatten.drop (i * 3) = ks ++ (l.drop (i + 1)).flatten := by
  induction l with
  | nil => intro i ks hi; cases hi
  | cons x l ih =>
    intro i ks hi
    cases i with
    | zero => simp only [List.getElem?_cons_zero, Option.some.injEq] at hi; subst hi; simp
    | succ i =>
      simp only [List.getElem?_cons_succ] at hi
      have hx := h x (List.mem_cons_self ..)
      rw [List.flatten_cons, show (i + 1) * 3 = x.length + i * 3 by omega, List.drop_append, Nat.add_sub_cancel_left, ih (fun ks hk => h ks (List.mem_cons_of_mem _ hk)) hi]
      simp

theorem flatten_len {l : List (List AVal)} (h : ∀ ks ∈ l, ks.length = 3) : l.flatten.length = l.length * 3 := by
  induction l with
  | nil => rfl
  | cons x l ih =>
    rw [List.flatten_cons, List.length_append, h x (List.mem_cons_self ..), ih fun ks hk => h ks (List.mem_cons_of_mem _ hk), List.length_cons]
    omega

theorem KidR.three {ks : List AVal} (h : KidR ks) : ks.length = 3 := by cases h; rfl

noncomputable def loop290 : Code := match f290.body with
  | some (.seq _ (.seq _ (.seq (.seq _ (.block _ l)) _))) => l
  | _ => .skip

theorem i64_small {z : Int} (h0 : -9000000000000000000 ≤ z) (h1 : z ≤ 9000000000000000000) : IntKind.i64.wrap z = z := IntWalk.i64_in z ⟨by omega, by omega⟩

/-- What holds at the head of the loop's rounds. -/
structure RoomInv (n : Nat) (kss : List (List AVal)) (m0 : Mem) (left : Int) (i : Nat) (L : Int) (deep : Int) (sl : Slots) (mm : Mem) : Prop where
  s1 : sget sl 1 = .int .i64 L
  s2 : sget sl 2 = .int .i64 deep
  s3 : sget sl 3 = .ptr m0.next 2 0
  s19 : sget sl 19 = .int .i64 (kss.length : Nat)
  s20 : sget sl 20 = .int .i64 (i : Nat)
  blk : mm.get m0.next = some ⟨40, [.imm [] n, .imm kss.flatten kss.length], 0⟩
  up : m0.next < mm.next
  hi : L ≤ left
  pos : 0 ≤ L → (mm.next : Int) + kss.length ≤ m0.next + 1 + (left - L) + i
  neg : L < 0 → (mm.next : Int) ≤ m0.next + 1 + left
  keep : ∀ b, b < m0.next → mm.get b = m0.get b

def RoomEnd (m0 : Mem) (left : Int) (v : AVal) (m' : Mem) : Prop := ∃ z : Int, v = .int .i64 z ∧ z ≤ left ∧ m0.next ≤ m'.next ∧ (0 ≤ z → (m'.next : Int) ≤ m0.next + 1 + (left - z)) ∧ (z < 0 → (m'.next : Int) ≤ m0.next + 1 + left) ∧ ∀ b, b < m0.next → m'.get b = m0.get b

theorem room_loop (n : Nat) (kss : List (List AVal)) (hk : ∀ ks ∈ kss, KidR ks) (ih : ∀ ks ∈ kss, ∃ n' kss', ks = [.any, .imm [] n', .imm kss'.flatten kss'.length] ∧ RoomOk n' kss') (hlen : kss.length ≤ 140737488355328) (m0 : Mem) (left deep : Int) (hl0 : 0 ≤ left) (hl1 : left ≤ 1000) (hm0 : (m0.next : Int) + 1 + left ≤ 60000) :
    ∀ (j i : Nat) (L : Int) (sl : Slots) (mm : Mem), i + j = kss.length → RoomInv n kss m0 left i L deep sl mm →
    vwp (E orc0) loop290 (fun ex st => (ex = .exit 0 ∧ ∃ sl' mm' L', st = ⟨290, 41, sl', mm'⟩ ∧ RoomInv n kss m0 left kss.length L' deep sl' mm') ∨ (ex = .ret ∧ RoomEnd m0 left (sget st.slots 6) st.mem)) ⟨290, 41, sl, mm⟩ := by
  obtain ⟨z40, q40, e40, t40⟩ := ty40
  obtain ⟨z37, q37, e37, t37⟩ := ty37
  obtain ⟨z38, q38, e38, t38⟩ := ty38
  obtain ⟨z301, q301, e301, t301⟩ := ty301
  obtain ⟨z3, q3, e3, t3⟩ := ty3
  obtain ⟨z9, q9, e9, t9⟩ := ty9'
  have h3 : ∀ ks ∈ kss, ks.length = 3 := fun ks h => (hk ks h).three
  intro j
  induction j with
  | zero =>
    intro i L sl mm hij I
    obtain rfl : i = kss.length := by omega
    have s1 := I.s1; have s2 := I.s2; have s3 := I.s3; have s19 := I.s19; have s20 := I.s20; have hm := I.blk
    unfold loop290 f290
    refine vwp_loop (vwp_seq ?_)
    refine vwp_region ?_
    iterate 1 (refine vops_cons (n := 0) (by simp [s19, s20]; rfl) ?_)
    refine vops_nil ?_
    refine vwp_seq (vwp_cond (t := false) (by simp [St.ev, St.slot_mk, sget_put]) (vwp_exit ?_))
    refine .inl ⟨rfl, _, mm, L, rfl, ?_⟩
    exact ⟨by simp [sget_put, s1], by simp [sget_put, s2], by simp [sget_put, s3], by simp [sget_put, s19], by simp [sget_put, s20], hm, I.up, I.hi, I.pos, I.neg, I.keep⟩
  | succ j ihj =>
    intro i L sl mm hij I
    have s1 := I.s1; have s2 := I.s2; have s3 := I.s3; have s19 := I.s19; have s20 := I.s20; have hm := I.blk
    have hik : i < kss.length := by omega
    have hik' : (i : Int) < (kss.length : Int) := by omega
    unfold loop290 f290
    refine vwp_loop (vwp_seq ?_)
    refine vwp_region ?_
    iterate 1 (refine vops_cons (n := 0) (by simp [s19, s20, hik']; rfl) ?_)
    refine vops_nil ?_
    refine vwp_seq (vwp_cond (t := true) (by simp [St.ev, St.slot_mk, sget_put]) (vwp_skip ?_))
    refine vwp_seq (vwp_block (vwp_seq ?_))
    refine vwp_region ?_
    iterate 2 (refine vops_cons (n := 0) (by simp [s20]; rfl) ?_)
    refine vops_nil ?_
    have fail : ∀ (sl' : Slots), L ≤ left → RoomEnd m0 left (.int .i64 (-1)) mm := fun _ _ => by
      refine ⟨-1, rfl, by omega, Nat.le_of_lt I.up, fun h => by omega, fun _ => ?_, I.keep⟩
      by_cases hL : 0 ≤ L
      · have := I.pos hL; omega
      · exact I.neg (by omega)
    have hF := fail sl I.hi
    clear fail
    by_cases c1 : L < 0
    · refine vwp_seq (vwp_seq ?_)
      refine vwp_region ?_
      iterate 6 (refine vops_cons (n := 0) (by simp [s1, c1]; rfl) ?_)
      refine vops_nil ?_
      refine vwp_cond (t := true) (by simp [St.ev, St.slot_mk, sget_put]) ?_
      refine vwp_seq ?_
      refine vwp_region ?_
      iterate 1 (refine vops_cons (n := 0) (by simp; rfl) ?_)
      refine vops_nil ?_
      exact vwp_ret (.inr ⟨rfl, by simpa [sget_put] using hF⟩)
    · by_cases c2 : deep = 0
      · refine vwp_seq (vwp_seq ?_)
        refine vwp_region ?_
        iterate 6 (refine vops_cons (n := 0) (by simp [s1, s2, c1, c2]; rfl) ?_)
        refine vops_nil ?_
        refine vwp_cond (t := true) (by simp [St.ev, St.slot_mk, sget_put]) ?_
        refine vwp_seq ?_
        refine vwp_region ?_
        iterate 1 (refine vops_cons (n := 0) (by simp; rfl) ?_)
        refine vops_nil ?_
        exact vwp_ret (.inr ⟨rfl, by simpa [sget_put] using hF⟩)
      · refine vwp_seq (vwp_seq ?_)
        refine vwp_region ?_
        iterate 6 (refine vops_cons (n := 0) (by simp [s1, s2, c1, c2]; rfl) ?_)
        refine vops_nil ?_
        refine vwp_cond (t := false) (by simp [St.ev, St.slot_mk, sget_put]) (vwp_skip ?_)
        obtain ⟨ks, hks⟩ : ∃ ks, kss[i]? = some ks := ⟨kss[i], List.getElem?_eq_getElem hik⟩
        obtain ⟨n', kss', rfl, hR⟩ := ih ks (List.mem_of_getElem? hks)
        have hd := flatten_drop h3 hks
        have hfl := flatten_len h3
        have hsum : (List.map List.length kss).sum = kss.length * 3 := by rw [← List.length_flatten]; exact hfl
        have hle3 : (i + 1) * 3 ≤ kss.length * 3 := by omega
        refine vwp_region ?_
        iterate 9 (refine vops_cons (n := 0) (by simp [t40, t38, t301, s1, s2, s3, hm, hik, hle3, hd, hsum]; rfl) ?_)
        have hp := I.pos (by omega)
        refine vops_call (g := 290) rfl rfl rfl ?_
        refine (hR L (IntKind.i64.wrap (deep - 1)) mm (by omega) (by have := I.hi; omega) (by have := I.hi; omega)).mono fun v m' hv => ?_
        obtain ⟨z, rfl, hz, hup, hpos, hneg, hkeep⟩ := hv
        refine ⟨_, by simp; rfl, ?_⟩
        refine vops_cons (n := 0) (by simp; rfl) ?_
        refine vops_nil ?_
        have hw : IntKind.i64.wrap ((i : Int) + 1) = ((i + 1 : Nat) : Int) := by rw [IntWalk.i64_in _ (by omega)]; omega
        refine vwp_region ?_
        iterate 2 (refine vops_cons (n := 0) (by simp [s20, hw]; rfl) ?_)
        refine vops_nil ?_
        have hI := I.hi
        have hU := I.up
        refine ihj (i + 1) z _ _ (by omega) ⟨?_, ?_, ?_, ?_, ?_, ?_, by omega, by omega, fun h => ?_, fun h => ?_, fun b hb => ?_⟩
        · simp
        · simp [s2]
        · simp [s3]
        · simp [s19]
        · simp
        · rw [hkeep _ hU]; exact hm
        · have := hpos h; omega
        · have := hneg h; omega
        · rw [hkeep b (by omega)]; exact I.keep b hb

theorem body290 : f290.body = some ((f290.body).getD .skip) := by kernel_rfl

theorem room_body (n : Nat) (kss : List (List AVal)) (hk : ∀ ks ∈ kss, KidR ks) (ih : ∀ ks ∈ kss, ∃ n' kss', ks = [.any, .imm [] n', .imm kss'.flatten kss'.length] ∧ RoomOk n' kss') (hn : n ≤ 140737488355328) (hlen : kss.length ≤ 140737488355328) : RoomOk n kss := by
  intro left deep m hl0 hl1 hm0
  obtain ⟨z40, q40, e40, t40⟩ := ty40
  obtain ⟨z37, q37, e37, t37⟩ := ty37
  obtain ⟨z38, q38, e38, t38⟩ := ty38
  obtain ⟨z301, q301, e301, t301⟩ := ty301
  refine vcall_body (fn := f290) (c := ((f290.body).getD .skip)) rfl fns290 body290 (by rw [vntmps290]; show 3 ≤ 41; decide) (by rw [vntmps290]; decide) ?_
  rw [vntmps290]
  simp only [vresults290]
  have hm : (m.add ⟨40, [.imm [] n, .imm kss.flatten kss.length], 0⟩).get m.next = some ⟨40, [.imm [] n, .imm kss.flatten kss.length], 0⟩ := get_add_self m _ (by omega)
  have hnx : m.next < 65536 := by omega
  have hw1 : IntKind.i64.wrap (left - n) = left - n := i64_small (by omega) (by omega)
  have hw2 : IntKind.i64.wrap (left - n - kss.length) = left - n - kss.length := i64_small (by omega) (by omega)
  unfold f290
  simp only [Option.getD_some]
  refine vwp_seq ?_
  refine vwp_region ?_
  iterate 2 (refine vops_cons (n := 0) (by simp [hnx]; rfl) ?_)
  refine vops_nil ?_
  refine vwp_seq ?_
  refine vwp_region ?_
  iterate 10 (refine vops_cons (n := 0) (by simp [t40, t37, t38, hm, hw1, hw2]; rfl) ?_)
  refine vops_nil ?_
  refine vwp_seq (vwp_seq ?_)
  refine vwp_region ?_
  iterate 4 (refine vops_cons (n := 0) (by simp [t40, t38, hm]; rfl) ?_)
  refine vops_nil ?_
  refine vwp_block ?_
  refine (room_loop n kss hk ih hlen m left deep hl0 hl1 hm0 kss.length 0 (left - n - kss.length) _ _ (by omega) ?_).mono ?_
  · refine ⟨?_, ?_, ?_, ?_, ?_, hm, by rw [next_add]; omega, by omega, fun h => by rw [next_add]; omega, fun h => by rw [next_add]; omega, fun b hb => by rw [get_add m _ hnx, if_neg (by omega)]⟩ <;> simp
  · intro ex st h
    rcases h with ⟨rfl, sl', mm', L', rfl, I⟩ | ⟨rfl, z, hv, hz, hup, hpos, hneg, hkeep⟩
    · simp only [Ex.blockV, Ex.thenV]
      have s1 := I.s1
      refine vwp_seq ?_
      refine vwp_region ?_
      iterate 2 (refine vops_cons (n := 0) (by simp [s1]; rfl) ?_)
      refine vops_nil ?_
      refine vwp_ret ⟨.inr rfl, [.int .i64 L'], by simp [resultVals], L', rfl, I.hi, Nat.le_of_lt I.up, fun h => ?_, I.neg, I.keep⟩
      have := I.pos h
      show (mm'.next : Int) ≤ (m.next : Int) + 1 + (left - L')
      omega
    · exact ⟨.inr rfl, [sget st.slots 6], by simp [resultVals, St.slot]; rfl, z, by rw [hv]; rfl, hz, hup, hpos, hneg, hkeep⟩

theorem room_ok {ks : List AVal} (h : KidR ks) : ∃ n kss, ks = [.any, .imm [] n, .imm kss.flatten kss.length] ∧ RoomOk n kss := by
  induction h with
  | mk n kss hn hl hk ih => exact ⟨n, kss, rfl, room_body n kss hk ih hn hl⟩
end Go.Proofs.Tryz
