/-
  What the machine made for the kernel answers is what the abstract machine answers.
-/
import Derived.Test.YtdmaodpmfbgcaaaGreatVFast
import Derived.Test.YtdmaodpmfbgcaaaGreatVMono
namespace Go.V

/-! ### Trees, slots, memory -/
theorem opn_ok (x : Operand) (f nt : Nat) (s : Slots) (m : Mem) : (opn x).g s = St.ev ⟨f, nt, s, m⟩ x := by
  cases x with
  | tmp t =>
    simp only [opn, St.ev, St.slot, Slots.get, gtab_ok, List.getElem?_map, nblt, cond_eq_ite, decide_eq_true_eq]
    by_cases h : t < 256
    · rw [List.getElem?_range h, if_pos h]; rfl
    · rw [List.getElem?_eq_none (by simpa using h), if_neg h]; rfl
  | const v =>
    simp only [opn, St.ev]
    unfold constC
    split <;> simp_all
  | global g => rfl
  | func f => rfl

theorem evF_ok (f nt : Nat) (s : Slots) (m : Mem) : evF s = St.ev ⟨f, nt, s, m⟩ := funext fun x => opn_ok x f nt s m

theorem sp_ok (d : Nat) (h : d < 256) (s : Slots) (v : AVal) : (sp d).p s v = Slots.put s d v := by
  simp only [sp, ptab_ok, List.getElem?_map, List.getElem?_range h, Option.map_some, Option.getD_some]
  rfl

theorem pacc_ok {β : Type} (v : β) : ∀ (k : Nat) (x : Lv β k) (n : Nat), (pacc β k n).p x v = Lv.set v k x n
  | 0, _, _ => rfl
  | k + 1, x, n => by
    obtain ⟨a, b, c, d⟩ := x
    have hm : n % 4 < 4 := Nat.mod_lt _ (by decide)
    have ih := pacc_ok v k
    show ((@Nat.rec (fun _ => PK β (Lv β (k + 1))) ⟨uA (α := Lv β k) (pacc β k (Nat.div n 4)).p⟩
      (fun i _ => @Nat.rec (fun _ => PK β (Lv β (k + 1))) ⟨uB (α := Lv β k) (pacc β k (Nat.div n 4)).p⟩
        (fun i _ => @Nat.rec (fun _ => PK β (Lv β (k + 1))) ⟨uC (α := Lv β k) (pacc β k (Nat.div n 4)).p⟩ (fun _ _ => ⟨uD (α := Lv β k) (pacc β k (Nat.div n 4)).p⟩) i) i) (n % 4) : PK β (Lv β (k + 1))).p ⟨a, b, c, d⟩ v
        = Q4.upd (α := Lv β k) ⟨a, b, c, d⟩ (fun y => Lv.set v k y (n / 4)) (n % 4))
    have : n % 4 = 0 ∨ n % 4 = 1 ∨ n % 4 = 2 ∨ n % 4 = 3 := by omega
    rcases this with h | h | h | h <;> rw [h]
    · exact congrArg (fun z => (⟨z, b, c, d⟩ : Q4 (Lv β k))) (ih a (n / 4))
    · exact congrArg (fun z => (⟨a, z, c, d⟩ : Q4 (Lv β k))) (ih b (n / 4))
    · exact congrArg (fun z => (⟨a, b, z, d⟩ : Q4 (Lv β k))) (ih c (n / 4))
    · exact congrArg (fun z => (⟨a, b, c, z⟩ : Q4 (Lv β k))) (ih d (n / 4))

theorem gacc_ok {β : Type} : ∀ (k : Nat) (x : Lv β k) (n : Nat), (gacc β k n).g x = Lv.at k x n
  | 0, _, _ => rfl
  | k + 1, x, n => by
    obtain ⟨a, b, c, d⟩ := x
    have hm : n % 4 < 4 := Nat.mod_lt _ (by decide)
    have ih := gacc_ok (β := β) k
    show ((@Nat.rec (fun _ => GK β (Lv β (k + 1))) ⟨fun x => (gacc β k (Nat.div n 4)).g (Q4.a (α := Lv β k) x)⟩
      (fun i _ => @Nat.rec (fun _ => GK β (Lv β (k + 1))) ⟨fun x => (gacc β k (Nat.div n 4)).g (Q4.b (α := Lv β k) x)⟩
        (fun i _ => @Nat.rec (fun _ => GK β (Lv β (k + 1))) ⟨fun x => (gacc β k (Nat.div n 4)).g (Q4.c (α := Lv β k) x)⟩ (fun _ _ => ⟨fun x => (gacc β k (Nat.div n 4)).g (Q4.d (α := Lv β k) x)⟩) i) i) (n % 4) : GK β (Lv β (k + 1))).g ⟨a, b, c, d⟩
        = Lv.at k (Q4.pick (α := Lv β k) ⟨a, b, c, d⟩ (n % 4)) (n / 4))
    have : n % 4 = 0 ∨ n % 4 = 1 ∨ n % 4 = 2 ∨ n % 4 = 3 := by omega
    rcases this with h | h | h | h <;> rw [h]
    · exact ih a (n / 4)
    · exact ih b (n / 4)
    · exact ih c (n / 4)
    · exact ih d (n / 4)

theorem mget_ok (m : Mem) (b : Nat) : mget m b = m.get b := by
  unfold mget hk Mem.get Hp.get
  cases h : Nat.blt b 65536 with
  | true => simp only [cond_true]; exact gacc_ok 8 m.blocks b
  | false => simp only [cond_false]
theorem mupd_ok (m : Mem) (b : Nat) (blk : Block) : mupd m b blk = m.upd b blk := by
  obtain ⟨bl, nx⟩ := m
  unfold Mem.upd Hp.put
  exact congrArg (fun z => (⟨z, nx⟩ : Mem)) (pacc_ok (some blk) 8 bl b)

/-! ### Lists -/
theorem lenF_ok : ∀ l : List AVal, lenF l = l.length
  | [] => rfl
  | _ :: l => congrArg Nat.succ (lenF_ok l)
theorem nthF_ok : ∀ (l : List AVal) (i : Nat), nthF l i = l[i]?
  | [], _ => rfl
  | _ :: _, 0 => rfl
  | _ :: l, i + 1 => by rw [List.getElem?_cons_succ]; exact nthF_ok l i
theorem dropF_ok : ∀ (n : Nat) (l : List AVal), dropF n l = l.drop n
  | 0, _ => rfl
  | n + 1, [] => by rw [List.drop_nil]; exact (dropF_ok n []).trans List.drop_nil
  | n + 1, _ :: l => dropF_ok n l
theorem takeF_ok : ∀ (n : Nat) (l : List AVal), takeF n l = l.take n
  | 0, l => by cases l <;> rfl
  | n + 1, [] => rfl
  | n + 1, a :: l => congrArg (a :: ·) (takeF_ok n l)
theorem lputF_ok : ∀ (l : List AVal) (off : Nat) (vs : List AVal), lputF l off vs = lput l off vs
  | [], off, vs => by cases vs <;> rfl
  | c :: l, off, [] => by simp only [lput]; rfl
  | c :: l, 0, v :: vs => congrArg (v :: ·) (lputF_ok l 0 vs)
  | c :: l, n + 1, v :: vs => congrArg (c :: ·) (lputF_ok l n (v :: vs))
theorem take_drop_len {l : List AVal} {off n : Nat} (h : off + n ≤ l.length) : ((l.drop off).take n).length = n := by
  rw [List.length_take, List.length_drop]; omega
theorem lget_of_le {l : List AVal} {off n : Nat} (h : off + n ≤ l.length) : lget l off n = some ((l.drop off).take n) := by
  simp only [lget, nbeq, take_drop_len h, decide_true, cond_true]
theorem lget_one {l : List AVal} {off : Nat} {v : AVal} (h : l[off]? = some v) : lget l off 1 = some [v] := by
  have hlt : off < l.length := by
    by_cases hc : off < l.length
    · exact hc
    · rw [List.getElem?_eq_none (by omega)] at h; cases h
  rw [lget_of_le (by omega)]
  congr 1
  have : l.drop off = v :: l.drop (off + 1) := by
    rw [List.drop_eq_getElem_cons hlt]
    rw [List.getElem?_eq_getElem hlt] at h
    cases h; rfl
  rw [this]; rfl
end Go.V
