/-
  When a plan may stand for a region that draws its order: a Bool.
-/
import Derived.Test.YtdmaodpmfbgcaaaGreatVRun
namespace Go.V

def deps (o : Oper) : List Nat := (o.after.toList.filter fun e => Region.binds .any e).map (·.on)

/-- Of each operation all that must come ahead of it. -/
def ancsFrom : List Oper → List (List Nat) → List (List Nat)
  | [], acc => acc
  | o :: rest, acc => ancsFrom rest (acc ++ [(List.range acc.length).filter fun i => (deps o).any fun d => Nat.beq d i || ((acc[d]?).getD []).contains i])

def ancs (ops : List Oper) : List (List Nat) := ancsFrom ops []
def isAnc (A : List (List Nat)) (i j : Nat) : Bool := ((A[j]?).getD []).contains i

def RStep.isRun (j : Nat) : RStep → Bool
  | .run k => Nat.beq j k
  | .chk _ => false

def posOf (plan : List RStep) (j : Nat) : Nat := plan.findIdx (RStep.isRun j)

def chksOf : List RStep → List Nat
  | .chk l :: rest => l :: chksOf rest
  | _ => []

def isLoad : Op → Bool
  | .load .. | .convert .. => true
  | _ => false

def readsOf (ops : List Oper) (o : Oper) : List Nat := o.looksAt ops.toArray

/-- Of two operations, the one ahead of the other one in the plan. -/
def pairOk (_ops : List Oper) (plan : List RStep) (A : List (List Nat)) (x y : Nat) (ox oy : Oper) : Bool :=
  !Nat.blt (posOf plan x) (posOf plan y) ||
  ((!(isHeavy oy.op && (isHeavy ox.op || isNew ox.op)) || isAnc A x y) &&
   (!(isHeavy ox.op && isLoad oy.op) || isAnc A x y) &&
   (!(isHeavy oy.op && isLoad ox.op) || isAnc A x y || (chksOf (plan.drop (posOf plan y + 1))).contains x))

/-- Slots: no two write one; who reads one that the other writes is ahead of it, or behind it; what a load reads is never written behind it. -/
def slotOk (ops : List Oper) (A : List (List Nat)) (x y : Nat) (ox oy : Oper) : Bool :=
  match ox.dst with
  | none => true
  | some d => bif Nat.beq x y then !(isLoad oy.op && (readsOf ops oy).contains d)
    else oy.dst != some d && (!(readsOf ops oy).contains d || isAnc A x y || (!isLoad oy.op && isAnc A y x))

def allIdx (p : Nat → Oper → Bool) : Nat → List Oper → Bool
  | _, [] => true
  | i, o :: rest => p i o && allIdx p (i + 1) rest

def stepsIdx (p : Nat → RStep → Bool) : Nat → List RStep → Bool
  | _, [] => true
  | i, s :: rest => p i s && stepsIdx p (i + 1) rest

def planOk (ops : List Oper) (plan : List RStep) : Bool :=
  let A := ancs ops
  let n := ops.length
  stepsIdx (fun p s => match s with
    | .run j => Nat.blt j n && Nat.beq (posOf plan j) p
    | .chk _ => true) 0 plan &&
  allIdx (fun j o => Nat.blt (posOf plan j) plan.length && (deps o).all (fun d => Nat.blt (posOf plan d) (posOf plan j))) 0 ops &&
  allIdx (fun x ox => allIdx (fun y oy => pairOk ops plan A x y ox oy && slotOk ops A x y ox oy) 0 ops) 0 ops

section
variable {E : Env} {call : CallFn} {st st' : St}

theorem allIdx_get {p : Nat → Oper → Bool} : ∀ {l : List Oper} {i j : Nat} {o : Oper}, allIdx p i l = true → l[j]? = some o → p (i + j) o = true
  | [], i, j, o, _, h => by simp at h
  | x :: l, i, 0, o, h, hj => by
    simp only [allIdx, Bool.and_eq_true] at h
    simp at hj
    subst hj
    exact h.1
  | x :: l, i, j + 1, o, h, hj => by
    simp only [allIdx, Bool.and_eq_true] at h
    have := allIdx_get h.2 (by simpa using hj)
    rwa [show i + 1 + j = i + (j + 1) by omega] at this

theorem stepsIdx_get {p : Nat → RStep → Bool} : ∀ {l : List RStep} {i j : Nat} {s : RStep}, stepsIdx p i l = true → l[j]? = some s → p (i + j) s = true
  | [], i, j, o, _, h => by simp at h
  | x :: l, i, 0, o, h, hj => by
    simp only [stepsIdx, Bool.and_eq_true] at h
    simp at hj
    subst hj
    exact h.1
  | x :: l, i, j + 1, o, h, hj => by
    simp only [stepsIdx, Bool.and_eq_true] at h
    have := stepsIdx_get h.2 (by simpa using hj)
    rwa [show i + 1 + j = i + (j + 1) by omega] at this

theorem runPlan_fields {ops : List Oper} : ∀ {l : List RStep} {st st' : St}, runPlan E call ops l st = some st' → st'.fn = st.fn ∧ st'.nt = st.nt
  | [], st, st', h => by simp only [runPlan, Option.some.injEq] at h; subst h; exact ⟨rfl, rfl⟩
  | .run j :: l, st, st', h => by
    simp only [runPlan] at h
    split at h
    · split at h
      · rename_i s1 h1
        obtain ⟨e1, e2⟩ := runOp_fields h1
        obtain ⟨e3, e4⟩ := runPlan_fields h
        exact ⟨e3.trans e1, e4.trans e2⟩
      · cases h
    · cases h
  | .chk j :: l, st, st', h => by
    simp only [runPlan] at h
    split at h
    · split at h
      · split at h
        · simp only [cond_eq_ite] at h
          split at h
          · exact runPlan_fields h
          · cases h
        · cases h
      · exact runPlan_fields h
      · cases h
    · cases h
end
end Go.V
