/-
  What the machine answers for CenterNil, 'awake', 'Short', 'Small' and 'To' being told; what it answers for 'To' of up to twenty bundles.
-/
import Derived.Test.YtdmaodpmfbgcaaaGreatOrc
set_option maxRecDepth 1000000
namespace Go.Proofs.Tryz
open Go Go.V
/-- The tags of an argument's cells. -/
def ctags : Nat → Nat → List AVal
  | _, 0 => []
  | k, n + 1 => .opq k :: ctags (k + 1) n
def ctagsAt : Nat → Nat → List AVal → Bool
  | _, 0, [] => true
  | k, n + 1, .opq j :: l => Nat.beq j k && ctagsAt (k + 1) n l
  | _, _, _ => false
/-- 'awake' answers true; of these inputs 'Short' answers b1, 'Small' b2; 'To' (where it is asked) eleven cells. -/
def orcC (b1 b2 : Bool) (f : FuncId) (args : List AVal) : Option AVal :=
  bif Nat.beq f 9 then (match args with
    | [] => some (.bool true)
    | _ => none)
  else bif Nat.beq f 18 then (match args with
    | [.agg cs] => bif ctagsAt 0 4 cs then some (.bool b1) else none
    | _ => none)
  else bif Nat.beq f 28 then (match args with
    | [.agg cs, .int .i64 (.ofNat 30)] => bif ctagsAt 4 11 cs then some (.bool b2) else none
    | _ => none)
  else bif Nat.beq f 33 then (match args with
    | [.agg cs] => bif b2 && ctagsAt 4 11 cs then some (.agg [.any, .any, .any, .any, .any, .any, .any, .any, .any, .any, .any]) else none
    | _ => none)
  else none
theorem cnil_tt : okB (fcall (E (orcC true true)) 1000 5 [.any, .agg (ctags 0 4), .agg (ctags 4 11)] Mem.nil) = true := by kernel_rfl
theorem cnil_tf : okB (fcall (E (orcC true false)) 1000 5 [.any, .agg (ctags 0 4), .agg (ctags 4 11)] Mem.nil) = true := by kernel_rfl
theorem cnil_ft : okB (fcall (E (orcC false true)) 1000 5 [.any, .agg (ctags 0 4), .agg (ctags 4 11)] Mem.nil) = true := by kernel_rfl
theorem cnil_ff : okB (fcall (E (orcC false false)) 1000 5 [.any, .agg (ctags 0 4), .agg (ctags 4 11)] Mem.nil) = true := by kernel_rfl

/-- A message's cells as tags, with so many bundles. -/
def msgTags (nb : Nat) : List AVal := ctags 4 7 ++ [.imm (ctags 100 (nb * 10)) nb] ++ ctags 12 3
noncomputable def okAgg (r : V.CR) : Bool := @V.CR.rec (fun _ => Bool) false (fun v _ => @Option.rec (List AVal) (fun _ => Bool) false (fun cs => Nat.beq cs.length 11) (V.asAgg v)) r
theorem to_run : ((List.range 21).all fun nb => okAgg (fcall (E orc0) 1000 33 [.agg (msgTags nb)] Mem.nil)) = true := by kernel_rfl
end Go.Proofs.Tryz
