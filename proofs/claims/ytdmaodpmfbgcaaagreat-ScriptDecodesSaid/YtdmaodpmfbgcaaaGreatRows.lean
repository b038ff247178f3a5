/-
  NARROWER THAN 'FOR EVERY INPUT', by the rows' own cells (each row's printed sentence says how): CenterNil: loops.
  DERIVED. THE GIVEN ROWS OF THIS SEAT. 6 by the template 'for every input the law returns true; each argument reads behind the call as it read before'; 0 by the template 'total and deterministic' (their statements: YtdmaodpmfbgcaaaGreatTotals.lean).
  GIVEN WITH THE SEED: the statements are not yours to turn. If you find one false, say at which input.
  Laid BY PROGRAM, IN A SANDBOX (cutbox-rows.mjs): the forced cells as the released guide's own fill.sh prints them over the translation 2a32203e79b14eb2… (all of the seat's roots in one cut). By AI agents, Wed Nov 11 2026. No macro, syntax, notation, axiom, sorry.
-/
import Derived.Test.YtdmaodpmfbgcaaaGreatChecked
import GoSem.Claim
import GoSem.ClaimJoined
import GoSem.ClaimMapViews
import Derived.JoinedTies
import Derived.KernelRfl
namespace Go.Proofs.YtdmaodpmfbgcaaaGreat
/- THE CELL 'sum', in the pinned program and in every row, IS THE sha256 OF THE DUMP (.gsa) THAT YtdmaodpmfbgcaaaGreatProg.lean LOADS. Nothing in Lean hashes anything: it is a label: what it is worth is what the hold of that sum in a sandbox is worth. -/
noncomputable def Tryz.pinned : Pinned := { name := "ytdmaodpmfbgcaaagreat", sum := "2a32203e79b14eb25ca1c7e3df14db8b92a006207bc99b8e4e2d6947d62366d3", checked := Tryz.checked }
namespace Rows
def none {H : Type} : Left H := { results := [], args := [] }

/-- 'tributarylaw27.CenterOpens': WHATEVER THE INPUT: true; the input reads as it did. -/
def centerOpensSpec : ChangeSpec := { name := "centerOpens", fn := fun _ => fun
  | [d1, d2, d3, d4] => { results := [.lit (.bool true)], args := [d1, d2, d3, d4] }
  | _ => none }
def centerOpensRow : OpenClaim := { program := "ytdmaodpmfbgcaaagreat", sum := "2a32203e79b14eb25ca1c7e3df14db8b92a006207bc99b8e4e2d6947d62366d3", func := "tributary/tributarylaw27.CenterOpens", spec := "centerOpens", inPlace := ["slices.overlaps[tributary/sorted.Pair[int, *tributary/txn.Txn]]", "slices.overlaps[tributary/sorted.Pair[int64, tributary/bundle.Bundle]]"], unfollowed := true, recurses := true, apart := false }
def CenterOpensSaid : Prop := centerOpensRow.holds Tryz.pinned (OpenSpec.ofChange centerOpensSpec)

/-- ITS FALSE NEIGHBOUR: 'it returns false'. Refute it at one input. -/
def centerOpensWrong : ChangeSpec := { name := "centerOpens", fn := fun _ => fun
  | [d1, d2, d3, d4] => { results := [.lit (.bool false)], args := [d1, d2, d3, d4] }
  | _ => none }
def CenterOpensWrongFalsely : Prop := centerOpensRow.holds Tryz.pinned (OpenSpec.ofChange centerOpensWrong)

/-- 'tributarylaw29.SessionNil': WHATEVER THE INPUT: true; the input reads as it did. -/
def sessionNilSpec : ChangeSpec := { name := "sessionNil", fn := fun _ => fun
  | [d] => { results := [.lit (.bool true)], args := [d] }
  | _ => none }
def sessionNilRow : OpenClaim := { program := "ytdmaodpmfbgcaaagreat", sum := "2a32203e79b14eb25ca1c7e3df14db8b92a006207bc99b8e4e2d6947d62366d3", func := "tributary/tributarylaw29.SessionNil", spec := "sessionNil", inPlace := ["slices.overlaps[tributary/sorted.Pair[int, *tributary/txn.Txn]]", "slices.overlaps[tributary/sorted.Pair[int64, tributary/bundle.Bundle]]"], unfollowed := true, recurses := true, apart := false }
def SessionNilSaid : Prop := sessionNilRow.holds Tryz.pinned (OpenSpec.ofChange sessionNilSpec)

/-- ITS FALSE NEIGHBOUR: 'it returns false'. Refute it at one input. -/
def sessionNilWrong : ChangeSpec := { name := "sessionNil", fn := fun _ => fun
  | [d] => { results := [.lit (.bool false)], args := [d] }
  | _ => none }
def SessionNilWrongFalsely : Prop := sessionNilRow.holds Tryz.pinned (OpenSpec.ofChange sessionNilWrong)

/-- 'tributarylaw27.CenterNil': WHATEVER THE INPUT: true; the input reads as it did. -/
def centerNilSpec : ChangeSpec := { name := "centerNil", fn := fun _ => fun
  | [d1, d2, d3] => { results := [.lit (.bool true)], args := [d1, d2, d3] }
  | _ => none }
def centerNilRow : OpenClaim := { program := "ytdmaodpmfbgcaaagreat", sum := "2a32203e79b14eb25ca1c7e3df14db8b92a006207bc99b8e4e2d6947d62366d3", func := "tributary/tributarylaw27.CenterNil", spec := "centerNil", inPlace := ["slices.overlaps[tributary/sorted.Pair[int, *tributary/txn.Txn]]", "slices.overlaps[tributary/sorted.Pair[int64, tributary/bundle.Bundle]]"], unfollowed := true, recurses := true, loops := true, apart := false }
def CenterNilSaid : Prop := centerNilRow.holds Tryz.pinned (OpenSpec.ofChange centerNilSpec)

/-- ITS FALSE NEIGHBOUR: 'it returns false'. Refute it at one input. -/
def centerNilWrong : ChangeSpec := { name := "centerNil", fn := fun _ => fun
  | [d1, d2, d3] => { results := [.lit (.bool false)], args := [d1, d2, d3] }
  | _ => none }
def CenterNilWrongFalsely : Prop := centerNilRow.holds Tryz.pinned (OpenSpec.ofChange centerNilWrong)

/-- 'tributarylaw28.WorldNil': WHATEVER THE INPUT: true; the input reads as it did. -/
def worldNilSpec : ChangeSpec := { name := "worldNil", fn := fun _ => fun
  | [d1, d2] => { results := [.lit (.bool true)], args := [d1, d2] }
  | _ => none }
def worldNilRow : OpenClaim := { program := "ytdmaodpmfbgcaaagreat", sum := "2a32203e79b14eb25ca1c7e3df14db8b92a006207bc99b8e4e2d6947d62366d3", func := "tributary/tributarylaw28.WorldNil", spec := "worldNil", inPlace := ["slices.overlaps[tributary/sorted.Pair[int, *tributary/txn.Txn]]", "slices.overlaps[tributary/sorted.Pair[int64, tributary/bundle.Bundle]]"], unfollowed := true, recurses := true, apart := false }
def WorldNilSaid : Prop := worldNilRow.holds Tryz.pinned (OpenSpec.ofChange worldNilSpec)

/-- ITS FALSE NEIGHBOUR: 'it returns false'. Refute it at one input. -/
def worldNilWrong : ChangeSpec := { name := "worldNil", fn := fun _ => fun
  | [d1, d2] => { results := [.lit (.bool false)], args := [d1, d2] }
  | _ => none }
def WorldNilWrongFalsely : Prop := worldNilRow.holds Tryz.pinned (OpenSpec.ofChange worldNilWrong)

/-- 'tributarylaw30.ScriptRight': WHATEVER THE INPUT: true; the input reads as it did. -/
def scriptRightSpec : ChangeSpec := { name := "scriptRight", fn := fun _ => fun
  | [d] => { results := [.lit (.bool true)], args := [d] }
  | _ => none }
def scriptRightRow : OpenClaim := { program := "ytdmaodpmfbgcaaagreat", sum := "2a32203e79b14eb25ca1c7e3df14db8b92a006207bc99b8e4e2d6947d62366d3", func := "tributary/tributarylaw30.ScriptRight", spec := "scriptRight", inPlace := ["slices.overlaps[tributary/sorted.Pair[int, *tributary/txn.Txn]]", "slices.overlaps[tributary/sorted.Pair[int64, tributary/bundle.Bundle]]"], unfollowed := true, recurses := true, apart := false }
def ScriptRightSaid : Prop := scriptRightRow.holds Tryz.pinned (OpenSpec.ofChange scriptRightSpec)

/-- ITS FALSE NEIGHBOUR: 'it returns false'. Refute it at one input. -/
def scriptRightWrong : ChangeSpec := { name := "scriptRight", fn := fun _ => fun
  | [d] => { results := [.lit (.bool false)], args := [d] }
  | _ => none }
def ScriptRightWrongFalsely : Prop := scriptRightRow.holds Tryz.pinned (OpenSpec.ofChange scriptRightWrong)

/-- 'tributarylaw30.ScriptDecodes': WHATEVER THE INPUT: true; the input reads as it did. -/
def scriptDecodesSpec : ChangeSpec := { name := "scriptDecodes", fn := fun _ => fun
  | [d] => { results := [.lit (.bool true)], args := [d] }
  | _ => none }
def scriptDecodesRow : OpenClaim := { program := "ytdmaodpmfbgcaaagreat", sum := "2a32203e79b14eb25ca1c7e3df14db8b92a006207bc99b8e4e2d6947d62366d3", func := "tributary/tributarylaw30.ScriptDecodes", spec := "scriptDecodes", inPlace := ["slices.overlaps[tributary/sorted.Pair[int, *tributary/txn.Txn]]", "slices.overlaps[tributary/sorted.Pair[int64, tributary/bundle.Bundle]]"], unfollowed := true, recurses := true, apart := false }
def ScriptDecodesSaid : Prop := scriptDecodesRow.holds Tryz.pinned (OpenSpec.ofChange scriptDecodesSpec)

/-- ITS FALSE NEIGHBOUR: 'it returns false'. Refute it at one input. -/
def scriptDecodesWrong : ChangeSpec := { name := "scriptDecodes", fn := fun _ => fun
  | [d] => { results := [.lit (.bool false)], args := [d] }
  | _ => none }
def ScriptDecodesWrongFalsely : Prop := scriptDecodesRow.holds Tryz.pinned (OpenSpec.ofChange scriptDecodesWrong)

/- THE SECOND FORM. 'bulk': how many values and letters a reading holds, each counted each time it is reached (what is shared counts as often as it is met; a slice's spare places count too). A statement '..UptoSaid' is the law's where the arguments, and the package variables that the reading takes, are together of bulk at most 1048576: NARROWER than '..Said'. Prove '..Said' where nothing that the law and all that it calls make is longer than what came in: it says more and counts as full. Else prove '..UptoSaid'. A law counts once. -/
mutual
def uptoBulk {H : Type} : DataW H → Nat
  | .lit (.string bytes) => bytes.length + 1
  | .lit _ => 1
  | .nil => 1
  | .ptr d => uptoBulk d + 1
  | .slice elems spare => uptoBulkAll elems + uptoBulkAll spare + 1
  | .agg parts => uptoBulkAll parts + 1
  | .iface _ d => uptoBulk d + 1
  | .map entries => uptoBulkEntries entries + 1
  | .held _ => 1
def uptoBulkAll {H : Type} : List (DataW H) → Nat
  | [] => 0
  | d :: r => uptoBulk d + uptoBulkAll r
def uptoBulkEntries {H : Type} : List (Lit × DataW H) → Nat
  | [] => 0
  | x :: r => uptoBulkEntry x + uptoBulkEntries r
def uptoBulkEntry {H : Type} : Lit × DataW H → Nat
  | (.string bytes, d) => bytes.length + uptoBulk d + 1
  | (_, d) => uptoBulk d + 1
 end
def uptoSmall : (H : Type) → List (DataW H) → Bool := fun _ ds => decide (uptoBulkAll ds ≤ 1048576)
def OpenSpec.upto (s : _root_.Go.ChangeSpec) : _root_.Go.OpenSpec := { _root_.Go.OpenSpec.ofChange s with cond := some uptoSmall }

/-- 'tributarylaw27.CenterOpens', WHERE WHAT IT READS IS OF BULK AT MOST 1048576: true; the input reads as it did. -/
def centerOpensUptoRow : OpenClaim := { program := "ytdmaodpmfbgcaaagreat", sum := "2a32203e79b14eb25ca1c7e3df14db8b92a006207bc99b8e4e2d6947d62366d3", func := "tributary/tributarylaw27.CenterOpens", spec := "centerOpens", inPlace := ["slices.overlaps[tributary/sorted.Pair[int, *tributary/txn.Txn]]", "slices.overlaps[tributary/sorted.Pair[int64, tributary/bundle.Bundle]]"], unfollowed := true, recurses := true, apart := false, narrowed := true }
def CenterOpensUptoSaid : Prop := centerOpensUptoRow.holds Tryz.pinned (OpenSpec.upto centerOpensSpec)

/-- 'tributarylaw29.SessionNil', WHERE WHAT IT READS IS OF BULK AT MOST 1048576: true; the input reads as it did. -/
def sessionNilUptoRow : OpenClaim := { program := "ytdmaodpmfbgcaaagreat", sum := "2a32203e79b14eb25ca1c7e3df14db8b92a006207bc99b8e4e2d6947d62366d3", func := "tributary/tributarylaw29.SessionNil", spec := "sessionNil", inPlace := ["slices.overlaps[tributary/sorted.Pair[int, *tributary/txn.Txn]]", "slices.overlaps[tributary/sorted.Pair[int64, tributary/bundle.Bundle]]"], unfollowed := true, recurses := true, apart := false, narrowed := true }
def SessionNilUptoSaid : Prop := sessionNilUptoRow.holds Tryz.pinned (OpenSpec.upto sessionNilSpec)

/-- 'tributarylaw27.CenterNil', WHERE WHAT IT READS IS OF BULK AT MOST 1048576: true; the input reads as it did. -/
def centerNilUptoRow : OpenClaim := { program := "ytdmaodpmfbgcaaagreat", sum := "2a32203e79b14eb25ca1c7e3df14db8b92a006207bc99b8e4e2d6947d62366d3", func := "tributary/tributarylaw27.CenterNil", spec := "centerNil", inPlace := ["slices.overlaps[tributary/sorted.Pair[int, *tributary/txn.Txn]]", "slices.overlaps[tributary/sorted.Pair[int64, tributary/bundle.Bundle]]"], unfollowed := true, recurses := true, loops := true, apart := false, narrowed := true }
def CenterNilUptoSaid : Prop := centerNilUptoRow.holds Tryz.pinned (OpenSpec.upto centerNilSpec)

/-- 'tributarylaw28.WorldNil', WHERE WHAT IT READS IS OF BULK AT MOST 1048576: true; the input reads as it did. -/
def worldNilUptoRow : OpenClaim := { program := "ytdmaodpmfbgcaaagreat", sum := "2a32203e79b14eb25ca1c7e3df14db8b92a006207bc99b8e4e2d6947d62366d3", func := "tributary/tributarylaw28.WorldNil", spec := "worldNil", inPlace := ["slices.overlaps[tributary/sorted.Pair[int, *tributary/txn.Txn]]", "slices.overlaps[tributary/sorted.Pair[int64, tributary/bundle.Bundle]]"], unfollowed := true, recurses := true, apart := false, narrowed := true }
def WorldNilUptoSaid : Prop := worldNilUptoRow.holds Tryz.pinned (OpenSpec.upto worldNilSpec)

/-- 'tributarylaw30.ScriptRight', WHERE WHAT IT READS IS OF BULK AT MOST 1048576: true; the input reads as it did. -/
def scriptRightUptoRow : OpenClaim := { program := "ytdmaodpmfbgcaaagreat", sum := "2a32203e79b14eb25ca1c7e3df14db8b92a006207bc99b8e4e2d6947d62366d3", func := "tributary/tributarylaw30.ScriptRight", spec := "scriptRight", inPlace := ["slices.overlaps[tributary/sorted.Pair[int, *tributary/txn.Txn]]", "slices.overlaps[tributary/sorted.Pair[int64, tributary/bundle.Bundle]]"], unfollowed := true, recurses := true, apart := false, narrowed := true }
def ScriptRightUptoSaid : Prop := scriptRightUptoRow.holds Tryz.pinned (OpenSpec.upto scriptRightSpec)

/-- 'tributarylaw30.ScriptDecodes', WHERE WHAT IT READS IS OF BULK AT MOST 1048576: true; the input reads as it did. -/
def scriptDecodesUptoRow : OpenClaim := { program := "ytdmaodpmfbgcaaagreat", sum := "2a32203e79b14eb25ca1c7e3df14db8b92a006207bc99b8e4e2d6947d62366d3", func := "tributary/tributarylaw30.ScriptDecodes", spec := "scriptDecodes", inPlace := ["slices.overlaps[tributary/sorted.Pair[int, *tributary/txn.Txn]]", "slices.overlaps[tributary/sorted.Pair[int64, tributary/bundle.Bundle]]"], unfollowed := true, recurses := true, apart := false, narrowed := true }
def ScriptDecodesUptoSaid : Prop := scriptDecodesUptoRow.holds Tryz.pinned (OpenSpec.upto scriptDecodesSpec)

end Rows
end Go.Proofs.YtdmaodpmfbgcaaaGreat
