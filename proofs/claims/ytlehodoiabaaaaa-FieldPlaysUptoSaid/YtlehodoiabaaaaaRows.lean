/-
  No cell of these rows narrows 'for every input' (looked for: loops, veiled, ifaces, maps, wideKeys, modest, calm, conditions, laid).
  DERIVED. THE GIVEN ROWS OF THIS SEAT. 3 by the template 'for every input the law returns true; each argument reads behind the call as it read before'; 0 by the template 'total and deterministic' (their statements: YtlehodoiabaaaaaTotals.lean).
  GIVEN WITH THE SEED: the statements are not yours to turn. If you find one false, say at which input.
  Laid BY PROGRAM, IN A SANDBOX (cutbox-rows.mjs): the forced cells as the released guide's own fill.sh prints them over the translation 5ad79646cbdb8a3d… (all of the seat's roots in one cut). By AI agents, Wed Nov 11 2026. No macro, syntax, notation, axiom, sorry.
-/
import Derived.Test.YtlehodoiabaaaaaChecked
import GoSem.Claim
import GoSem.ClaimJoined
import GoSem.ClaimMapViews
import Derived.JoinedTies
import Derived.KernelRfl
namespace Go.Proofs.Ytlehodoiabaaaaa
/- THE CELL 'sum', in the pinned program and in every row, IS THE sha256 OF THE DUMP (.gsa) THAT YtlehodoiabaaaaaProg.lean LOADS. Nothing in Lean hashes anything: it is a label: what it is worth is what the hold of that sum in a sandbox is worth. -/
noncomputable def Try.pinned : Pinned := { name := "ytlehodoiabaaaaa", sum := "5ad79646cbdb8a3d71e8667f3ced952159430e55f111cea584343f2def3d3d3c", checked := Try.checked }
namespace Rows
def none {H : Type} : Left H := { results := [], args := [] }

/-- 'mewslaw22.FieldLast': WHATEVER THE INPUT: true; the input reads as it did. -/
def fieldLastSpec : ChangeSpec := { name := "fieldLast", fn := fun _ => fun
  | [d1, d2] => { results := [.lit (.bool true)], args := [d1, d2] }
  | _ => none }
def fieldLastRow : OpenClaim := { program := "ytlehodoiabaaaaa", sum := "5ad79646cbdb8a3d71e8667f3ced952159430e55f111cea584343f2def3d3d3c", func := "mews/mewslaw22.FieldLast", spec := "fieldLast", recurses := true, apart := false }
def FieldLastSaid : Prop := fieldLastRow.holds Try.pinned (OpenSpec.ofChange fieldLastSpec)

/-- ITS FALSE NEIGHBOUR: 'it returns false'. Refute it at one input. -/
def fieldLastWrong : ChangeSpec := { name := "fieldLast", fn := fun _ => fun
  | [d1, d2] => { results := [.lit (.bool false)], args := [d1, d2] }
  | _ => none }
def FieldLastWrongFalsely : Prop := fieldLastRow.holds Try.pinned (OpenSpec.ofChange fieldLastWrong)

/-- 'mewslaw22.FieldPlays': WHATEVER THE INPUT: true; the input reads as it did. -/
def fieldPlaysSpec : ChangeSpec := { name := "fieldPlays", fn := fun _ => fun
  | [d1, d2] => { results := [.lit (.bool true)], args := [d1, d2] }
  | _ => none }
def fieldPlaysRow : OpenClaim := { program := "ytlehodoiabaaaaa", sum := "5ad79646cbdb8a3d71e8667f3ced952159430e55f111cea584343f2def3d3d3c", func := "mews/mewslaw22.FieldPlays", spec := "fieldPlays", recurses := true, apart := false }
def FieldPlaysSaid : Prop := fieldPlaysRow.holds Try.pinned (OpenSpec.ofChange fieldPlaysSpec)

/-- ITS FALSE NEIGHBOUR: 'it returns false'. Refute it at one input. -/
def fieldPlaysWrong : ChangeSpec := { name := "fieldPlays", fn := fun _ => fun
  | [d1, d2] => { results := [.lit (.bool false)], args := [d1, d2] }
  | _ => none }
def FieldPlaysWrongFalsely : Prop := fieldPlaysRow.holds Try.pinned (OpenSpec.ofChange fieldPlaysWrong)

/-- 'mewslaw22.FieldUndo': WHATEVER THE INPUT: true; the input reads as it did. -/
def fieldUndoSpec : ChangeSpec := { name := "fieldUndo", fn := fun _ => fun
  | [d1, d2, d3] => { results := [.lit (.bool true)], args := [d1, d2, d3] }
  | _ => none }
def fieldUndoRow : OpenClaim := { program := "ytlehodoiabaaaaa", sum := "5ad79646cbdb8a3d71e8667f3ced952159430e55f111cea584343f2def3d3d3c", func := "mews/mewslaw22.FieldUndo", spec := "fieldUndo", recurses := true, apart := false }
def FieldUndoSaid : Prop := fieldUndoRow.holds Try.pinned (OpenSpec.ofChange fieldUndoSpec)

/-- ITS FALSE NEIGHBOUR: 'it returns false'. Refute it at one input. -/
def fieldUndoWrong : ChangeSpec := { name := "fieldUndo", fn := fun _ => fun
  | [d1, d2, d3] => { results := [.lit (.bool false)], args := [d1, d2, d3] }
  | _ => none }
def FieldUndoWrongFalsely : Prop := fieldUndoRow.holds Try.pinned (OpenSpec.ofChange fieldUndoWrong)

/- THE SECOND FORM. 'bulk': how many values and letters a reading holds, each counted each time it is reached (what is shared counts as often as it is met; a slice's spare places count too). A statement '..UptoSaid' is the law's where the arguments, and the package variables that the reading takes, are together of bulk at most 1048576: NARROWER than '..Said'. Prove '..Said' where nothing that the law and all that it calls make is longer than what came in: it says more and counts as full. Else prove '..UptoSaid'. A law counts once. -/
mutual
def uptoBulk {H : Type} : DataW H → Nat
  | .lit (.string bytes) => bytes.length + 1
  | .lit _ => 1
  | .nil => 1
  | .ptr d => uptoBulk d + 1
  | .slice elems spare => uptoBulkAll elems + uptoBulkAll spare + 1
  | .agg parts => uptoBulkAll parts + 1
  | .iface _ d => uptoBulk d + 1
  | .map entries => uptoBulkEntries entries + 1
  | .held _ => 1
def uptoBulkAll {H : Type} : List (DataW H) → Nat
  | [] => 0
  | d :: r => uptoBulk d + uptoBulkAll r
def uptoBulkEntries {H : Type} : List (Lit × DataW H) → Nat
  | [] => 0
  | x :: r => uptoBulkEntry x + uptoBulkEntries r
def uptoBulkEntry {H : Type} : Lit × DataW H → Nat
  | (.string bytes, d) => bytes.length + uptoBulk d + 1
  | (_, d) => uptoBulk d + 1
 end
def uptoSmall : (H : Type) → List (DataW H) → Bool := fun _ ds => decide (uptoBulkAll ds ≤ 1048576)
def OpenSpec.upto (s : _root_.Go.ChangeSpec) : _root_.Go.OpenSpec := { _root_.Go.OpenSpec.ofChange s with cond := some uptoSmall }

/-- 'mewslaw22.FieldLast', WHERE WHAT IT READS IS OF BULK AT MOST 1048576: true; the input reads as it did. -/
def fieldLastUptoRow : OpenClaim := { program := "ytlehodoiabaaaaa", sum := "5ad79646cbdb8a3d71e8667f3ced952159430e55f111cea584343f2def3d3d3c", func := "mews/mewslaw22.FieldLast", spec := "fieldLast", recurses := true, apart := false, narrowed := true }
def FieldLastUptoSaid : Prop := fieldLastUptoRow.holds Try.pinned (OpenSpec.upto fieldLastSpec)

/-- 'mewslaw22.FieldPlays', WHERE WHAT IT READS IS OF BULK AT MOST 1048576: true; the input reads as it did. -/
def fieldPlaysUptoRow : OpenClaim := { program := "ytlehodoiabaaaaa", sum := "5ad79646cbdb8a3d71e8667f3ced952159430e55f111cea584343f2def3d3d3c", func := "mews/mewslaw22.FieldPlays", spec := "fieldPlays", recurses := true, apart := false, narrowed := true }
def FieldPlaysUptoSaid : Prop := fieldPlaysUptoRow.holds Try.pinned (OpenSpec.upto fieldPlaysSpec)

/-- 'mewslaw22.FieldUndo', WHERE WHAT IT READS IS OF BULK AT MOST 1048576: true; the input reads as it did. -/
def fieldUndoUptoRow : OpenClaim := { program := "ytlehodoiabaaaaa", sum := "5ad79646cbdb8a3d71e8667f3ced952159430e55f111cea584343f2def3d3d3c", func := "mews/mewslaw22.FieldUndo", spec := "fieldUndo", recurses := true, apart := false, narrowed := true }
def FieldUndoUptoSaid : Prop := fieldUndoUptoRow.holds Try.pinned (OpenSpec.upto fieldUndoSpec)

end Rows
end Go.Proofs.Ytlehodoiabaaaaa
