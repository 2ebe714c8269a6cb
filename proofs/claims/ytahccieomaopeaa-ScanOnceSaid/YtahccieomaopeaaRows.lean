/-
  No cell of these rows narrows 'for every input' (looked for: loops, veiled, ifaces, maps, wideKeys, modest, calm, conditions, laid).
  DERIVED. THE GIVEN ROWS OF THIS SEAT. 7 by the template 'for every input the law returns true; each argument reads behind the call as it read before'; 0 by the template 'total and deterministic' (their statements: YtahccieomaopeaaTotals.lean).
  GIVEN WITH THE SEED: the statements are not yours to turn. If you find one false, say at which input.
  Laid BY PROGRAM, IN A SANDBOX (cutbox-rows.mjs): the forced cells as the released guide's own fill.sh prints them over the translation 050ea667e4cd8d5c… (all of the seat's roots in one cut). By AI agents, Wed Nov 11 2026. No macro, syntax, notation, axiom, sorry.
-/
import Derived.Test.YtahccieomaopeaaChecked
import GoSem.Claim
import GoSem.ClaimJoined
import GoSem.ClaimMapViews
import Derived.JoinedTies
import Derived.KernelRfl
namespace Go.Proofs.Ytahccieomaopeaa
/- THE CELL 'sum', in the pinned program and in every row, IS THE sha256 OF THE DUMP (.gsa) THAT YtahccieomaopeaaProg.lean LOADS. Nothing in Lean hashes anything: it is a label: what it is worth is what the hold of that sum in a sandbox is worth. -/
noncomputable def Try.pinned : Pinned := { name := "ytahccieomaopeaa", sum := "050ea667e4cd8d5c43b6128105698550e7463aff7514c33b02d64b8ac3334d19", checked := Try.checked }
namespace Rows
def none {H : Type} : Left H := { results := [], args := [] }

/-- 'mewslaw07.DictKeeps': WHATEVER THE INPUT: true; the input reads as it did. -/
def dictKeepsSpec : ChangeSpec := { name := "dictKeeps", fn := fun _ => fun
  | [d1, d2, d3] => { results := [.lit (.bool true)], args := [d1, d2, d3] }
  | _ => none }
def dictKeepsRow : OpenClaim := { program := "ytahccieomaopeaa", sum := "050ea667e4cd8d5c43b6128105698550e7463aff7514c33b02d64b8ac3334d19", func := "mews/mewslaw07.DictKeeps", spec := "dictKeeps", apart := false }
def DictKeepsSaid : Prop := dictKeepsRow.holds Try.pinned (OpenSpec.ofChange dictKeepsSpec)

/-- ITS FALSE NEIGHBOUR: 'it returns false'. Refute it at one input. -/
def dictKeepsWrong : ChangeSpec := { name := "dictKeeps", fn := fun _ => fun
  | [d1, d2, d3] => { results := [.lit (.bool false)], args := [d1, d2, d3] }
  | _ => none }
def DictKeepsWrongFalsely : Prop := dictKeepsRow.holds Try.pinned (OpenSpec.ofChange dictKeepsWrong)

/-- 'mewslaw07.DictSteps': WHATEVER THE INPUT: true; the input reads as it did. -/
def dictStepsSpec : ChangeSpec := { name := "dictSteps", fn := fun _ => fun
  | [d1, d2] => { results := [.lit (.bool true)], args := [d1, d2] }
  | _ => none }
def dictStepsRow : OpenClaim := { program := "ytahccieomaopeaa", sum := "050ea667e4cd8d5c43b6128105698550e7463aff7514c33b02d64b8ac3334d19", func := "mews/mewslaw07.DictSteps", spec := "dictSteps", apart := false }
def DictStepsSaid : Prop := dictStepsRow.holds Try.pinned (OpenSpec.ofChange dictStepsSpec)

/-- ITS FALSE NEIGHBOUR: 'it returns false'. Refute it at one input. -/
def dictStepsWrong : ChangeSpec := { name := "dictSteps", fn := fun _ => fun
  | [d1, d2] => { results := [.lit (.bool false)], args := [d1, d2] }
  | _ => none }
def DictStepsWrongFalsely : Prop := dictStepsRow.holds Try.pinned (OpenSpec.ofChange dictStepsWrong)

/-- 'mewslaw07.DictNobody': WHATEVER THE INPUT: true; the input reads as it did. -/
def dictNobodySpec : ChangeSpec := { name := "dictNobody", fn := fun _ => fun
  | [d1, d2, d3] => { results := [.lit (.bool true)], args := [d1, d2, d3] }
  | _ => none }
def dictNobodyRow : OpenClaim := { program := "ytahccieomaopeaa", sum := "050ea667e4cd8d5c43b6128105698550e7463aff7514c33b02d64b8ac3334d19", func := "mews/mewslaw07.DictNobody", spec := "dictNobody", apart := false }
def DictNobodySaid : Prop := dictNobodyRow.holds Try.pinned (OpenSpec.ofChange dictNobodySpec)

/-- ITS FALSE NEIGHBOUR: 'it returns false'. Refute it at one input. -/
def dictNobodyWrong : ChangeSpec := { name := "dictNobody", fn := fun _ => fun
  | [d1, d2, d3] => { results := [.lit (.bool false)], args := [d1, d2, d3] }
  | _ => none }
def DictNobodyWrongFalsely : Prop := dictNobodyRow.holds Try.pinned (OpenSpec.ofChange dictNobodyWrong)

/-- 'mewslaw08.ScanNobody': WHATEVER THE INPUT: true; the input reads as it did. -/
def scanNobodySpec : ChangeSpec := { name := "scanNobody", fn := fun _ => fun
  | [d1, d2] => { results := [.lit (.bool true)], args := [d1, d2] }
  | _ => none }
def scanNobodyRow : OpenClaim := { program := "ytahccieomaopeaa", sum := "050ea667e4cd8d5c43b6128105698550e7463aff7514c33b02d64b8ac3334d19", func := "mews/mewslaw08.ScanNobody", spec := "scanNobody", apart := false }
def ScanNobodySaid : Prop := scanNobodyRow.holds Try.pinned (OpenSpec.ofChange scanNobodySpec)

/-- ITS FALSE NEIGHBOUR: 'it returns false'. Refute it at one input. -/
def scanNobodyWrong : ChangeSpec := { name := "scanNobody", fn := fun _ => fun
  | [d1, d2] => { results := [.lit (.bool false)], args := [d1, d2] }
  | _ => none }
def ScanNobodyWrongFalsely : Prop := scanNobodyRow.holds Try.pinned (OpenSpec.ofChange scanNobodyWrong)

/-- 'mewslaw08.ScanTurns': WHATEVER THE INPUT: true; the input reads as it did. -/
def scanTurnsSpec : ChangeSpec := { name := "scanTurns", fn := fun _ => fun
  | [d1, d2, d3] => { results := [.lit (.bool true)], args := [d1, d2, d3] }
  | _ => none }
def scanTurnsRow : OpenClaim := { program := "ytahccieomaopeaa", sum := "050ea667e4cd8d5c43b6128105698550e7463aff7514c33b02d64b8ac3334d19", func := "mews/mewslaw08.ScanTurns", spec := "scanTurns", apart := false }
def ScanTurnsSaid : Prop := scanTurnsRow.holds Try.pinned (OpenSpec.ofChange scanTurnsSpec)

/-- ITS FALSE NEIGHBOUR: 'it returns false'. Refute it at one input. -/
def scanTurnsWrong : ChangeSpec := { name := "scanTurns", fn := fun _ => fun
  | [d1, d2, d3] => { results := [.lit (.bool false)], args := [d1, d2, d3] }
  | _ => none }
def ScanTurnsWrongFalsely : Prop := scanTurnsRow.holds Try.pinned (OpenSpec.ofChange scanTurnsWrong)

/-- 'mewslaw08.ScanFinds': WHATEVER THE INPUT: true; the input reads as it did. -/
def scanFindsSpec : ChangeSpec := { name := "scanFinds", fn := fun _ => fun
  | [d1, d2, d3] => { results := [.lit (.bool true)], args := [d1, d2, d3] }
  | _ => none }
def scanFindsRow : OpenClaim := { program := "ytahccieomaopeaa", sum := "050ea667e4cd8d5c43b6128105698550e7463aff7514c33b02d64b8ac3334d19", func := "mews/mewslaw08.ScanFinds", spec := "scanFinds", apart := false }
def ScanFindsSaid : Prop := scanFindsRow.holds Try.pinned (OpenSpec.ofChange scanFindsSpec)

/-- ITS FALSE NEIGHBOUR: 'it returns false'. Refute it at one input. -/
def scanFindsWrong : ChangeSpec := { name := "scanFinds", fn := fun _ => fun
  | [d1, d2, d3] => { results := [.lit (.bool false)], args := [d1, d2, d3] }
  | _ => none }
def ScanFindsWrongFalsely : Prop := scanFindsRow.holds Try.pinned (OpenSpec.ofChange scanFindsWrong)

/-- 'mewslaw08.ScanOnce': WHATEVER THE INPUT: true; the input reads as it did. -/
def scanOnceSpec : ChangeSpec := { name := "scanOnce", fn := fun _ => fun
  | [d1, d2, d3] => { results := [.lit (.bool true)], args := [d1, d2, d3] }
  | _ => none }
def scanOnceRow : OpenClaim := { program := "ytahccieomaopeaa", sum := "050ea667e4cd8d5c43b6128105698550e7463aff7514c33b02d64b8ac3334d19", func := "mews/mewslaw08.ScanOnce", spec := "scanOnce", apart := false }
def ScanOnceSaid : Prop := scanOnceRow.holds Try.pinned (OpenSpec.ofChange scanOnceSpec)

/-- ITS FALSE NEIGHBOUR: 'it returns false'. Refute it at one input. -/
def scanOnceWrong : ChangeSpec := { name := "scanOnce", fn := fun _ => fun
  | [d1, d2, d3] => { results := [.lit (.bool false)], args := [d1, d2, d3] }
  | _ => none }
def ScanOnceWrongFalsely : Prop := scanOnceRow.holds Try.pinned (OpenSpec.ofChange scanOnceWrong)

/- THE SECOND FORM. 'bulk': how many values and letters a reading holds, each counted each time it is reached (what is shared counts as often as it is met; a slice's spare places count too). A statement '..UptoSaid' is the law's where the arguments, and the package variables that the reading takes, are together of bulk at most 1048576: NARROWER than '..Said'. Prove '..Said' where nothing that the law and all that it calls make is longer than what came in: it says more and counts as full. Else prove '..UptoSaid'. A law counts once. -/
mutual
def uptoBulk {H : Type} : DataW H → Nat
  | .lit (.string bytes) => bytes.length + 1
  | .lit _ => 1
  | .nil => 1
  | .ptr d => uptoBulk d + 1
  | .slice elems spare => uptoBulkAll elems + uptoBulkAll spare + 1
  | .agg parts => uptoBulkAll parts + 1
  | .iface _ d => uptoBulk d + 1
  | .map entries => uptoBulkEntries entries + 1
  | .held _ => 1
def uptoBulkAll {H : Type} : List (DataW H) → Nat
  | [] => 0
  | d :: r => uptoBulk d + uptoBulkAll r
def uptoBulkEntries {H : Type} : List (Lit × DataW H) → Nat
  | [] => 0
  | x :: r => uptoBulkEntry x + uptoBulkEntries r
def uptoBulkEntry {H : Type} : Lit × DataW H → Nat
  | (.string bytes, d) => bytes.length + uptoBulk d + 1
  | (_, d) => uptoBulk d + 1
 end
def uptoSmall : (H : Type) → List (DataW H) → Bool := fun _ ds => decide (uptoBulkAll ds ≤ 1048576)
def OpenSpec.upto (s : _root_.Go.ChangeSpec) : _root_.Go.OpenSpec := { _root_.Go.OpenSpec.ofChange s with cond := some uptoSmall }

/-- 'mewslaw07.DictKeeps', WHERE WHAT IT READS IS OF BULK AT MOST 1048576: true; the input reads as it did. -/
def dictKeepsUptoRow : OpenClaim := { program := "ytahccieomaopeaa", sum := "050ea667e4cd8d5c43b6128105698550e7463aff7514c33b02d64b8ac3334d19", func := "mews/mewslaw07.DictKeeps", spec := "dictKeeps", apart := false, narrowed := true }
def DictKeepsUptoSaid : Prop := dictKeepsUptoRow.holds Try.pinned (OpenSpec.upto dictKeepsSpec)

/-- 'mewslaw07.DictSteps', WHERE WHAT IT READS IS OF BULK AT MOST 1048576: true; the input reads as it did. -/
def dictStepsUptoRow : OpenClaim := { program := "ytahccieomaopeaa", sum := "050ea667e4cd8d5c43b6128105698550e7463aff7514c33b02d64b8ac3334d19", func := "mews/mewslaw07.DictSteps", spec := "dictSteps", apart := false, narrowed := true }
def DictStepsUptoSaid : Prop := dictStepsUptoRow.holds Try.pinned (OpenSpec.upto dictStepsSpec)

/-- 'mewslaw07.DictNobody', WHERE WHAT IT READS IS OF BULK AT MOST 1048576: true; the input reads as it did. -/
def dictNobodyUptoRow : OpenClaim := { program := "ytahccieomaopeaa", sum := "050ea667e4cd8d5c43b6128105698550e7463aff7514c33b02d64b8ac3334d19", func := "mews/mewslaw07.DictNobody", spec := "dictNobody", apart := false, narrowed := true }
def DictNobodyUptoSaid : Prop := dictNobodyUptoRow.holds Try.pinned (OpenSpec.upto dictNobodySpec)

/-- 'mewslaw08.ScanNobody', WHERE WHAT IT READS IS OF BULK AT MOST 1048576: true; the input reads as it did. -/
def scanNobodyUptoRow : OpenClaim := { program := "ytahccieomaopeaa", sum := "050ea667e4cd8d5c43b6128105698550e7463aff7514c33b02d64b8ac3334d19", func := "mews/mewslaw08.ScanNobody", spec := "scanNobody", apart := false, narrowed := true }
def ScanNobodyUptoSaid : Prop := scanNobodyUptoRow.holds Try.pinned (OpenSpec.upto scanNobodySpec)

/-- 'mewslaw08.ScanTurns', WHERE WHAT IT READS IS OF BULK AT MOST 1048576: true; the input reads as it did. -/
def scanTurnsUptoRow : OpenClaim := { program := "ytahccieomaopeaa", sum := "050ea667e4cd8d5c43b6128105698550e7463aff7514c33b02d64b8ac3334d19", func := "mews/mewslaw08.ScanTurns", spec := "scanTurns", apart := false, narrowed := true }
def ScanTurnsUptoSaid : Prop := scanTurnsUptoRow.holds Try.pinned (OpenSpec.upto scanTurnsSpec)

/-- 'mewslaw08.ScanFinds', WHERE WHAT IT READS IS OF BULK AT MOST 1048576: true; the input reads as it did. -/
def scanFindsUptoRow : OpenClaim := { program := "ytahccieomaopeaa", sum := "050ea667e4cd8d5c43b6128105698550e7463aff7514c33b02d64b8ac3334d19", func := "mews/mewslaw08.ScanFinds", spec := "scanFinds", apart := false, narrowed := true }
def ScanFindsUptoSaid : Prop := scanFindsUptoRow.holds Try.pinned (OpenSpec.upto scanFindsSpec)

/-- 'mewslaw08.ScanOnce', WHERE WHAT IT READS IS OF BULK AT MOST 1048576: true; the input reads as it did. -/
def scanOnceUptoRow : OpenClaim := { program := "ytahccieomaopeaa", sum := "050ea667e4cd8d5c43b6128105698550e7463aff7514c33b02d64b8ac3334d19", func := "mews/mewslaw08.ScanOnce", spec := "scanOnce", apart := false, narrowed := true }
def ScanOnceUptoSaid : Prop := scanOnceUptoRow.holds Try.pinned (OpenSpec.upto scanOnceSpec)

end Rows
end Go.Proofs.Ytahccieomaopeaa
