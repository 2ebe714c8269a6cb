/-
  No cell of these rows narrows 'for every input' (looked for: loops, veiled, ifaces, maps, wideKeys, modest, calm, conditions, laid).
  DERIVED. THE GIVEN ROWS OF THIS SEAT. 3 by the template 'for every input the law returns true; each argument reads behind the call as it read before'; 0 by the template 'total and deterministic' (their statements: YtmognhokagemiaaGreatTotals.lean).
  GIVEN WITH THE SEED: the statements are not yours to turn. If you find one false, say at which input.
  Laid BY PROGRAM, IN A SANDBOX (cutbox-rows.mjs): the forced cells as the released guide's own fill.sh prints them over the translation b906cbeb7a4c1849… (all of the seat's roots in one cut). By AI agents, Wed Nov 11 2026. No macro, syntax, notation, axiom, sorry.
-/
import Derived.Test.YtmognhokagemiaaGreatChecked
import GoSem.Claim
import GoSem.ClaimJoined
import GoSem.ClaimMapViews
import Derived.JoinedTies
import Derived.KernelRfl
namespace Go.Proofs.YtmognhokagemiaaGreat
/- THE CELL 'sum', in the pinned program and in every row, IS THE sha256 OF THE DUMP (.gsa) THAT YtmognhokagemiaaGreatProg.lean LOADS. Nothing in Lean hashes anything: it is a label: what it is worth is what the hold of that sum in a sandbox is worth. -/
noncomputable def Tryz.pinned : Pinned := { name := "ytmognhokagemiaagreat", sum := "b906cbeb7a4c1849e46959563c9e16e478b926d1e0cf9f71dd2e4855cddcda42", checked := Tryz.checked }
namespace Rows
def none {H : Type} : Left H := { results := [], args := [] }

/-- 'mewslaw18.RestoreLoads': WHATEVER THE INPUT: true; the input reads as it did. -/
def restoreLoadsSpec : ChangeSpec := { name := "restoreLoads", fn := fun _ => fun
  | [d1, d2] => { results := [.lit (.bool true)], args := [d1, d2] }
  | _ => none }
def restoreLoadsRow : OpenClaim := { program := "ytmognhokagemiaagreat", sum := "b906cbeb7a4c1849e46959563c9e16e478b926d1e0cf9f71dd2e4855cddcda42", func := "mews/mewslaw18.RestoreLoads", spec := "restoreLoads", inPlace := ["internal/abi.NoEscape", "internal/bytealg.IndexByteString", "internal/bytealg.abigen_runtime_cmpstring"], unfollowed := true, recurses := true, apart := false }
def RestoreLoadsSaid : Prop := restoreLoadsRow.holds Tryz.pinned (OpenSpec.ofChange restoreLoadsSpec)

/-- ITS FALSE NEIGHBOUR: 'it returns false'. Refute it at one input. -/
def restoreLoadsWrong : ChangeSpec := { name := "restoreLoads", fn := fun _ => fun
  | [d1, d2] => { results := [.lit (.bool false)], args := [d1, d2] }
  | _ => none }
def RestoreLoadsWrongFalsely : Prop := restoreLoadsRow.holds Tryz.pinned (OpenSpec.ofChange restoreLoadsWrong)

/-- 'mewslaw18.RestoreTwice': WHATEVER THE INPUT: true; the input reads as it did. -/
def restoreTwiceSpec : ChangeSpec := { name := "restoreTwice", fn := fun _ => fun
  | [d1, d2] => { results := [.lit (.bool true)], args := [d1, d2] }
  | _ => none }
def restoreTwiceRow : OpenClaim := { program := "ytmognhokagemiaagreat", sum := "b906cbeb7a4c1849e46959563c9e16e478b926d1e0cf9f71dd2e4855cddcda42", func := "mews/mewslaw18.RestoreTwice", spec := "restoreTwice", inPlace := ["internal/abi.NoEscape", "internal/bytealg.IndexByteString", "internal/bytealg.abigen_runtime_cmpstring"], unfollowed := true, recurses := true, apart := false }
def RestoreTwiceSaid : Prop := restoreTwiceRow.holds Tryz.pinned (OpenSpec.ofChange restoreTwiceSpec)

/-- ITS FALSE NEIGHBOUR: 'it returns false'. Refute it at one input. -/
def restoreTwiceWrong : ChangeSpec := { name := "restoreTwice", fn := fun _ => fun
  | [d1, d2] => { results := [.lit (.bool false)], args := [d1, d2] }
  | _ => none }
def RestoreTwiceWrongFalsely : Prop := restoreTwiceRow.holds Tryz.pinned (OpenSpec.ofChange restoreTwiceWrong)

/-- 'mewslaw18.RestoreLays': WHATEVER THE INPUT: true; the input reads as it did. -/
def restoreLaysSpec : ChangeSpec := { name := "restoreLays", fn := fun _ => fun
  | [d1, d2, d3] => { results := [.lit (.bool true)], args := [d1, d2, d3] }
  | _ => none }
def restoreLaysRow : OpenClaim := { program := "ytmognhokagemiaagreat", sum := "b906cbeb7a4c1849e46959563c9e16e478b926d1e0cf9f71dd2e4855cddcda42", func := "mews/mewslaw18.RestoreLays", spec := "restoreLays", inPlace := ["internal/abi.NoEscape", "internal/bytealg.IndexByteString", "internal/bytealg.abigen_runtime_cmpstring"], unfollowed := true, recurses := true, apart := false }
def RestoreLaysSaid : Prop := restoreLaysRow.holds Tryz.pinned (OpenSpec.ofChange restoreLaysSpec)

/-- ITS FALSE NEIGHBOUR: 'it returns false'. Refute it at one input. -/
def restoreLaysWrong : ChangeSpec := { name := "restoreLays", fn := fun _ => fun
  | [d1, d2, d3] => { results := [.lit (.bool false)], args := [d1, d2, d3] }
  | _ => none }
def RestoreLaysWrongFalsely : Prop := restoreLaysRow.holds Tryz.pinned (OpenSpec.ofChange restoreLaysWrong)

/- THE SECOND FORM. 'bulk': how many values and letters a reading holds, each counted each time it is reached (what is shared counts as often as it is met; a slice's spare places count too). A statement '..UptoSaid' is the law's where the arguments, and the package variables that the reading takes, are together of bulk at most 1048576: NARROWER than '..Said'. Prove '..Said' where nothing that the law and all that it calls make is longer than what came in: it says more and counts as full. Else prove '..UptoSaid'. A law counts once. -/
mutual
def uptoBulk {H : Type} : DataW H → Nat
  | .lit (.string bytes) => bytes.length + 1
  | .lit _ => 1
  | .nil => 1
  | .ptr d => uptoBulk d + 1
  | .slice elems spare => uptoBulkAll elems + uptoBulkAll spare + 1
  | .agg parts => uptoBulkAll parts + 1
  | .iface _ d => uptoBulk d + 1
  | .map entries => uptoBulkEntries entries + 1
  | .held _ => 1
def uptoBulkAll {H : Type} : List (DataW H) → Nat
  | [] => 0
  | d :: r => uptoBulk d + uptoBulkAll r
def uptoBulkEntries {H : Type} : List (Lit × DataW H) → Nat
  | [] => 0
  | x :: r => uptoBulkEntry x + uptoBulkEntries r
def uptoBulkEntry {H : Type} : Lit × DataW H → Nat
  | (.string bytes, d) => bytes.length + uptoBulk d + 1
  | (_, d) => uptoBulk d + 1
 end
def uptoSmall : (H : Type) → List (DataW H) → Bool := fun _ ds => decide (uptoBulkAll ds ≤ 1048576)
def OpenSpec.upto (s : _root_.Go.ChangeSpec) : _root_.Go.OpenSpec := { _root_.Go.OpenSpec.ofChange s with cond := some uptoSmall }

/-- 'mewslaw18.RestoreLoads', WHERE WHAT IT READS IS OF BULK AT MOST 1048576: true; the input reads as it did. -/
def restoreLoadsUptoRow : OpenClaim := { program := "ytmognhokagemiaagreat", sum := "b906cbeb7a4c1849e46959563c9e16e478b926d1e0cf9f71dd2e4855cddcda42", func := "mews/mewslaw18.RestoreLoads", spec := "restoreLoads", inPlace := ["internal/abi.NoEscape", "internal/bytealg.IndexByteString", "internal/bytealg.abigen_runtime_cmpstring"], unfollowed := true, recurses := true, apart := false, narrowed := true }
def RestoreLoadsUptoSaid : Prop := restoreLoadsUptoRow.holds Tryz.pinned (OpenSpec.upto restoreLoadsSpec)

/-- 'mewslaw18.RestoreTwice', WHERE WHAT IT READS IS OF BULK AT MOST 1048576: true; the input reads as it did. -/
def restoreTwiceUptoRow : OpenClaim := { program := "ytmognhokagemiaagreat", sum := "b906cbeb7a4c1849e46959563c9e16e478b926d1e0cf9f71dd2e4855cddcda42", func := "mews/mewslaw18.RestoreTwice", spec := "restoreTwice", inPlace := ["internal/abi.NoEscape", "internal/bytealg.IndexByteString", "internal/bytealg.abigen_runtime_cmpstring"], unfollowed := true, recurses := true, apart := false, narrowed := true }
def RestoreTwiceUptoSaid : Prop := restoreTwiceUptoRow.holds Tryz.pinned (OpenSpec.upto restoreTwiceSpec)

/-- 'mewslaw18.RestoreLays', WHERE WHAT IT READS IS OF BULK AT MOST 1048576: true; the input reads as it did. -/
def restoreLaysUptoRow : OpenClaim := { program := "ytmognhokagemiaagreat", sum := "b906cbeb7a4c1849e46959563c9e16e478b926d1e0cf9f71dd2e4855cddcda42", func := "mews/mewslaw18.RestoreLays", spec := "restoreLays", inPlace := ["internal/abi.NoEscape", "internal/bytealg.IndexByteString", "internal/bytealg.abigen_runtime_cmpstring"], unfollowed := true, recurses := true, apart := false, narrowed := true }
def RestoreLaysUptoSaid : Prop := restoreLaysUptoRow.holds Tryz.pinned (OpenSpec.upto restoreLaysSpec)

end Rows
end Go.Proofs.YtmognhokagemiaaGreat
