/-
  No cell of these rows narrows 'for every input' (looked for: loops, veiled, ifaces, maps, wideKeys, modest, calm, conditions, laid).
  DERIVED. THE GIVEN ROWS OF THIS SEAT. 10 by the template 'for every input the law returns true; each argument reads behind the call as it read before'; 0 by the template 'total and deterministic' (their statements: YtfapgollkabopaaTotals.lean).
  GIVEN WITH THE SEED: the statements are not yours to turn. If you find one false, say at which input.
  Laid BY PROGRAM, IN A SANDBOX (cutbox-rows.mjs): the forced cells as the released guide's own fill.sh prints them over the translation bc3d43c06182fc4d… (all of the seat's roots in one cut). By AI agents, Wed Nov 11 2026. No macro, syntax, notation, axiom, sorry.
-/
import Derived.Test.YtfapgollkabopaaChecked
import GoSem.Claim
import GoSem.ClaimJoined
import GoSem.ClaimMapViews
import Derived.JoinedTies
import Derived.KernelRfl
namespace Go.Proofs.Ytfapgollkabopaa
/- THE CELL 'sum', in the pinned program and in every row, IS THE sha256 OF THE DUMP (.gsa) THAT YtfapgollkabopaaProg.lean LOADS. Nothing in Lean hashes anything: it is a label: what it is worth is what the hold of that sum in a sandbox is worth. -/
noncomputable def Try.pinned : Pinned := { name := "ytfapgollkabopaa", sum := "bc3d43c06182fc4d84455e0d2af1f2e28e32e494de0a84802c7c89f378e7a31c", checked := Try.checked }
namespace Rows
def none {H : Type} : Left H := { results := [], args := [] }

/-- 'mewslaw05.ParseFeeds': WHATEVER THE INPUT: true; the input reads as it did. -/
def parseFeedsSpec : ChangeSpec := { name := "parseFeeds", fn := fun _ => fun
  | [d1, d2] => { results := [.lit (.bool true)], args := [d1, d2] }
  | _ => none }
def parseFeedsRow : OpenClaim := { program := "ytfapgollkabopaa", sum := "bc3d43c06182fc4d84455e0d2af1f2e28e32e494de0a84802c7c89f378e7a31c", func := "mews/mewslaw05.ParseFeeds", spec := "parseFeeds", inPlace := ["internal/bytealg.IndexByteString"], unfollowed := true, recurses := true, apart := false }
def ParseFeedsSaid : Prop := parseFeedsRow.holds Try.pinned (OpenSpec.ofChange parseFeedsSpec)

/-- ITS FALSE NEIGHBOUR: 'it returns false'. Refute it at one input. -/
def parseFeedsWrong : ChangeSpec := { name := "parseFeeds", fn := fun _ => fun
  | [d1, d2] => { results := [.lit (.bool false)], args := [d1, d2] }
  | _ => none }
def ParseFeedsWrongFalsely : Prop := parseFeedsRow.holds Try.pinned (OpenSpec.ofChange parseFeedsWrong)

/-- 'mewslaw05.ParsePieces': WHATEVER THE INPUT: true; the input reads as it did. -/
def parsePiecesSpec : ChangeSpec := { name := "parsePieces", fn := fun _ => fun
  | [d1, d2] => { results := [.lit (.bool true)], args := [d1, d2] }
  | _ => none }
def parsePiecesRow : OpenClaim := { program := "ytfapgollkabopaa", sum := "bc3d43c06182fc4d84455e0d2af1f2e28e32e494de0a84802c7c89f378e7a31c", func := "mews/mewslaw05.ParsePieces", spec := "parsePieces", inPlace := ["internal/bytealg.IndexByteString"], unfollowed := true, recurses := true, apart := false }
def ParsePiecesSaid : Prop := parsePiecesRow.holds Try.pinned (OpenSpec.ofChange parsePiecesSpec)

/-- ITS FALSE NEIGHBOUR: 'it returns false'. Refute it at one input. -/
def parsePiecesWrong : ChangeSpec := { name := "parsePieces", fn := fun _ => fun
  | [d1, d2] => { results := [.lit (.bool false)], args := [d1, d2] }
  | _ => none }
def ParsePiecesWrongFalsely : Prop := parsePiecesRow.holds Try.pinned (OpenSpec.ofChange parsePiecesWrong)

/-- 'mewslaw05.ParseCounts': WHATEVER THE INPUT: true; the input reads as it did. -/
def parseCountsSpec : ChangeSpec := { name := "parseCounts", fn := fun _ => fun
  | [d1, d2] => { results := [.lit (.bool true)], args := [d1, d2] }
  | _ => none }
def parseCountsRow : OpenClaim := { program := "ytfapgollkabopaa", sum := "bc3d43c06182fc4d84455e0d2af1f2e28e32e494de0a84802c7c89f378e7a31c", func := "mews/mewslaw05.ParseCounts", spec := "parseCounts", inPlace := ["internal/bytealg.IndexByteString"], unfollowed := true, recurses := true, apart := false }
def ParseCountsSaid : Prop := parseCountsRow.holds Try.pinned (OpenSpec.ofChange parseCountsSpec)

/-- ITS FALSE NEIGHBOUR: 'it returns false'. Refute it at one input. -/
def parseCountsWrong : ChangeSpec := { name := "parseCounts", fn := fun _ => fun
  | [d1, d2] => { results := [.lit (.bool false)], args := [d1, d2] }
  | _ => none }
def ParseCountsWrongFalsely : Prop := parseCountsRow.holds Try.pinned (OpenSpec.ofChange parseCountsWrong)

/-- 'mewslaw05.ParseBack': WHATEVER THE INPUT: true; the input reads as it did. -/
def parseBackSpec : ChangeSpec := { name := "parseBack", fn := fun _ => fun
  | [d1, d2, d3] => { results := [.lit (.bool true)], args := [d1, d2, d3] }
  | _ => none }
def parseBackRow : OpenClaim := { program := "ytfapgollkabopaa", sum := "bc3d43c06182fc4d84455e0d2af1f2e28e32e494de0a84802c7c89f378e7a31c", func := "mews/mewslaw05.ParseBack", spec := "parseBack", inPlace := ["internal/bytealg.IndexByteString", "internal/abi.NoEscape"], unfollowed := true, recurses := true, apart := false }
def ParseBackSaid : Prop := parseBackRow.holds Try.pinned (OpenSpec.ofChange parseBackSpec)

/-- ITS FALSE NEIGHBOUR: 'it returns false'. Refute it at one input. -/
def parseBackWrong : ChangeSpec := { name := "parseBack", fn := fun _ => fun
  | [d1, d2, d3] => { results := [.lit (.bool false)], args := [d1, d2, d3] }
  | _ => none }
def ParseBackWrongFalsely : Prop := parseBackRow.holds Try.pinned (OpenSpec.ofChange parseBackWrong)

/-- 'mewslaw43.ConnOrder': WHATEVER THE INPUT: true; the input reads as it did. -/
def connOrderSpec : ChangeSpec := { name := "connOrder", fn := fun _ => fun
  | [d1, d2] => { results := [.lit (.bool true)], args := [d1, d2] }
  | _ => none }
def connOrderRow : OpenClaim := { program := "ytfapgollkabopaa", sum := "bc3d43c06182fc4d84455e0d2af1f2e28e32e494de0a84802c7c89f378e7a31c", func := "mews/mewslaw43.ConnOrder", spec := "connOrder", inPlace := ["internal/bytealg.IndexByteString"], unfollowed := true, recurses := true, apart := false }
def ConnOrderSaid : Prop := connOrderRow.holds Try.pinned (OpenSpec.ofChange connOrderSpec)

/-- ITS FALSE NEIGHBOUR: 'it returns false'. Refute it at one input. -/
def connOrderWrong : ChangeSpec := { name := "connOrder", fn := fun _ => fun
  | [d1, d2] => { results := [.lit (.bool false)], args := [d1, d2] }
  | _ => none }
def ConnOrderWrongFalsely : Prop := connOrderRow.holds Try.pinned (OpenSpec.ofChange connOrderWrong)

/-- 'mewslaw43.ConnPieces': WHATEVER THE INPUT: true; the input reads as it did. -/
def connPiecesSpec : ChangeSpec := { name := "connPieces", fn := fun _ => fun
  | [d1, d2] => { results := [.lit (.bool true)], args := [d1, d2] }
  | _ => none }
def connPiecesRow : OpenClaim := { program := "ytfapgollkabopaa", sum := "bc3d43c06182fc4d84455e0d2af1f2e28e32e494de0a84802c7c89f378e7a31c", func := "mews/mewslaw43.ConnPieces", spec := "connPieces", inPlace := ["internal/bytealg.IndexByteString"], unfollowed := true, recurses := true, apart := false }
def ConnPiecesSaid : Prop := connPiecesRow.holds Try.pinned (OpenSpec.ofChange connPiecesSpec)

/-- ITS FALSE NEIGHBOUR: 'it returns false'. Refute it at one input. -/
def connPiecesWrong : ChangeSpec := { name := "connPieces", fn := fun _ => fun
  | [d1, d2] => { results := [.lit (.bool false)], args := [d1, d2] }
  | _ => none }
def ConnPiecesWrongFalsely : Prop := connPiecesRow.holds Try.pinned (OpenSpec.ofChange connPiecesWrong)

/-- 'mewslaw43.ConnPlays': WHATEVER THE INPUT: true; the input reads as it did. -/
def connPlaysSpec : ChangeSpec := { name := "connPlays", fn := fun _ => fun
  | [d1, d2] => { results := [.lit (.bool true)], args := [d1, d2] }
  | _ => none }
def connPlaysRow : OpenClaim := { program := "ytfapgollkabopaa", sum := "bc3d43c06182fc4d84455e0d2af1f2e28e32e494de0a84802c7c89f378e7a31c", func := "mews/mewslaw43.ConnPlays", spec := "connPlays", inPlace := ["internal/bytealg.IndexByteString"], unfollowed := true, recurses := true, apart := false }
def ConnPlaysSaid : Prop := connPlaysRow.holds Try.pinned (OpenSpec.ofChange connPlaysSpec)

/-- ITS FALSE NEIGHBOUR: 'it returns false'. Refute it at one input. -/
def connPlaysWrong : ChangeSpec := { name := "connPlays", fn := fun _ => fun
  | [d1, d2] => { results := [.lit (.bool false)], args := [d1, d2] }
  | _ => none }
def ConnPlaysWrongFalsely : Prop := connPlaysRow.holds Try.pinned (OpenSpec.ofChange connPlaysWrong)

/-- 'mewslaw42.AuthRight': WHATEVER THE INPUT: true; the input reads as it did. -/
def authRightSpec : ChangeSpec := { name := "authRight", fn := fun _ => fun
  | [d1, d2] => { results := [.lit (.bool true)], args := [d1, d2] }
  | _ => none }
def authRightRow : OpenClaim := { program := "ytfapgollkabopaa", sum := "bc3d43c06182fc4d84455e0d2af1f2e28e32e494de0a84802c7c89f378e7a31c", func := "mews/mewslaw42.AuthRight", spec := "authRight", inPlace := ["internal/bytealg.IndexByteString"], unfollowed := true, recurses := true, apart := false }
def AuthRightSaid : Prop := authRightRow.holds Try.pinned (OpenSpec.ofChange authRightSpec)

/-- ITS FALSE NEIGHBOUR: 'it returns false'. Refute it at one input. -/
def authRightWrong : ChangeSpec := { name := "authRight", fn := fun _ => fun
  | [d1, d2] => { results := [.lit (.bool false)], args := [d1, d2] }
  | _ => none }
def AuthRightWrongFalsely : Prop := authRightRow.holds Try.pinned (OpenSpec.ofChange authRightWrong)

/-- 'mewslaw42.AuthFirst': WHATEVER THE INPUT: true; the input reads as it did. -/
def authFirstSpec : ChangeSpec := { name := "authFirst", fn := fun _ => fun
  | [d1, d2] => { results := [.lit (.bool true)], args := [d1, d2] }
  | _ => none }
def authFirstRow : OpenClaim := { program := "ytfapgollkabopaa", sum := "bc3d43c06182fc4d84455e0d2af1f2e28e32e494de0a84802c7c89f378e7a31c", func := "mews/mewslaw42.AuthFirst", spec := "authFirst", inPlace := ["internal/bytealg.IndexByteString"], unfollowed := true, recurses := true, apart := false }
def AuthFirstSaid : Prop := authFirstRow.holds Try.pinned (OpenSpec.ofChange authFirstSpec)

/-- ITS FALSE NEIGHBOUR: 'it returns false'. Refute it at one input. -/
def authFirstWrong : ChangeSpec := { name := "authFirst", fn := fun _ => fun
  | [d1, d2] => { results := [.lit (.bool false)], args := [d1, d2] }
  | _ => none }
def AuthFirstWrongFalsely : Prop := authFirstRow.holds Try.pinned (OpenSpec.ofChange authFirstWrong)

/-- 'mewslaw42.AuthOwn': WHATEVER THE INPUT: true; the input reads as it did. -/
def authOwnSpec : ChangeSpec := { name := "authOwn", fn := fun _ => fun
  | [d1, d2, d3, d4] => { results := [.lit (.bool true)], args := [d1, d2, d3, d4] }
  | _ => none }
def authOwnRow : OpenClaim := { program := "ytfapgollkabopaa", sum := "bc3d43c06182fc4d84455e0d2af1f2e28e32e494de0a84802c7c89f378e7a31c", func := "mews/mewslaw42.AuthOwn", spec := "authOwn", inPlace := ["internal/bytealg.IndexByteString"], unfollowed := true, recurses := true, apart := false }
def AuthOwnSaid : Prop := authOwnRow.holds Try.pinned (OpenSpec.ofChange authOwnSpec)

/-- ITS FALSE NEIGHBOUR: 'it returns false'. Refute it at one input. -/
def authOwnWrong : ChangeSpec := { name := "authOwn", fn := fun _ => fun
  | [d1, d2, d3, d4] => { results := [.lit (.bool false)], args := [d1, d2, d3, d4] }
  | _ => none }
def AuthOwnWrongFalsely : Prop := authOwnRow.holds Try.pinned (OpenSpec.ofChange authOwnWrong)

/- THE SECOND FORM. 'bulk': how many values and letters a reading holds, each counted each time it is reached (what is shared counts as often as it is met; a slice's spare places count too). A statement '..UptoSaid' is the law's where the arguments, and the package variables that the reading takes, are together of bulk at most 1048576: NARROWER than '..Said'. Prove '..Said' where nothing that the law and all that it calls make is longer than what came in: it says more and counts as full. Else prove '..UptoSaid'. A law counts once. -/
mutual
def uptoBulk {H : Type} : DataW H → Nat
  | .lit (.string bytes) => bytes.length + 1
  | .lit _ => 1
  | .nil => 1
  | .ptr d => uptoBulk d + 1
  | .slice elems spare => uptoBulkAll elems + uptoBulkAll spare + 1
  | .agg parts => uptoBulkAll parts + 1
  | .iface _ d => uptoBulk d + 1
  | .map entries => uptoBulkEntries entries + 1
  | .held _ => 1
def uptoBulkAll {H : Type} : List (DataW H) → Nat
  | [] => 0
  | d :: r => uptoBulk d + uptoBulkAll r
def uptoBulkEntries {H : Type} : List (Lit × DataW H) → Nat
  | [] => 0
  | x :: r => uptoBulkEntry x + uptoBulkEntries r
def uptoBulkEntry {H : Type} : Lit × DataW H → Nat
  | (.string bytes, d) => bytes.length + uptoBulk d + 1
  | (_, d) => uptoBulk d + 1
 end
def uptoSmall : (H : Type) → List (DataW H) → Bool := fun _ ds => decide (uptoBulkAll ds ≤ 1048576)
def OpenSpec.upto (s : _root_.Go.ChangeSpec) : _root_.Go.OpenSpec := { _root_.Go.OpenSpec.ofChange s with cond := some uptoSmall }

/-- 'mewslaw05.ParseFeeds', WHERE WHAT IT READS IS OF BULK AT MOST 1048576: true; the input reads as it did. -/
def parseFeedsUptoRow : OpenClaim := { program := "ytfapgollkabopaa", sum := "bc3d43c06182fc4d84455e0d2af1f2e28e32e494de0a84802c7c89f378e7a31c", func := "mews/mewslaw05.ParseFeeds", spec := "parseFeeds", inPlace := ["internal/bytealg.IndexByteString"], unfollowed := true, recurses := true, apart := false, narrowed := true }
def ParseFeedsUptoSaid : Prop := parseFeedsUptoRow.holds Try.pinned (OpenSpec.upto parseFeedsSpec)

/-- 'mewslaw05.ParsePieces', WHERE WHAT IT READS IS OF BULK AT MOST 1048576: true; the input reads as it did. -/
def parsePiecesUptoRow : OpenClaim := { program := "ytfapgollkabopaa", sum := "bc3d43c06182fc4d84455e0d2af1f2e28e32e494de0a84802c7c89f378e7a31c", func := "mews/mewslaw05.ParsePieces", spec := "parsePieces", inPlace := ["internal/bytealg.IndexByteString"], unfollowed := true, recurses := true, apart := false, narrowed := true }
def ParsePiecesUptoSaid : Prop := parsePiecesUptoRow.holds Try.pinned (OpenSpec.upto parsePiecesSpec)

/-- 'mewslaw05.ParseCounts', WHERE WHAT IT READS IS OF BULK AT MOST 1048576: true; the input reads as it did. -/
def parseCountsUptoRow : OpenClaim := { program := "ytfapgollkabopaa", sum := "bc3d43c06182fc4d84455e0d2af1f2e28e32e494de0a84802c7c89f378e7a31c", func := "mews/mewslaw05.ParseCounts", spec := "parseCounts", inPlace := ["internal/bytealg.IndexByteString"], unfollowed := true, recurses := true, apart := false, narrowed := true }
def ParseCountsUptoSaid : Prop := parseCountsUptoRow.holds Try.pinned (OpenSpec.upto parseCountsSpec)

/-- 'mewslaw05.ParseBack', WHERE WHAT IT READS IS OF BULK AT MOST 1048576: true; the input reads as it did. -/
def parseBackUptoRow : OpenClaim := { program := "ytfapgollkabopaa", sum := "bc3d43c06182fc4d84455e0d2af1f2e28e32e494de0a84802c7c89f378e7a31c", func := "mews/mewslaw05.ParseBack", spec := "parseBack", inPlace := ["internal/bytealg.IndexByteString", "internal/abi.NoEscape"], unfollowed := true, recurses := true, apart := false, narrowed := true }
def ParseBackUptoSaid : Prop := parseBackUptoRow.holds Try.pinned (OpenSpec.upto parseBackSpec)

/-- 'mewslaw43.ConnOrder', WHERE WHAT IT READS IS OF BULK AT MOST 1048576: true; the input reads as it did. -/
def connOrderUptoRow : OpenClaim := { program := "ytfapgollkabopaa", sum := "bc3d43c06182fc4d84455e0d2af1f2e28e32e494de0a84802c7c89f378e7a31c", func := "mews/mewslaw43.ConnOrder", spec := "connOrder", inPlace := ["internal/bytealg.IndexByteString"], unfollowed := true, recurses := true, apart := false, narrowed := true }
def ConnOrderUptoSaid : Prop := connOrderUptoRow.holds Try.pinned (OpenSpec.upto connOrderSpec)

/-- 'mewslaw43.ConnPieces', WHERE WHAT IT READS IS OF BULK AT MOST 1048576: true; the input reads as it did. -/
def connPiecesUptoRow : OpenClaim := { program := "ytfapgollkabopaa", sum := "bc3d43c06182fc4d84455e0d2af1f2e28e32e494de0a84802c7c89f378e7a31c", func := "mews/mewslaw43.ConnPieces", spec := "connPieces", inPlace := ["internal/bytealg.IndexByteString"], unfollowed := true, recurses := true, apart := false, narrowed := true }
def ConnPiecesUptoSaid : Prop := connPiecesUptoRow.holds Try.pinned (OpenSpec.upto connPiecesSpec)

/-- 'mewslaw43.ConnPlays', WHERE WHAT IT READS IS OF BULK AT MOST 1048576: true; the input reads as it did. -/
def connPlaysUptoRow : OpenClaim := { program := "ytfapgollkabopaa", sum := "bc3d43c06182fc4d84455e0d2af1f2e28e32e494de0a84802c7c89f378e7a31c", func := "mews/mewslaw43.ConnPlays", spec := "connPlays", inPlace := ["internal/bytealg.IndexByteString"], unfollowed := true, recurses := true, apart := false, narrowed := true }
def ConnPlaysUptoSaid : Prop := connPlaysUptoRow.holds Try.pinned (OpenSpec.upto connPlaysSpec)

/-- 'mewslaw42.AuthRight', WHERE WHAT IT READS IS OF BULK AT MOST 1048576: true; the input reads as it did. -/
def authRightUptoRow : OpenClaim := { program := "ytfapgollkabopaa", sum := "bc3d43c06182fc4d84455e0d2af1f2e28e32e494de0a84802c7c89f378e7a31c", func := "mews/mewslaw42.AuthRight", spec := "authRight", inPlace := ["internal/bytealg.IndexByteString"], unfollowed := true, recurses := true, apart := false, narrowed := true }
def AuthRightUptoSaid : Prop := authRightUptoRow.holds Try.pinned (OpenSpec.upto authRightSpec)

/-- 'mewslaw42.AuthFirst', WHERE WHAT IT READS IS OF BULK AT MOST 1048576: true; the input reads as it did. -/
def authFirstUptoRow : OpenClaim := { program := "ytfapgollkabopaa", sum := "bc3d43c06182fc4d84455e0d2af1f2e28e32e494de0a84802c7c89f378e7a31c", func := "mews/mewslaw42.AuthFirst", spec := "authFirst", inPlace := ["internal/bytealg.IndexByteString"], unfollowed := true, recurses := true, apart := false, narrowed := true }
def AuthFirstUptoSaid : Prop := authFirstUptoRow.holds Try.pinned (OpenSpec.upto authFirstSpec)

/-- 'mewslaw42.AuthOwn', WHERE WHAT IT READS IS OF BULK AT MOST 1048576: true; the input reads as it did. -/
def authOwnUptoRow : OpenClaim := { program := "ytfapgollkabopaa", sum := "bc3d43c06182fc4d84455e0d2af1f2e28e32e494de0a84802c7c89f378e7a31c", func := "mews/mewslaw42.AuthOwn", spec := "authOwn", inPlace := ["internal/bytealg.IndexByteString"], unfollowed := true, recurses := true, apart := false, narrowed := true }
def AuthOwnUptoSaid : Prop := authOwnUptoRow.holds Try.pinned (OpenSpec.upto authOwnSpec)

end Rows
end Go.Proofs.Ytfapgollkabopaa
