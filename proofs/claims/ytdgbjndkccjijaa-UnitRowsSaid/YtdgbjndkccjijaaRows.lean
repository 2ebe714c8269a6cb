/-
  No cell of these rows narrows 'for every input' (looked for: loops, veiled, ifaces, maps, wideKeys, modest, calm, conditions, laid).
  DERIVED. THE GIVEN ROWS OF THIS SEAT. 5 by the template 'for every input the law returns true; each argument reads behind the call as it read before'; 0 by the template 'total and deterministic' (their statements: YtdgbjndkccjijaaTotals.lean).
  GIVEN WITH THE SEED: the statements are not yours to turn. If you find one false, say at which input.
  Laid BY PROGRAM, IN A SANDBOX (cutbox-rows.mjs): the forced cells as the released guide's own fill.sh prints them over the translation 04b5ce7b077b2f23… (all of the seat's roots in one cut). By AI agents, Wed Nov 11 2026. No macro, syntax, notation, axiom, sorry.
-/
import Derived.Test.YtdgbjndkccjijaaChecked
import GoSem.Claim
import GoSem.ClaimJoined
import GoSem.ClaimMapViews
import Derived.JoinedTies
import Derived.KernelRfl
namespace Go.Proofs.Ytdgbjndkccjijaa
/- THE CELL 'sum', in the pinned program and in every row, IS THE sha256 OF THE DUMP (.gsa) THAT YtdgbjndkccjijaaProg.lean LOADS. Nothing in Lean hashes anything: it is a label: what it is worth is what the hold of that sum in a sandbox is worth. -/
noncomputable def Try.pinned : Pinned := { name := "ytdgbjndkccjijaa", sum := "04b5ce7b077b2f234774b539eb84cb43058305606f934dc9e4d6fbf21b98b67b", checked := Try.checked }
namespace Rows
def none {H : Type} : Left H := { results := [], args := [] }

/-- 'mewslaw15.UnitPuts': WHATEVER THE INPUT: true; the input reads as it did. -/
def unitPutsSpec : ChangeSpec := { name := "unitPuts", fn := fun _ => fun
  | [d1, d2] => { results := [.lit (.bool true)], args := [d1, d2] }
  | _ => none }
def unitPutsRow : OpenClaim := { program := "ytdgbjndkccjijaa", sum := "04b5ce7b077b2f234774b539eb84cb43058305606f934dc9e4d6fbf21b98b67b", func := "mews/mewslaw15.UnitPuts", spec := "unitPuts", inPlace := ["internal/abi.NoEscape", "internal/bytealg.IndexByteString"], unfollowed := true, recurses := true, apart := false }
def UnitPutsSaid : Prop := unitPutsRow.holds Try.pinned (OpenSpec.ofChange unitPutsSpec)

/-- ITS FALSE NEIGHBOUR: 'it returns false'. Refute it at one input. -/
def unitPutsWrong : ChangeSpec := { name := "unitPuts", fn := fun _ => fun
  | [d1, d2] => { results := [.lit (.bool false)], args := [d1, d2] }
  | _ => none }
def UnitPutsWrongFalsely : Prop := unitPutsRow.holds Try.pinned (OpenSpec.ofChange unitPutsWrong)

/-- 'mewslaw15.UnitTakes': WHATEVER THE INPUT: true; the input reads as it did. -/
def unitTakesSpec : ChangeSpec := { name := "unitTakes", fn := fun _ => fun
  | [d] => { results := [.lit (.bool true)], args := [d] }
  | _ => none }
def unitTakesRow : OpenClaim := { program := "ytdgbjndkccjijaa", sum := "04b5ce7b077b2f234774b539eb84cb43058305606f934dc9e4d6fbf21b98b67b", func := "mews/mewslaw15.UnitTakes", spec := "unitTakes", inPlace := ["internal/abi.NoEscape", "internal/bytealg.IndexByteString"], unfollowed := true, recurses := true, apart := false }
def UnitTakesSaid : Prop := unitTakesRow.holds Try.pinned (OpenSpec.ofChange unitTakesSpec)

/-- ITS FALSE NEIGHBOUR: 'it returns false'. Refute it at one input. -/
def unitTakesWrong : ChangeSpec := { name := "unitTakes", fn := fun _ => fun
  | [d] => { results := [.lit (.bool false)], args := [d] }
  | _ => none }
def UnitTakesWrongFalsely : Prop := unitTakesRow.holds Try.pinned (OpenSpec.ofChange unitTakesWrong)

/-- 'mewslaw15.UnitBack': WHATEVER THE INPUT: true; the input reads as it did. -/
def unitBackSpec : ChangeSpec := { name := "unitBack", fn := fun _ => fun
  | [d1, d2, d3] => { results := [.lit (.bool true)], args := [d1, d2, d3] }
  | _ => none }
def unitBackRow : OpenClaim := { program := "ytdgbjndkccjijaa", sum := "04b5ce7b077b2f234774b539eb84cb43058305606f934dc9e4d6fbf21b98b67b", func := "mews/mewslaw15.UnitBack", spec := "unitBack", inPlace := ["internal/abi.NoEscape", "internal/bytealg.IndexByteString"], unfollowed := true, recurses := true, apart := false }
def UnitBackSaid : Prop := unitBackRow.holds Try.pinned (OpenSpec.ofChange unitBackSpec)

/-- ITS FALSE NEIGHBOUR: 'it returns false'. Refute it at one input. -/
def unitBackWrong : ChangeSpec := { name := "unitBack", fn := fun _ => fun
  | [d1, d2, d3] => { results := [.lit (.bool false)], args := [d1, d2, d3] }
  | _ => none }
def UnitBackWrongFalsely : Prop := unitBackRow.holds Try.pinned (OpenSpec.ofChange unitBackWrong)

/-- 'mewslaw15.UnitBursts': WHATEVER THE INPUT: true; the input reads as it did. -/
def unitBurstsSpec : ChangeSpec := { name := "unitBursts", fn := fun _ => fun
  | [d1, d2, d3] => { results := [.lit (.bool true)], args := [d1, d2, d3] }
  | _ => none }
def unitBurstsRow : OpenClaim := { program := "ytdgbjndkccjijaa", sum := "04b5ce7b077b2f234774b539eb84cb43058305606f934dc9e4d6fbf21b98b67b", func := "mews/mewslaw15.UnitBursts", spec := "unitBursts", inPlace := ["internal/abi.NoEscape", "internal/bytealg.IndexByteString"], unfollowed := true, recurses := true, apart := false }
def UnitBurstsSaid : Prop := unitBurstsRow.holds Try.pinned (OpenSpec.ofChange unitBurstsSpec)

/-- ITS FALSE NEIGHBOUR: 'it returns false'. Refute it at one input. -/
def unitBurstsWrong : ChangeSpec := { name := "unitBursts", fn := fun _ => fun
  | [d1, d2, d3] => { results := [.lit (.bool false)], args := [d1, d2, d3] }
  | _ => none }
def UnitBurstsWrongFalsely : Prop := unitBurstsRow.holds Try.pinned (OpenSpec.ofChange unitBurstsWrong)

/-- 'mewslaw15.UnitRows': WHATEVER THE INPUT: true; the input reads as it did. -/
def unitRowsSpec : ChangeSpec := { name := "unitRows", fn := fun _ => fun
  | [d1, d2] => { results := [.lit (.bool true)], args := [d1, d2] }
  | _ => none }
def unitRowsRow : OpenClaim := { program := "ytdgbjndkccjijaa", sum := "04b5ce7b077b2f234774b539eb84cb43058305606f934dc9e4d6fbf21b98b67b", func := "mews/mewslaw15.UnitRows", spec := "unitRows", inPlace := ["internal/abi.NoEscape", "internal/bytealg.IndexByteString"], unfollowed := true, recurses := true, apart := false }
def UnitRowsSaid : Prop := unitRowsRow.holds Try.pinned (OpenSpec.ofChange unitRowsSpec)

/-- ITS FALSE NEIGHBOUR: 'it returns false'. Refute it at one input. -/
def unitRowsWrong : ChangeSpec := { name := "unitRows", fn := fun _ => fun
  | [d1, d2] => { results := [.lit (.bool false)], args := [d1, d2] }
  | _ => none }
def UnitRowsWrongFalsely : Prop := unitRowsRow.holds Try.pinned (OpenSpec.ofChange unitRowsWrong)

/- THE SECOND FORM. 'bulk': how many values and letters a reading holds, each counted each time it is reached (what is shared counts as often as it is met; a slice's spare places count too). A statement '..UptoSaid' is the law's where the arguments, and the package variables that the reading takes, are together of bulk at most 1048576: NARROWER than '..Said'. Prove '..Said' where nothing that the law and all that it calls make is longer than what came in: it says more and counts as full. Else prove '..UptoSaid'. A law counts once. -/
mutual
def uptoBulk {H : Type} : DataW H → Nat
  | .lit (.string bytes) => bytes.length + 1
  | .lit _ => 1
  | .nil => 1
  | .ptr d => uptoBulk d + 1
  | .slice elems spare => uptoBulkAll elems + uptoBulkAll spare + 1
  | .agg parts => uptoBulkAll parts + 1
  | .iface _ d => uptoBulk d + 1
  | .map entries => uptoBulkEntries entries + 1
  | .held _ => 1
def uptoBulkAll {H : Type} : List (DataW H) → Nat
  | [] => 0
  | d :: r => uptoBulk d + uptoBulkAll r
def uptoBulkEntries {H : Type} : List (Lit × DataW H) → Nat
  | [] => 0
  | x :: r => uptoBulkEntry x + uptoBulkEntries r
def uptoBulkEntry {H : Type} : Lit × DataW H → Nat
  | (.string bytes, d) => bytes.length + uptoBulk d + 1
  | (_, d) => uptoBulk d + 1
 end
def uptoSmall : (H : Type) → List (DataW H) → Bool := fun _ ds => decide (uptoBulkAll ds ≤ 1048576)
def OpenSpec.upto (s : _root_.Go.ChangeSpec) : _root_.Go.OpenSpec := { _root_.Go.OpenSpec.ofChange s with cond := some uptoSmall }

/-- 'mewslaw15.UnitPuts', WHERE WHAT IT READS IS OF BULK AT MOST 1048576: true; the input reads as it did. -/
def unitPutsUptoRow : OpenClaim := { program := "ytdgbjndkccjijaa", sum := "04b5ce7b077b2f234774b539eb84cb43058305606f934dc9e4d6fbf21b98b67b", func := "mews/mewslaw15.UnitPuts", spec := "unitPuts", inPlace := ["internal/abi.NoEscape", "internal/bytealg.IndexByteString"], unfollowed := true, recurses := true, apart := false, narrowed := true }
def UnitPutsUptoSaid : Prop := unitPutsUptoRow.holds Try.pinned (OpenSpec.upto unitPutsSpec)

/-- 'mewslaw15.UnitTakes', WHERE WHAT IT READS IS OF BULK AT MOST 1048576: true; the input reads as it did. -/
def unitTakesUptoRow : OpenClaim := { program := "ytdgbjndkccjijaa", sum := "04b5ce7b077b2f234774b539eb84cb43058305606f934dc9e4d6fbf21b98b67b", func := "mews/mewslaw15.UnitTakes", spec := "unitTakes", inPlace := ["internal/abi.NoEscape", "internal/bytealg.IndexByteString"], unfollowed := true, recurses := true, apart := false, narrowed := true }
def UnitTakesUptoSaid : Prop := unitTakesUptoRow.holds Try.pinned (OpenSpec.upto unitTakesSpec)

/-- 'mewslaw15.UnitBack', WHERE WHAT IT READS IS OF BULK AT MOST 1048576: true; the input reads as it did. -/
def unitBackUptoRow : OpenClaim := { program := "ytdgbjndkccjijaa", sum := "04b5ce7b077b2f234774b539eb84cb43058305606f934dc9e4d6fbf21b98b67b", func := "mews/mewslaw15.UnitBack", spec := "unitBack", inPlace := ["internal/abi.NoEscape", "internal/bytealg.IndexByteString"], unfollowed := true, recurses := true, apart := false, narrowed := true }
def UnitBackUptoSaid : Prop := unitBackUptoRow.holds Try.pinned (OpenSpec.upto unitBackSpec)

/-- 'mewslaw15.UnitBursts', WHERE WHAT IT READS IS OF BULK AT MOST 1048576: true; the input reads as it did. -/
def unitBurstsUptoRow : OpenClaim := { program := "ytdgbjndkccjijaa", sum := "04b5ce7b077b2f234774b539eb84cb43058305606f934dc9e4d6fbf21b98b67b", func := "mews/mewslaw15.UnitBursts", spec := "unitBursts", inPlace := ["internal/abi.NoEscape", "internal/bytealg.IndexByteString"], unfollowed := true, recurses := true, apart := false, narrowed := true }
def UnitBurstsUptoSaid : Prop := unitBurstsUptoRow.holds Try.pinned (OpenSpec.upto unitBurstsSpec)

/-- 'mewslaw15.UnitRows', WHERE WHAT IT READS IS OF BULK AT MOST 1048576: true; the input reads as it did. -/
def unitRowsUptoRow : OpenClaim := { program := "ytdgbjndkccjijaa", sum := "04b5ce7b077b2f234774b539eb84cb43058305606f934dc9e4d6fbf21b98b67b", func := "mews/mewslaw15.UnitRows", spec := "unitRows", inPlace := ["internal/abi.NoEscape", "internal/bytealg.IndexByteString"], unfollowed := true, recurses := true, apart := false, narrowed := true }
def UnitRowsUptoSaid : Prop := unitRowsUptoRow.holds Try.pinned (OpenSpec.upto unitRowsSpec)

end Rows
end Go.Proofs.Ytdgbjndkccjijaa
