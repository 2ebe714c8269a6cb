/-
  No cell of these rows narrows 'for every input' (looked for: loops, veiled, ifaces, maps, wideKeys, modest, calm, conditions, laid).
  DERIVED. THE GIVEN ROWS OF THIS SEAT. 3 by the template 'for every input the law returns true; each argument reads behind the call as it read before'; 0 by the template 'total and deterministic' (their statements: YtnlnolbgakfofaaTotals.lean).
  GIVEN WITH THE SEED: the statements are not yours to turn. If you find one false, say at which input.
  Laid BY PROGRAM, IN A SANDBOX (cutbox-rows.mjs): the forced cells as the released guide's own fill.sh prints them over the translation 31f384d7c7168d40… (all of the seat's roots in one cut). By AI agents, Wed Nov 11 2026. No macro, syntax, notation, axiom, sorry.
-/
import Derived.Test.YtnlnolbgakfofaaChecked
import GoSem.Claim
import GoSem.ClaimJoined
import GoSem.ClaimMapViews
import Derived.JoinedTies
import Derived.KernelRfl
namespace Go.Proofs.Ytnlnolbgakfofaa
/- THE CELL 'sum', in the pinned program and in every row, IS THE sha256 OF THE DUMP (.gsa) THAT YtnlnolbgakfofaaProg.lean LOADS. Nothing in Lean hashes anything: it is a label: what it is worth is what the hold of that sum in a sandbox is worth. -/
noncomputable def Try.pinned : Pinned := { name := "ytnlnolbgakfofaa", sum := "31f384d7c7168d4072522974301a9c5246b09d56ce5eda20981d650c422afde8", checked := Try.checked }
namespace Rows
def none {H : Type} : Left H := { results := [], args := [] }

/-- 'mewslaw19.ChargeValues': WHATEVER THE INPUT: true; the input reads as it did. -/
def chargeValuesSpec : ChangeSpec := { name := "chargeValues", fn := fun _ => fun
  | [d1, d2, d3] => { results := [.lit (.bool true)], args := [d1, d2, d3] }
  | _ => none }
def chargeValuesRow : OpenClaim := { program := "ytnlnolbgakfofaa", sum := "31f384d7c7168d4072522974301a9c5246b09d56ce5eda20981d650c422afde8", func := "mews/mewslaw19.ChargeValues", spec := "chargeValues", unfollowed := true, recurses := true, apart := false }
def ChargeValuesSaid : Prop := chargeValuesRow.holds Try.pinned (OpenSpec.ofChange chargeValuesSpec)

/-- ITS FALSE NEIGHBOUR: 'it returns false'. Refute it at one input. -/
def chargeValuesWrong : ChangeSpec := { name := "chargeValues", fn := fun _ => fun
  | [d1, d2, d3] => { results := [.lit (.bool false)], args := [d1, d2, d3] }
  | _ => none }
def ChargeValuesWrongFalsely : Prop := chargeValuesRow.holds Try.pinned (OpenSpec.ofChange chargeValuesWrong)

/-- 'mewslaw19.ChargeMore': WHATEVER THE INPUT: true; the input reads as it did. -/
def chargeMoreSpec : ChangeSpec := { name := "chargeMore", fn := fun _ => fun
  | [d1, d2, d3] => { results := [.lit (.bool true)], args := [d1, d2, d3] }
  | _ => none }
def chargeMoreRow : OpenClaim := { program := "ytnlnolbgakfofaa", sum := "31f384d7c7168d4072522974301a9c5246b09d56ce5eda20981d650c422afde8", func := "mews/mewslaw19.ChargeMore", spec := "chargeMore", unfollowed := true, recurses := true, apart := false }
def ChargeMoreSaid : Prop := chargeMoreRow.holds Try.pinned (OpenSpec.ofChange chargeMoreSpec)

/-- ITS FALSE NEIGHBOUR: 'it returns false'. Refute it at one input. -/
def chargeMoreWrong : ChangeSpec := { name := "chargeMore", fn := fun _ => fun
  | [d1, d2, d3] => { results := [.lit (.bool false)], args := [d1, d2, d3] }
  | _ => none }
def ChargeMoreWrongFalsely : Prop := chargeMoreRow.holds Try.pinned (OpenSpec.ofChange chargeMoreWrong)

/-- 'mewslaw19.ChargeMay': WHATEVER THE INPUT: true; the input reads as it did. -/
def chargeMaySpec : ChangeSpec := { name := "chargeMay", fn := fun _ => fun
  | [d1, d2, d3] => { results := [.lit (.bool true)], args := [d1, d2, d3] }
  | _ => none }
def chargeMayRow : OpenClaim := { program := "ytnlnolbgakfofaa", sum := "31f384d7c7168d4072522974301a9c5246b09d56ce5eda20981d650c422afde8", func := "mews/mewslaw19.ChargeMay", spec := "chargeMay", inPlace := ["internal/bytealg.abigen_runtime_cmpstring"], unfollowed := true, recurses := true, apart := false }
def ChargeMaySaid : Prop := chargeMayRow.holds Try.pinned (OpenSpec.ofChange chargeMaySpec)

/-- ITS FALSE NEIGHBOUR: 'it returns false'. Refute it at one input. -/
def chargeMayWrong : ChangeSpec := { name := "chargeMay", fn := fun _ => fun
  | [d1, d2, d3] => { results := [.lit (.bool false)], args := [d1, d2, d3] }
  | _ => none }
def ChargeMayWrongFalsely : Prop := chargeMayRow.holds Try.pinned (OpenSpec.ofChange chargeMayWrong)

/- THE SECOND FORM. 'bulk': how many values and letters a reading holds, each counted each time it is reached (what is shared counts as often as it is met; a slice's spare places count too). A statement '..UptoSaid' is the law's where the arguments, and the package variables that the reading takes, are together of bulk at most 1048576: NARROWER than '..Said'. Prove '..Said' where nothing that the law and all that it calls make is longer than what came in: it says more and counts as full. Else prove '..UptoSaid'. A law counts once. -/
mutual
def uptoBulk {H : Type} : DataW H → Nat
  | .lit (.string bytes) => bytes.length + 1
  | .lit _ => 1
  | .nil => 1
  | .ptr d => uptoBulk d + 1
  | .slice elems spare => uptoBulkAll elems + uptoBulkAll spare + 1
  | .agg parts => uptoBulkAll parts + 1
  | .iface _ d => uptoBulk d + 1
  | .map entries => uptoBulkEntries entries + 1
  | .held _ => 1
def uptoBulkAll {H : Type} : List (DataW H) → Nat
  | [] => 0
  | d :: r => uptoBulk d + uptoBulkAll r
def uptoBulkEntries {H : Type} : List (Lit × DataW H) → Nat
  | [] => 0
  | x :: r => uptoBulkEntry x + uptoBulkEntries r
def uptoBulkEntry {H : Type} : Lit × DataW H → Nat
  | (.string bytes, d) => bytes.length + uptoBulk d + 1
  | (_, d) => uptoBulk d + 1
 end
def uptoSmall : (H : Type) → List (DataW H) → Bool := fun _ ds => decide (uptoBulkAll ds ≤ 1048576)
def OpenSpec.upto (s : _root_.Go.ChangeSpec) : _root_.Go.OpenSpec := { _root_.Go.OpenSpec.ofChange s with cond := some uptoSmall }

/-- 'mewslaw19.ChargeValues', WHERE WHAT IT READS IS OF BULK AT MOST 1048576: true; the input reads as it did. -/
def chargeValuesUptoRow : OpenClaim := { program := "ytnlnolbgakfofaa", sum := "31f384d7c7168d4072522974301a9c5246b09d56ce5eda20981d650c422afde8", func := "mews/mewslaw19.ChargeValues", spec := "chargeValues", unfollowed := true, recurses := true, apart := false, narrowed := true }
def ChargeValuesUptoSaid : Prop := chargeValuesUptoRow.holds Try.pinned (OpenSpec.upto chargeValuesSpec)

/-- 'mewslaw19.ChargeMore', WHERE WHAT IT READS IS OF BULK AT MOST 1048576: true; the input reads as it did. -/
def chargeMoreUptoRow : OpenClaim := { program := "ytnlnolbgakfofaa", sum := "31f384d7c7168d4072522974301a9c5246b09d56ce5eda20981d650c422afde8", func := "mews/mewslaw19.ChargeMore", spec := "chargeMore", unfollowed := true, recurses := true, apart := false, narrowed := true }
def ChargeMoreUptoSaid : Prop := chargeMoreUptoRow.holds Try.pinned (OpenSpec.upto chargeMoreSpec)

/-- 'mewslaw19.ChargeMay', WHERE WHAT IT READS IS OF BULK AT MOST 1048576: true; the input reads as it did. -/
def chargeMayUptoRow : OpenClaim := { program := "ytnlnolbgakfofaa", sum := "31f384d7c7168d4072522974301a9c5246b09d56ce5eda20981d650c422afde8", func := "mews/mewslaw19.ChargeMay", spec := "chargeMay", inPlace := ["internal/bytealg.abigen_runtime_cmpstring"], unfollowed := true, recurses := true, apart := false, narrowed := true }
def ChargeMayUptoSaid : Prop := chargeMayUptoRow.holds Try.pinned (OpenSpec.upto chargeMaySpec)

end Rows
end Go.Proofs.Ytnlnolbgakfofaa
