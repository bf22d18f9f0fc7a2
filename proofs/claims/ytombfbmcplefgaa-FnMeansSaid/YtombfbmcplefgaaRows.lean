/-
  No cell of these rows narrows 'for every input' (looked for: loops, veiled, ifaces, maps, wideKeys, modest, calm, conditions, laid).
  DERIVED. THE GIVEN ROWS OF THIS SEAT. 8 by the template 'for every input the law returns true; each argument reads behind the call as it read before'; 0 by the template 'total and deterministic' (their statements: YtombfbmcplefgaaTotals.lean).
  GIVEN WITH THE SEED: the statements are not yours to turn. If you find one false, say at which input.
  Laid BY PROGRAM, IN A SANDBOX (cutbox-rows.mjs): the forced cells as the released guide's own fill.sh prints them over the translation 26c980c86a8853f9… (all of the seat's roots in one cut). By AI agents, Wed Nov 11 2026. No macro, syntax, notation, axiom, sorry.
-/
import Derived.Test.YtombfbmcplefgaaChecked
import GoSem.Claim
import GoSem.ClaimJoined
import GoSem.ClaimMapViews
import Derived.JoinedTies
import Derived.KernelRfl
namespace Go.Proofs.Ytombfbmcplefgaa
/- THE CELL 'sum', in the pinned program and in every row, IS THE sha256 OF THE DUMP (.gsa) THAT YtombfbmcplefgaaProg.lean LOADS. Nothing in Lean hashes anything: it is a label: what it is worth is what the hold of that sum in a sandbox is worth. -/
noncomputable def Try.pinned : Pinned := { name := "ytombfbmcplefgaa", sum := "26c980c86a8853f93e0e3f5bcd34024a9f8a0c11209feead8d4ac0aa783c1fbb", checked := Try.checked }
namespace Rows
def none {H : Type} : Left H := { results := [], args := [] }

/-- 'laws.FnExactFirstEntry': WHATEVER THE INPUT: true; the input reads as it did. -/
def fnExactFirstEntrySpec : ChangeSpec := { name := "fnExactFirstEntry", fn := fun _ => fun
  | [d1, d2, d3] => { results := [.lit (.bool true)], args := [d1, d2, d3] }
  | _ => none }
def fnExactFirstEntryRow : OpenClaim := { program := "ytombfbmcplefgaa", sum := "26c980c86a8853f93e0e3f5bcd34024a9f8a0c11209feead8d4ac0aa783c1fbb", func := "loop.example/g01131/laws.FnExactFirstEntry", spec := "fnExactFirstEntry", apart := false }
def FnExactFirstEntrySaid : Prop := fnExactFirstEntryRow.holds Try.pinned (OpenSpec.ofChange fnExactFirstEntrySpec)

/-- ITS FALSE NEIGHBOUR: 'it returns false'. Refute it at one input. -/
def fnExactFirstEntryWrong : ChangeSpec := { name := "fnExactFirstEntry", fn := fun _ => fun
  | [d1, d2, d3] => { results := [.lit (.bool false)], args := [d1, d2, d3] }
  | _ => none }
def FnExactFirstEntryWrongFalsely : Prop := fnExactFirstEntryRow.holds Try.pinned (OpenSpec.ofChange fnExactFirstEntryWrong)

/-- 'laws.FnExactPruneTree': WHATEVER THE INPUT: true; the input reads as it did. -/
def fnExactPruneTreeSpec : ChangeSpec := { name := "fnExactPruneTree", fn := fun _ => fun
  | [d1, d2] => { results := [.lit (.bool true)], args := [d1, d2] }
  | _ => none }
def fnExactPruneTreeRow : OpenClaim := { program := "ytombfbmcplefgaa", sum := "26c980c86a8853f93e0e3f5bcd34024a9f8a0c11209feead8d4ac0aa783c1fbb", func := "loop.example/g01131/laws.FnExactPruneTree", spec := "fnExactPruneTree", apart := false }
def FnExactPruneTreeSaid : Prop := fnExactPruneTreeRow.holds Try.pinned (OpenSpec.ofChange fnExactPruneTreeSpec)

/-- ITS FALSE NEIGHBOUR: 'it returns false'. Refute it at one input. -/
def fnExactPruneTreeWrong : ChangeSpec := { name := "fnExactPruneTree", fn := fun _ => fun
  | [d1, d2] => { results := [.lit (.bool false)], args := [d1, d2] }
  | _ => none }
def FnExactPruneTreeWrongFalsely : Prop := fnExactPruneTreeRow.holds Try.pinned (OpenSpec.ofChange fnExactPruneTreeWrong)

/-- 'laws.FnExactKnownAt': WHATEVER THE INPUT: true; the input reads as it did. -/
def fnExactKnownAtSpec : ChangeSpec := { name := "fnExactKnownAt", fn := fun _ => fun
  | [d1, d2] => { results := [.lit (.bool true)], args := [d1, d2] }
  | _ => none }
def fnExactKnownAtRow : OpenClaim := { program := "ytombfbmcplefgaa", sum := "26c980c86a8853f93e0e3f5bcd34024a9f8a0c11209feead8d4ac0aa783c1fbb", func := "loop.example/g01131/laws.FnExactKnownAt", spec := "fnExactKnownAt", apart := false }
def FnExactKnownAtSaid : Prop := fnExactKnownAtRow.holds Try.pinned (OpenSpec.ofChange fnExactKnownAtSpec)

/-- ITS FALSE NEIGHBOUR: 'it returns false'. Refute it at one input. -/
def fnExactKnownAtWrong : ChangeSpec := { name := "fnExactKnownAt", fn := fun _ => fun
  | [d1, d2] => { results := [.lit (.bool false)], args := [d1, d2] }
  | _ => none }
def FnExactKnownAtWrongFalsely : Prop := fnExactKnownAtRow.holds Try.pinned (OpenSpec.ofChange fnExactKnownAtWrong)

/-- 'laws.FnExactStoppedProcess': WHATEVER THE INPUT: true; the input reads as it did. -/
def fnExactStoppedProcessSpec : ChangeSpec := { name := "fnExactStoppedProcess", fn := fun _ => fun
  | [d1, d2, d3] => { results := [.lit (.bool true)], args := [d1, d2, d3] }
  | _ => none }
def fnExactStoppedProcessRow : OpenClaim := { program := "ytombfbmcplefgaa", sum := "26c980c86a8853f93e0e3f5bcd34024a9f8a0c11209feead8d4ac0aa783c1fbb", func := "loop.example/g01131/laws.FnExactStoppedProcess", spec := "fnExactStoppedProcess", apart := false }
def FnExactStoppedProcessSaid : Prop := fnExactStoppedProcessRow.holds Try.pinned (OpenSpec.ofChange fnExactStoppedProcessSpec)

/-- ITS FALSE NEIGHBOUR: 'it returns false'. Refute it at one input. -/
def fnExactStoppedProcessWrong : ChangeSpec := { name := "fnExactStoppedProcess", fn := fun _ => fun
  | [d1, d2, d3] => { results := [.lit (.bool false)], args := [d1, d2, d3] }
  | _ => none }
def FnExactStoppedProcessWrongFalsely : Prop := fnExactStoppedProcessRow.holds Try.pinned (OpenSpec.ofChange fnExactStoppedProcessWrong)

/-- 'laws.FnExactDoobParts': WHATEVER THE INPUT: true; the input reads as it did. -/
def fnExactDoobPartsSpec : ChangeSpec := { name := "fnExactDoobParts", fn := fun _ => fun
  | [d1, d2] => { results := [.lit (.bool true)], args := [d1, d2] }
  | _ => none }
def fnExactDoobPartsRow : OpenClaim := { program := "ytombfbmcplefgaa", sum := "26c980c86a8853f93e0e3f5bcd34024a9f8a0c11209feead8d4ac0aa783c1fbb", func := "loop.example/g01131/laws.FnExactDoobParts", spec := "fnExactDoobParts", apart := false }
def FnExactDoobPartsSaid : Prop := fnExactDoobPartsRow.holds Try.pinned (OpenSpec.ofChange fnExactDoobPartsSpec)

/-- ITS FALSE NEIGHBOUR: 'it returns false'. Refute it at one input. -/
def fnExactDoobPartsWrong : ChangeSpec := { name := "fnExactDoobParts", fn := fun _ => fun
  | [d1, d2] => { results := [.lit (.bool false)], args := [d1, d2] }
  | _ => none }
def FnExactDoobPartsWrongFalsely : Prop := fnExactDoobPartsRow.holds Try.pinned (OpenSpec.ofChange fnExactDoobPartsWrong)

/-- 'laws.FnFractions': WHATEVER THE INPUT: true; the input reads as it did. -/
def fnFractionsSpec : ChangeSpec := { name := "fnFractions", fn := fun _ => fun
  | [d] => { results := [.lit (.bool true)], args := [d] }
  | _ => none }
def fnFractionsRow : OpenClaim := { program := "ytombfbmcplefgaa", sum := "26c980c86a8853f93e0e3f5bcd34024a9f8a0c11209feead8d4ac0aa783c1fbb", func := "loop.example/g01131/laws.FnFractions", spec := "fnFractions", apart := false }
def FnFractionsSaid : Prop := fnFractionsRow.holds Try.pinned (OpenSpec.ofChange fnFractionsSpec)

/-- ITS FALSE NEIGHBOUR: 'it returns false'. Refute it at one input. -/
def fnFractionsWrong : ChangeSpec := { name := "fnFractions", fn := fun _ => fun
  | [d] => { results := [.lit (.bool false)], args := [d] }
  | _ => none }
def FnFractionsWrongFalsely : Prop := fnFractionsRow.holds Try.pinned (OpenSpec.ofChange fnFractionsWrong)

/-- 'laws.FnEvents': WHATEVER THE INPUT: true; the input reads as it did. -/
def fnEventsSpec : ChangeSpec := { name := "fnEvents", fn := fun _ => fun
  | [d] => { results := [.lit (.bool true)], args := [d] }
  | _ => none }
def fnEventsRow : OpenClaim := { program := "ytombfbmcplefgaa", sum := "26c980c86a8853f93e0e3f5bcd34024a9f8a0c11209feead8d4ac0aa783c1fbb", func := "loop.example/g01131/laws.FnEvents", spec := "fnEvents", apart := false }
def FnEventsSaid : Prop := fnEventsRow.holds Try.pinned (OpenSpec.ofChange fnEventsSpec)

/-- ITS FALSE NEIGHBOUR: 'it returns false'. Refute it at one input. -/
def fnEventsWrong : ChangeSpec := { name := "fnEvents", fn := fun _ => fun
  | [d] => { results := [.lit (.bool false)], args := [d] }
  | _ => none }
def FnEventsWrongFalsely : Prop := fnEventsRow.holds Try.pinned (OpenSpec.ofChange fnEventsWrong)

/-- 'laws.FnMeans': WHATEVER THE INPUT: true; the input reads as it did. -/
def fnMeansSpec : ChangeSpec := { name := "fnMeans", fn := fun _ => fun
  | [d] => { results := [.lit (.bool true)], args := [d] }
  | _ => none }
def fnMeansRow : OpenClaim := { program := "ytombfbmcplefgaa", sum := "26c980c86a8853f93e0e3f5bcd34024a9f8a0c11209feead8d4ac0aa783c1fbb", func := "loop.example/g01131/laws.FnMeans", spec := "fnMeans", apart := false }
def FnMeansSaid : Prop := fnMeansRow.holds Try.pinned (OpenSpec.ofChange fnMeansSpec)

/-- ITS FALSE NEIGHBOUR: 'it returns false'. Refute it at one input. -/
def fnMeansWrong : ChangeSpec := { name := "fnMeans", fn := fun _ => fun
  | [d] => { results := [.lit (.bool false)], args := [d] }
  | _ => none }
def FnMeansWrongFalsely : Prop := fnMeansRow.holds Try.pinned (OpenSpec.ofChange fnMeansWrong)

/- THE SECOND FORM. 'bulk': how many values and letters a reading holds, each counted each time it is reached (what is shared counts as often as it is met; a slice's spare places count too). A statement '..UptoSaid' is the law's where the arguments, and the package variables that the reading takes, are together of bulk at most 1048576: NARROWER than '..Said'. Prove '..Said' where nothing that the law and all that it calls make is longer than what came in: it says more and counts as full. Else prove '..UptoSaid'. A law counts once. -/
mutual
def uptoBulk {H : Type} : DataW H → Nat
  | .lit (.string bytes) => bytes.length + 1
  | .lit _ => 1
  | .nil => 1
  | .ptr d => uptoBulk d + 1
  | .slice elems spare => uptoBulkAll elems + uptoBulkAll spare + 1
  | .agg parts => uptoBulkAll parts + 1
  | .iface _ d => uptoBulk d + 1
  | .map entries => uptoBulkEntries entries + 1
  | .held _ => 1
def uptoBulkAll {H : Type} : List (DataW H) → Nat
  | [] => 0
  | d :: r => uptoBulk d + uptoBulkAll r
def uptoBulkEntries {H : Type} : List (Lit × DataW H) → Nat
  | [] => 0
  | x :: r => uptoBulkEntry x + uptoBulkEntries r
def uptoBulkEntry {H : Type} : Lit × DataW H → Nat
  | (.string bytes, d) => bytes.length + uptoBulk d + 1
  | (_, d) => uptoBulk d + 1
 end
def uptoSmall : (H : Type) → List (DataW H) → Bool := fun _ ds => decide (uptoBulkAll ds ≤ 1048576)
def OpenSpec.upto (s : _root_.Go.ChangeSpec) : _root_.Go.OpenSpec := { _root_.Go.OpenSpec.ofChange s with cond := some uptoSmall }

/-- 'laws.FnExactFirstEntry', WHERE WHAT IT READS IS OF BULK AT MOST 1048576: true; the input reads as it did. -/
def fnExactFirstEntryUptoRow : OpenClaim := { program := "ytombfbmcplefgaa", sum := "26c980c86a8853f93e0e3f5bcd34024a9f8a0c11209feead8d4ac0aa783c1fbb", func := "loop.example/g01131/laws.FnExactFirstEntry", spec := "fnExactFirstEntry", apart := false, narrowed := true }
def FnExactFirstEntryUptoSaid : Prop := fnExactFirstEntryUptoRow.holds Try.pinned (OpenSpec.upto fnExactFirstEntrySpec)

/-- 'laws.FnExactPruneTree', WHERE WHAT IT READS IS OF BULK AT MOST 1048576: true; the input reads as it did. -/
def fnExactPruneTreeUptoRow : OpenClaim := { program := "ytombfbmcplefgaa", sum := "26c980c86a8853f93e0e3f5bcd34024a9f8a0c11209feead8d4ac0aa783c1fbb", func := "loop.example/g01131/laws.FnExactPruneTree", spec := "fnExactPruneTree", apart := false, narrowed := true }
def FnExactPruneTreeUptoSaid : Prop := fnExactPruneTreeUptoRow.holds Try.pinned (OpenSpec.upto fnExactPruneTreeSpec)

/-- 'laws.FnExactKnownAt', WHERE WHAT IT READS IS OF BULK AT MOST 1048576: true; the input reads as it did. -/
def fnExactKnownAtUptoRow : OpenClaim := { program := "ytombfbmcplefgaa", sum := "26c980c86a8853f93e0e3f5bcd34024a9f8a0c11209feead8d4ac0aa783c1fbb", func := "loop.example/g01131/laws.FnExactKnownAt", spec := "fnExactKnownAt", apart := false, narrowed := true }
def FnExactKnownAtUptoSaid : Prop := fnExactKnownAtUptoRow.holds Try.pinned (OpenSpec.upto fnExactKnownAtSpec)

/-- 'laws.FnExactStoppedProcess', WHERE WHAT IT READS IS OF BULK AT MOST 1048576: true; the input reads as it did. -/
def fnExactStoppedProcessUptoRow : OpenClaim := { program := "ytombfbmcplefgaa", sum := "26c980c86a8853f93e0e3f5bcd34024a9f8a0c11209feead8d4ac0aa783c1fbb", func := "loop.example/g01131/laws.FnExactStoppedProcess", spec := "fnExactStoppedProcess", apart := false, narrowed := true }
def FnExactStoppedProcessUptoSaid : Prop := fnExactStoppedProcessUptoRow.holds Try.pinned (OpenSpec.upto fnExactStoppedProcessSpec)

/-- 'laws.FnExactDoobParts', WHERE WHAT IT READS IS OF BULK AT MOST 1048576: true; the input reads as it did. -/
def fnExactDoobPartsUptoRow : OpenClaim := { program := "ytombfbmcplefgaa", sum := "26c980c86a8853f93e0e3f5bcd34024a9f8a0c11209feead8d4ac0aa783c1fbb", func := "loop.example/g01131/laws.FnExactDoobParts", spec := "fnExactDoobParts", apart := false, narrowed := true }
def FnExactDoobPartsUptoSaid : Prop := fnExactDoobPartsUptoRow.holds Try.pinned (OpenSpec.upto fnExactDoobPartsSpec)

/-- 'laws.FnFractions', WHERE WHAT IT READS IS OF BULK AT MOST 1048576: true; the input reads as it did. -/
def fnFractionsUptoRow : OpenClaim := { program := "ytombfbmcplefgaa", sum := "26c980c86a8853f93e0e3f5bcd34024a9f8a0c11209feead8d4ac0aa783c1fbb", func := "loop.example/g01131/laws.FnFractions", spec := "fnFractions", apart := false, narrowed := true }
def FnFractionsUptoSaid : Prop := fnFractionsUptoRow.holds Try.pinned (OpenSpec.upto fnFractionsSpec)

/-- 'laws.FnEvents', WHERE WHAT IT READS IS OF BULK AT MOST 1048576: true; the input reads as it did. -/
def fnEventsUptoRow : OpenClaim := { program := "ytombfbmcplefgaa", sum := "26c980c86a8853f93e0e3f5bcd34024a9f8a0c11209feead8d4ac0aa783c1fbb", func := "loop.example/g01131/laws.FnEvents", spec := "fnEvents", apart := false, narrowed := true }
def FnEventsUptoSaid : Prop := fnEventsUptoRow.holds Try.pinned (OpenSpec.upto fnEventsSpec)

/-- 'laws.FnMeans', WHERE WHAT IT READS IS OF BULK AT MOST 1048576: true; the input reads as it did. -/
def fnMeansUptoRow : OpenClaim := { program := "ytombfbmcplefgaa", sum := "26c980c86a8853f93e0e3f5bcd34024a9f8a0c11209feead8d4ac0aa783c1fbb", func := "loop.example/g01131/laws.FnMeans", spec := "fnMeans", apart := false, narrowed := true }
def FnMeansUptoSaid : Prop := fnMeansUptoRow.holds Try.pinned (OpenSpec.upto fnMeansSpec)

end Rows
end Go.Proofs.Ytombfbmcplefgaa
