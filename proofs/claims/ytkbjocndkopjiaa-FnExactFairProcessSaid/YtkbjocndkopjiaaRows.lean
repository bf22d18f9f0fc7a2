/-
  No cell of these rows narrows 'for every input' (looked for: loops, veiled, ifaces, maps, wideKeys, modest, calm, conditions, laid).
  DERIVED. THE GIVEN ROWS OF THIS SEAT. 9 by the template 'for every input the law returns true; each argument reads behind the call as it read before'; 0 by the template 'total and deterministic' (their statements: YtkbjocndkopjiaaTotals.lean).
  GIVEN WITH THE SEED: the statements are not yours to turn. If you find one false, say at which input.
  Laid BY PROGRAM, IN A SANDBOX (cutbox-rows.mjs): the forced cells as the released guide's own fill.sh prints them over the translation 442be947a12b72ec… (all of the seat's roots in one cut). By AI agents, Wed Nov 11 2026. No macro, syntax, notation, axiom, sorry.
-/
import Derived.Test.YtkbjocndkopjiaaChecked
import GoSem.Claim
import GoSem.ClaimJoined
import GoSem.ClaimMapViews
import Derived.JoinedTies
import Derived.KernelRfl
namespace Go.Proofs.Ytkbjocndkopjiaa
/- THE CELL 'sum', in the pinned program and in every row, IS THE sha256 OF THE DUMP (.gsa) THAT YtkbjocndkopjiaaProg.lean LOADS. Nothing in Lean hashes anything: it is a label: what it is worth is what the hold of that sum in a sandbox is worth. -/
noncomputable def Try.pinned : Pinned := { name := "ytkbjocndkopjiaa", sum := "442be947a12b72ec07e6fe4f50f3753dadec49c175bdf4993d24a06bb87c6b1b", checked := Try.checked }
namespace Rows
def none {H : Type} : Left H := { results := [], args := [] }

/-- 'laws.FnExactFairProcess': WHATEVER THE INPUT: true; the input reads as it did. -/
def fnExactFairProcessSpec : ChangeSpec := { name := "fnExactFairProcess", fn := fun _ => fun
  | [d1, d2] => { results := [.lit (.bool true)], args := [d1, d2] }
  | _ => none }
def fnExactFairProcessRow : OpenClaim := { program := "ytkbjocndkopjiaa", sum := "442be947a12b72ec07e6fe4f50f3753dadec49c175bdf4993d24a06bb87c6b1b", func := "loop.example/g01131/laws.FnExactFairProcess", spec := "fnExactFairProcess", apart := false }
def FnExactFairProcessSaid : Prop := fnExactFairProcessRow.holds Try.pinned (OpenSpec.ofChange fnExactFairProcessSpec)

/-- ITS FALSE NEIGHBOUR: 'it returns false'. Refute it at one input. -/
def fnExactFairProcessWrong : ChangeSpec := { name := "fnExactFairProcess", fn := fun _ => fun
  | [d1, d2] => { results := [.lit (.bool false)], args := [d1, d2] }
  | _ => none }
def FnExactFairProcessWrongFalsely : Prop := fnExactFairProcessRow.holds Try.pinned (OpenSpec.ofChange fnExactFairProcessWrong)

/-- 'laws.FnExactDriftsOf': WHATEVER THE INPUT: true; the input reads as it did. -/
def fnExactDriftsOfSpec : ChangeSpec := { name := "fnExactDriftsOf", fn := fun _ => fun
  | [d1, d2] => { results := [.lit (.bool true)], args := [d1, d2] }
  | _ => none }
def fnExactDriftsOfRow : OpenClaim := { program := "ytkbjocndkopjiaa", sum := "442be947a12b72ec07e6fe4f50f3753dadec49c175bdf4993d24a06bb87c6b1b", func := "loop.example/g01131/laws.FnExactDriftsOf", spec := "fnExactDriftsOf", apart := false }
def FnExactDriftsOfSaid : Prop := fnExactDriftsOfRow.holds Try.pinned (OpenSpec.ofChange fnExactDriftsOfSpec)

/-- ITS FALSE NEIGHBOUR: 'it returns false'. Refute it at one input. -/
def fnExactDriftsOfWrong : ChangeSpec := { name := "fnExactDriftsOf", fn := fun _ => fun
  | [d1, d2] => { results := [.lit (.bool false)], args := [d1, d2] }
  | _ => none }
def FnExactDriftsOfWrongFalsely : Prop := fnExactDriftsOfRow.holds Try.pinned (OpenSpec.ofChange fnExactDriftsOfWrong)

/-- 'laws.FnExactStoppedProcess': WHATEVER THE INPUT: true; the input reads as it did. -/
def fnExactStoppedProcessSpec : ChangeSpec := { name := "fnExactStoppedProcess", fn := fun _ => fun
  | [d1, d2, d3] => { results := [.lit (.bool true)], args := [d1, d2, d3] }
  | _ => none }
def fnExactStoppedProcessRow : OpenClaim := { program := "ytkbjocndkopjiaa", sum := "442be947a12b72ec07e6fe4f50f3753dadec49c175bdf4993d24a06bb87c6b1b", func := "loop.example/g01131/laws.FnExactStoppedProcess", spec := "fnExactStoppedProcess", apart := false }
def FnExactStoppedProcessSaid : Prop := fnExactStoppedProcessRow.holds Try.pinned (OpenSpec.ofChange fnExactStoppedProcessSpec)

/-- ITS FALSE NEIGHBOUR: 'it returns false'. Refute it at one input. -/
def fnExactStoppedProcessWrong : ChangeSpec := { name := "fnExactStoppedProcess", fn := fun _ => fun
  | [d1, d2, d3] => { results := [.lit (.bool false)], args := [d1, d2, d3] }
  | _ => none }
def FnExactStoppedProcessWrongFalsely : Prop := fnExactStoppedProcessRow.holds Try.pinned (OpenSpec.ofChange fnExactStoppedProcessWrong)

/-- 'laws.FnExactMeansOf': WHATEVER THE INPUT: true; the input reads as it did. -/
def fnExactMeansOfSpec : ChangeSpec := { name := "fnExactMeansOf", fn := fun _ => fun
  | [d1, d2] => { results := [.lit (.bool true)], args := [d1, d2] }
  | _ => none }
def fnExactMeansOfRow : OpenClaim := { program := "ytkbjocndkopjiaa", sum := "442be947a12b72ec07e6fe4f50f3753dadec49c175bdf4993d24a06bb87c6b1b", func := "loop.example/g01131/laws.FnExactMeansOf", spec := "fnExactMeansOf", apart := false }
def FnExactMeansOfSaid : Prop := fnExactMeansOfRow.holds Try.pinned (OpenSpec.ofChange fnExactMeansOfSpec)

/-- ITS FALSE NEIGHBOUR: 'it returns false'. Refute it at one input. -/
def fnExactMeansOfWrong : ChangeSpec := { name := "fnExactMeansOf", fn := fun _ => fun
  | [d1, d2] => { results := [.lit (.bool false)], args := [d1, d2] }
  | _ => none }
def FnExactMeansOfWrongFalsely : Prop := fnExactMeansOfRow.holds Try.pinned (OpenSpec.ofChange fnExactMeansOfWrong)

/-- 'laws.FnExactStoppedMean': WHATEVER THE INPUT: true; the input reads as it did. -/
def fnExactStoppedMeanSpec : ChangeSpec := { name := "fnExactStoppedMean", fn := fun _ => fun
  | [d1, d2, d3] => { results := [.lit (.bool true)], args := [d1, d2, d3] }
  | _ => none }
def fnExactStoppedMeanRow : OpenClaim := { program := "ytkbjocndkopjiaa", sum := "442be947a12b72ec07e6fe4f50f3753dadec49c175bdf4993d24a06bb87c6b1b", func := "loop.example/g01131/laws.FnExactStoppedMean", spec := "fnExactStoppedMean", apart := false }
def FnExactStoppedMeanSaid : Prop := fnExactStoppedMeanRow.holds Try.pinned (OpenSpec.ofChange fnExactStoppedMeanSpec)

/-- ITS FALSE NEIGHBOUR: 'it returns false'. Refute it at one input. -/
def fnExactStoppedMeanWrong : ChangeSpec := { name := "fnExactStoppedMean", fn := fun _ => fun
  | [d1, d2, d3] => { results := [.lit (.bool false)], args := [d1, d2, d3] }
  | _ => none }
def FnExactStoppedMeanWrongFalsely : Prop := fnExactStoppedMeanRow.holds Try.pinned (OpenSpec.ofChange fnExactStoppedMeanWrong)

/-- 'laws.FnExactDoobParts': WHATEVER THE INPUT: true; the input reads as it did. -/
def fnExactDoobPartsSpec : ChangeSpec := { name := "fnExactDoobParts", fn := fun _ => fun
  | [d1, d2] => { results := [.lit (.bool true)], args := [d1, d2] }
  | _ => none }
def fnExactDoobPartsRow : OpenClaim := { program := "ytkbjocndkopjiaa", sum := "442be947a12b72ec07e6fe4f50f3753dadec49c175bdf4993d24a06bb87c6b1b", func := "loop.example/g01131/laws.FnExactDoobParts", spec := "fnExactDoobParts", apart := false }
def FnExactDoobPartsSaid : Prop := fnExactDoobPartsRow.holds Try.pinned (OpenSpec.ofChange fnExactDoobPartsSpec)

/-- ITS FALSE NEIGHBOUR: 'it returns false'. Refute it at one input. -/
def fnExactDoobPartsWrong : ChangeSpec := { name := "fnExactDoobParts", fn := fun _ => fun
  | [d1, d2] => { results := [.lit (.bool false)], args := [d1, d2] }
  | _ => none }
def FnExactDoobPartsWrongFalsely : Prop := fnExactDoobPartsRow.holds Try.pinned (OpenSpec.ofChange fnExactDoobPartsWrong)

/-- 'laws.FnFractions': WHATEVER THE INPUT: true; the input reads as it did. -/
def fnFractionsSpec : ChangeSpec := { name := "fnFractions", fn := fun _ => fun
  | [d] => { results := [.lit (.bool true)], args := [d] }
  | _ => none }
def fnFractionsRow : OpenClaim := { program := "ytkbjocndkopjiaa", sum := "442be947a12b72ec07e6fe4f50f3753dadec49c175bdf4993d24a06bb87c6b1b", func := "loop.example/g01131/laws.FnFractions", spec := "fnFractions", apart := false }
def FnFractionsSaid : Prop := fnFractionsRow.holds Try.pinned (OpenSpec.ofChange fnFractionsSpec)

/-- ITS FALSE NEIGHBOUR: 'it returns false'. Refute it at one input. -/
def fnFractionsWrong : ChangeSpec := { name := "fnFractions", fn := fun _ => fun
  | [d] => { results := [.lit (.bool false)], args := [d] }
  | _ => none }
def FnFractionsWrongFalsely : Prop := fnFractionsRow.holds Try.pinned (OpenSpec.ofChange fnFractionsWrong)

/-- 'laws.FnEvents': WHATEVER THE INPUT: true; the input reads as it did. -/
def fnEventsSpec : ChangeSpec := { name := "fnEvents", fn := fun _ => fun
  | [d] => { results := [.lit (.bool true)], args := [d] }
  | _ => none }
def fnEventsRow : OpenClaim := { program := "ytkbjocndkopjiaa", sum := "442be947a12b72ec07e6fe4f50f3753dadec49c175bdf4993d24a06bb87c6b1b", func := "loop.example/g01131/laws.FnEvents", spec := "fnEvents", apart := false }
def FnEventsSaid : Prop := fnEventsRow.holds Try.pinned (OpenSpec.ofChange fnEventsSpec)

/-- ITS FALSE NEIGHBOUR: 'it returns false'. Refute it at one input. -/
def fnEventsWrong : ChangeSpec := { name := "fnEvents", fn := fun _ => fun
  | [d] => { results := [.lit (.bool false)], args := [d] }
  | _ => none }
def FnEventsWrongFalsely : Prop := fnEventsRow.holds Try.pinned (OpenSpec.ofChange fnEventsWrong)

/-- 'laws.FnMeans': WHATEVER THE INPUT: true; the input reads as it did. -/
def fnMeansSpec : ChangeSpec := { name := "fnMeans", fn := fun _ => fun
  | [d] => { results := [.lit (.bool true)], args := [d] }
  | _ => none }
def fnMeansRow : OpenClaim := { program := "ytkbjocndkopjiaa", sum := "442be947a12b72ec07e6fe4f50f3753dadec49c175bdf4993d24a06bb87c6b1b", func := "loop.example/g01131/laws.FnMeans", spec := "fnMeans", apart := false }
def FnMeansSaid : Prop := fnMeansRow.holds Try.pinned (OpenSpec.ofChange fnMeansSpec)

/-- ITS FALSE NEIGHBOUR: 'it returns false'. Refute it at one input. -/
def fnMeansWrong : ChangeSpec := { name := "fnMeans", fn := fun _ => fun
  | [d] => { results := [.lit (.bool false)], args := [d] }
  | _ => none }
def FnMeansWrongFalsely : Prop := fnMeansRow.holds Try.pinned (OpenSpec.ofChange fnMeansWrong)

/- THE SECOND FORM. 'bulk': how many values and letters a reading holds, each counted each time it is reached (what is shared counts as often as it is met; a slice's spare places count too). A statement '..UptoSaid' is the law's where the arguments, and the package variables that the reading takes, are together of bulk at most 1048576: NARROWER than '..Said'. Prove '..Said' where nothing that the law and all that it calls make is longer than what came in: it says more and counts as full. Else prove '..UptoSaid'. A law counts once. -/
mutual
def uptoBulk {H : Type} : DataW H → Nat
  | .lit (.string bytes) => bytes.length + 1
  | .lit _ => 1
  | .nil => 1
  | .ptr d => uptoBulk d + 1
  | .slice elems spare => uptoBulkAll elems + uptoBulkAll spare + 1
  | .agg parts => uptoBulkAll parts + 1
  | .iface _ d => uptoBulk d + 1
  | .map entries => uptoBulkEntries entries + 1
  | .held _ => 1
def uptoBulkAll {H : Type} : List (DataW H) → Nat
  | [] => 0
  | d :: r => uptoBulk d + uptoBulkAll r
def uptoBulkEntries {H : Type} : List (Lit × DataW H) → Nat
  | [] => 0
  | x :: r => uptoBulkEntry x + uptoBulkEntries r
def uptoBulkEntry {H : Type} : Lit × DataW H → Nat
  | (.string bytes, d) => bytes.length + uptoBulk d + 1
  | (_, d) => uptoBulk d + 1
 end
def uptoSmall : (H : Type) → List (DataW H) → Bool := fun _ ds => decide (uptoBulkAll ds ≤ 1048576)
def OpenSpec.upto (s : _root_.Go.ChangeSpec) : _root_.Go.OpenSpec := { _root_.Go.OpenSpec.ofChange s with cond := some uptoSmall }

/-- 'laws.FnExactFairProcess', WHERE WHAT IT READS IS OF BULK AT MOST 1048576: true; the input reads as it did. -/
def fnExactFairProcessUptoRow : OpenClaim := { program := "ytkbjocndkopjiaa", sum := "442be947a12b72ec07e6fe4f50f3753dadec49c175bdf4993d24a06bb87c6b1b", func := "loop.example/g01131/laws.FnExactFairProcess", spec := "fnExactFairProcess", apart := false, narrowed := true }
def FnExactFairProcessUptoSaid : Prop := fnExactFairProcessUptoRow.holds Try.pinned (OpenSpec.upto fnExactFairProcessSpec)

/-- 'laws.FnExactDriftsOf', WHERE WHAT IT READS IS OF BULK AT MOST 1048576: true; the input reads as it did. -/
def fnExactDriftsOfUptoRow : OpenClaim := { program := "ytkbjocndkopjiaa", sum := "442be947a12b72ec07e6fe4f50f3753dadec49c175bdf4993d24a06bb87c6b1b", func := "loop.example/g01131/laws.FnExactDriftsOf", spec := "fnExactDriftsOf", apart := false, narrowed := true }
def FnExactDriftsOfUptoSaid : Prop := fnExactDriftsOfUptoRow.holds Try.pinned (OpenSpec.upto fnExactDriftsOfSpec)

/-- 'laws.FnExactStoppedProcess', WHERE WHAT IT READS IS OF BULK AT MOST 1048576: true; the input reads as it did. -/
def fnExactStoppedProcessUptoRow : OpenClaim := { program := "ytkbjocndkopjiaa", sum := "442be947a12b72ec07e6fe4f50f3753dadec49c175bdf4993d24a06bb87c6b1b", func := "loop.example/g01131/laws.FnExactStoppedProcess", spec := "fnExactStoppedProcess", apart := false, narrowed := true }
def FnExactStoppedProcessUptoSaid : Prop := fnExactStoppedProcessUptoRow.holds Try.pinned (OpenSpec.upto fnExactStoppedProcessSpec)

/-- 'laws.FnExactMeansOf', WHERE WHAT IT READS IS OF BULK AT MOST 1048576: true; the input reads as it did. -/
def fnExactMeansOfUptoRow : OpenClaim := { program := "ytkbjocndkopjiaa", sum := "442be947a12b72ec07e6fe4f50f3753dadec49c175bdf4993d24a06bb87c6b1b", func := "loop.example/g01131/laws.FnExactMeansOf", spec := "fnExactMeansOf", apart := false, narrowed := true }
def FnExactMeansOfUptoSaid : Prop := fnExactMeansOfUptoRow.holds Try.pinned (OpenSpec.upto fnExactMeansOfSpec)

/-- 'laws.FnExactStoppedMean', WHERE WHAT IT READS IS OF BULK AT MOST 1048576: true; the input reads as it did. -/
def fnExactStoppedMeanUptoRow : OpenClaim := { program := "ytkbjocndkopjiaa", sum := "442be947a12b72ec07e6fe4f50f3753dadec49c175bdf4993d24a06bb87c6b1b", func := "loop.example/g01131/laws.FnExactStoppedMean", spec := "fnExactStoppedMean", apart := false, narrowed := true }
def FnExactStoppedMeanUptoSaid : Prop := fnExactStoppedMeanUptoRow.holds Try.pinned (OpenSpec.upto fnExactStoppedMeanSpec)

/-- 'laws.FnExactDoobParts', WHERE WHAT IT READS IS OF BULK AT MOST 1048576: true; the input reads as it did. -/
def fnExactDoobPartsUptoRow : OpenClaim := { program := "ytkbjocndkopjiaa", sum := "442be947a12b72ec07e6fe4f50f3753dadec49c175bdf4993d24a06bb87c6b1b", func := "loop.example/g01131/laws.FnExactDoobParts", spec := "fnExactDoobParts", apart := false, narrowed := true }
def FnExactDoobPartsUptoSaid : Prop := fnExactDoobPartsUptoRow.holds Try.pinned (OpenSpec.upto fnExactDoobPartsSpec)

/-- 'laws.FnFractions', WHERE WHAT IT READS IS OF BULK AT MOST 1048576: true; the input reads as it did. -/
def fnFractionsUptoRow : OpenClaim := { program := "ytkbjocndkopjiaa", sum := "442be947a12b72ec07e6fe4f50f3753dadec49c175bdf4993d24a06bb87c6b1b", func := "loop.example/g01131/laws.FnFractions", spec := "fnFractions", apart := false, narrowed := true }
def FnFractionsUptoSaid : Prop := fnFractionsUptoRow.holds Try.pinned (OpenSpec.upto fnFractionsSpec)

/-- 'laws.FnEvents', WHERE WHAT IT READS IS OF BULK AT MOST 1048576: true; the input reads as it did. -/
def fnEventsUptoRow : OpenClaim := { program := "ytkbjocndkopjiaa", sum := "442be947a12b72ec07e6fe4f50f3753dadec49c175bdf4993d24a06bb87c6b1b", func := "loop.example/g01131/laws.FnEvents", spec := "fnEvents", apart := false, narrowed := true }
def FnEventsUptoSaid : Prop := fnEventsUptoRow.holds Try.pinned (OpenSpec.upto fnEventsSpec)

/-- 'laws.FnMeans', WHERE WHAT IT READS IS OF BULK AT MOST 1048576: true; the input reads as it did. -/
def fnMeansUptoRow : OpenClaim := { program := "ytkbjocndkopjiaa", sum := "442be947a12b72ec07e6fe4f50f3753dadec49c175bdf4993d24a06bb87c6b1b", func := "loop.example/g01131/laws.FnMeans", spec := "fnMeans", apart := false, narrowed := true }
def FnMeansUptoSaid : Prop := fnMeansUptoRow.holds Try.pinned (OpenSpec.upto fnMeansSpec)

end Rows
end Go.Proofs.Ytkbjocndkopjiaa
