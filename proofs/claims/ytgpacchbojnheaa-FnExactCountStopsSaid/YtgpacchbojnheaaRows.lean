/-
  No cell of these rows narrows 'for every input' (looked for: loops, veiled, ifaces, maps, wideKeys, modest, calm, conditions, laid).
  DERIVED. THE GIVEN ROWS OF THIS SEAT. 12 by the template 'for every input the law returns true; each argument reads behind the call as it read before'; 0 by the template 'total and deterministic' (their statements: YtgpacchbojnheaaTotals.lean).
  GIVEN WITH THE SEED: the statements are not yours to turn. If you find one false, say at which input.
  Laid BY PROGRAM, IN A SANDBOX (cutbox-rows.mjs): the forced cells as the released guide's own fill.sh prints them over the translation e5c9739ed1db5596… (all of the seat's roots in one cut). By AI agents, Wed Nov 11 2026. No macro, syntax, notation, axiom, sorry.
-/
import Derived.Test.YtgpacchbojnheaaChecked
import GoSem.Claim
import GoSem.ClaimJoined
import GoSem.ClaimMapViews
import Derived.JoinedTies
import Derived.KernelRfl
namespace Go.Proofs.Ytgpacchbojnheaa
/- THE CELL 'sum', in the pinned program and in every row, IS THE sha256 OF THE DUMP (.gsa) THAT YtgpacchbojnheaaProg.lean LOADS. Nothing in Lean hashes anything: it is a label: what it is worth is what the hold of that sum in a sandbox is worth. -/
noncomputable def Try.pinned : Pinned := { name := "ytgpacchbojnheaa", sum := "e5c9739ed1db559647d72bc4ac469066357c4624ee0afffe1655ad9943543657", checked := Try.checked }
namespace Rows
def none {H : Type} : Left H := { results := [], args := [] }

/-- 'laws.FnExactConstants': WHATEVER THE INPUT: true; the input reads as it did. -/
def fnExactConstantsSpec : ChangeSpec := { name := "fnExactConstants", fn := fun _ => fun
  | [] => { results := [.lit (.bool true)], args := [] }
  | _ => none }
def fnExactConstantsRow : OpenClaim := { program := "ytgpacchbojnheaa", sum := "e5c9739ed1db559647d72bc4ac469066357c4624ee0afffe1655ad9943543657", func := "loop.example/g01131/laws.FnExactConstants", spec := "fnExactConstants", apart := false }
def FnExactConstantsSaid : Prop := fnExactConstantsRow.holds Try.pinned (OpenSpec.ofChange fnExactConstantsSpec)

/-- ITS FALSE NEIGHBOUR: 'it returns false'. Refute it at one input. -/
def fnExactConstantsWrong : ChangeSpec := { name := "fnExactConstants", fn := fun _ => fun
  | [] => { results := [.lit (.bool false)], args := [] }
  | _ => none }
def FnExactConstantsWrongFalsely : Prop := fnExactConstantsRow.holds Try.pinned (OpenSpec.ofChange fnExactConstantsWrong)

/-- 'laws.FnExactLessString': WHATEVER THE INPUT: true; the input reads as it did. -/
def fnExactLessStringSpec : ChangeSpec := { name := "fnExactLessString", fn := fun _ => fun
  | [d1, d2] => { results := [.lit (.bool true)], args := [d1, d2] }
  | _ => none }
def fnExactLessStringRow : OpenClaim := { program := "ytgpacchbojnheaa", sum := "e5c9739ed1db559647d72bc4ac469066357c4624ee0afffe1655ad9943543657", func := "loop.example/g01131/laws.FnExactLessString", spec := "fnExactLessString", apart := false }
def FnExactLessStringSaid : Prop := fnExactLessStringRow.holds Try.pinned (OpenSpec.ofChange fnExactLessStringSpec)

/-- ITS FALSE NEIGHBOUR: 'it returns false'. Refute it at one input. -/
def fnExactLessStringWrong : ChangeSpec := { name := "fnExactLessString", fn := fun _ => fun
  | [d1, d2] => { results := [.lit (.bool false)], args := [d1, d2] }
  | _ => none }
def FnExactLessStringWrongFalsely : Prop := fnExactLessStringRow.holds Try.pinned (OpenSpec.ofChange fnExactLessStringWrong)

/-- 'laws.FnExactChecksum': WHATEVER THE INPUT: true; the input reads as it did. -/
def fnExactChecksumSpec : ChangeSpec := { name := "fnExactChecksum", fn := fun _ => fun
  | [d] => { results := [.lit (.bool true)], args := [d] }
  | _ => none }
def fnExactChecksumRow : OpenClaim := { program := "ytgpacchbojnheaa", sum := "e5c9739ed1db559647d72bc4ac469066357c4624ee0afffe1655ad9943543657", func := "loop.example/g01131/laws.FnExactChecksum", spec := "fnExactChecksum", apart := false }
def FnExactChecksumSaid : Prop := fnExactChecksumRow.holds Try.pinned (OpenSpec.ofChange fnExactChecksumSpec)

/-- ITS FALSE NEIGHBOUR: 'it returns false'. Refute it at one input. -/
def fnExactChecksumWrong : ChangeSpec := { name := "fnExactChecksum", fn := fun _ => fun
  | [d] => { results := [.lit (.bool false)], args := [d] }
  | _ => none }
def FnExactChecksumWrongFalsely : Prop := fnExactChecksumRow.holds Try.pinned (OpenSpec.ofChange fnExactChecksumWrong)

/-- 'laws.FnExactIsFraction': WHATEVER THE INPUT: true; the input reads as it did. -/
def fnExactIsFractionSpec : ChangeSpec := { name := "fnExactIsFraction", fn := fun _ => fun
  | [d] => { results := [.lit (.bool true)], args := [d] }
  | _ => none }
def fnExactIsFractionRow : OpenClaim := { program := "ytgpacchbojnheaa", sum := "e5c9739ed1db559647d72bc4ac469066357c4624ee0afffe1655ad9943543657", func := "loop.example/g01131/laws.FnExactIsFraction", spec := "fnExactIsFraction", apart := false }
def FnExactIsFractionSaid : Prop := fnExactIsFractionRow.holds Try.pinned (OpenSpec.ofChange fnExactIsFractionSpec)

/-- ITS FALSE NEIGHBOUR: 'it returns false'. Refute it at one input. -/
def fnExactIsFractionWrong : ChangeSpec := { name := "fnExactIsFraction", fn := fun _ => fun
  | [d] => { results := [.lit (.bool false)], args := [d] }
  | _ => none }
def FnExactIsFractionWrongFalsely : Prop := fnExactIsFractionRow.holds Try.pinned (OpenSpec.ofChange fnExactIsFractionWrong)

/-- 'laws.FnExactFractionOf': WHATEVER THE INPUT: true; the input reads as it did. -/
def fnExactFractionOfSpec : ChangeSpec := { name := "fnExactFractionOf", fn := fun _ => fun
  | [d1, d2] => { results := [.lit (.bool true)], args := [d1, d2] }
  | _ => none }
def fnExactFractionOfRow : OpenClaim := { program := "ytgpacchbojnheaa", sum := "e5c9739ed1db559647d72bc4ac469066357c4624ee0afffe1655ad9943543657", func := "loop.example/g01131/laws.FnExactFractionOf", spec := "fnExactFractionOf", apart := false }
def FnExactFractionOfSaid : Prop := fnExactFractionOfRow.holds Try.pinned (OpenSpec.ofChange fnExactFractionOfSpec)

/-- ITS FALSE NEIGHBOUR: 'it returns false'. Refute it at one input. -/
def fnExactFractionOfWrong : ChangeSpec := { name := "fnExactFractionOf", fn := fun _ => fun
  | [d1, d2] => { results := [.lit (.bool false)], args := [d1, d2] }
  | _ => none }
def FnExactFractionOfWrongFalsely : Prop := fnExactFractionOfRow.holds Try.pinned (OpenSpec.ofChange fnExactFractionOfWrong)

/-- 'laws.FnExactCompareFractions': WHATEVER THE INPUT: true; the input reads as it did. -/
def fnExactCompareFractionsSpec : ChangeSpec := { name := "fnExactCompareFractions", fn := fun _ => fun
  | [d1, d2] => { results := [.lit (.bool true)], args := [d1, d2] }
  | _ => none }
def fnExactCompareFractionsRow : OpenClaim := { program := "ytgpacchbojnheaa", sum := "e5c9739ed1db559647d72bc4ac469066357c4624ee0afffe1655ad9943543657", func := "loop.example/g01131/laws.FnExactCompareFractions", spec := "fnExactCompareFractions", apart := false }
def FnExactCompareFractionsSaid : Prop := fnExactCompareFractionsRow.holds Try.pinned (OpenSpec.ofChange fnExactCompareFractionsSpec)

/-- ITS FALSE NEIGHBOUR: 'it returns false'. Refute it at one input. -/
def fnExactCompareFractionsWrong : ChangeSpec := { name := "fnExactCompareFractions", fn := fun _ => fun
  | [d1, d2] => { results := [.lit (.bool false)], args := [d1, d2] }
  | _ => none }
def FnExactCompareFractionsWrongFalsely : Prop := fnExactCompareFractionsRow.holds Try.pinned (OpenSpec.ofChange fnExactCompareFractionsWrong)

/-- 'laws.FnExactAddFractions': WHATEVER THE INPUT: true; the input reads as it did. -/
def fnExactAddFractionsSpec : ChangeSpec := { name := "fnExactAddFractions", fn := fun _ => fun
  | [d1, d2] => { results := [.lit (.bool true)], args := [d1, d2] }
  | _ => none }
def fnExactAddFractionsRow : OpenClaim := { program := "ytgpacchbojnheaa", sum := "e5c9739ed1db559647d72bc4ac469066357c4624ee0afffe1655ad9943543657", func := "loop.example/g01131/laws.FnExactAddFractions", spec := "fnExactAddFractions", apart := false }
def FnExactAddFractionsSaid : Prop := fnExactAddFractionsRow.holds Try.pinned (OpenSpec.ofChange fnExactAddFractionsSpec)

/-- ITS FALSE NEIGHBOUR: 'it returns false'. Refute it at one input. -/
def fnExactAddFractionsWrong : ChangeSpec := { name := "fnExactAddFractions", fn := fun _ => fun
  | [d1, d2] => { results := [.lit (.bool false)], args := [d1, d2] }
  | _ => none }
def FnExactAddFractionsWrongFalsely : Prop := fnExactAddFractionsRow.holds Try.pinned (OpenSpec.ofChange fnExactAddFractionsWrong)

/-- 'laws.FnExactTimesFractions': WHATEVER THE INPUT: true; the input reads as it did. -/
def fnExactTimesFractionsSpec : ChangeSpec := { name := "fnExactTimesFractions", fn := fun _ => fun
  | [d1, d2] => { results := [.lit (.bool true)], args := [d1, d2] }
  | _ => none }
def fnExactTimesFractionsRow : OpenClaim := { program := "ytgpacchbojnheaa", sum := "e5c9739ed1db559647d72bc4ac469066357c4624ee0afffe1655ad9943543657", func := "loop.example/g01131/laws.FnExactTimesFractions", spec := "fnExactTimesFractions", apart := false }
def FnExactTimesFractionsSaid : Prop := fnExactTimesFractionsRow.holds Try.pinned (OpenSpec.ofChange fnExactTimesFractionsSpec)

/-- ITS FALSE NEIGHBOUR: 'it returns false'. Refute it at one input. -/
def fnExactTimesFractionsWrong : ChangeSpec := { name := "fnExactTimesFractions", fn := fun _ => fun
  | [d1, d2] => { results := [.lit (.bool false)], args := [d1, d2] }
  | _ => none }
def FnExactTimesFractionsWrongFalsely : Prop := fnExactTimesFractionsRow.holds Try.pinned (OpenSpec.ofChange fnExactTimesFractionsWrong)

/-- 'laws.FnExactIsTree': WHATEVER THE INPUT: true; the input reads as it did. -/
def fnExactIsTreeSpec : ChangeSpec := { name := "fnExactIsTree", fn := fun _ => fun
  | [d] => { results := [.lit (.bool true)], args := [d] }
  | _ => none }
def fnExactIsTreeRow : OpenClaim := { program := "ytgpacchbojnheaa", sum := "e5c9739ed1db559647d72bc4ac469066357c4624ee0afffe1655ad9943543657", func := "loop.example/g01131/laws.FnExactIsTree", spec := "fnExactIsTree", apart := false }
def FnExactIsTreeSaid : Prop := fnExactIsTreeRow.holds Try.pinned (OpenSpec.ofChange fnExactIsTreeSpec)

/-- ITS FALSE NEIGHBOUR: 'it returns false'. Refute it at one input. -/
def fnExactIsTreeWrong : ChangeSpec := { name := "fnExactIsTree", fn := fun _ => fun
  | [d] => { results := [.lit (.bool false)], args := [d] }
  | _ => none }
def FnExactIsTreeWrongFalsely : Prop := fnExactIsTreeRow.holds Try.pinned (OpenSpec.ofChange fnExactIsTreeWrong)

/-- 'laws.FnExactIsProcess': WHATEVER THE INPUT: true; the input reads as it did. -/
def fnExactIsProcessSpec : ChangeSpec := { name := "fnExactIsProcess", fn := fun _ => fun
  | [d1, d2] => { results := [.lit (.bool true)], args := [d1, d2] }
  | _ => none }
def fnExactIsProcessRow : OpenClaim := { program := "ytgpacchbojnheaa", sum := "e5c9739ed1db559647d72bc4ac469066357c4624ee0afffe1655ad9943543657", func := "loop.example/g01131/laws.FnExactIsProcess", spec := "fnExactIsProcess", apart := false }
def FnExactIsProcessSaid : Prop := fnExactIsProcessRow.holds Try.pinned (OpenSpec.ofChange fnExactIsProcessSpec)

/-- ITS FALSE NEIGHBOUR: 'it returns false'. Refute it at one input. -/
def fnExactIsProcessWrong : ChangeSpec := { name := "fnExactIsProcess", fn := fun _ => fun
  | [d1, d2] => { results := [.lit (.bool false)], args := [d1, d2] }
  | _ => none }
def FnExactIsProcessWrongFalsely : Prop := fnExactIsProcessRow.holds Try.pinned (OpenSpec.ofChange fnExactIsProcessWrong)

/-- 'laws.FnExactChildrenOf': WHATEVER THE INPUT: true; the input reads as it did. -/
def fnExactChildrenOfSpec : ChangeSpec := { name := "fnExactChildrenOf", fn := fun _ => fun
  | [d1, d2] => { results := [.lit (.bool true)], args := [d1, d2] }
  | _ => none }
def fnExactChildrenOfRow : OpenClaim := { program := "ytgpacchbojnheaa", sum := "e5c9739ed1db559647d72bc4ac469066357c4624ee0afffe1655ad9943543657", func := "loop.example/g01131/laws.FnExactChildrenOf", spec := "fnExactChildrenOf", apart := false }
def FnExactChildrenOfSaid : Prop := fnExactChildrenOfRow.holds Try.pinned (OpenSpec.ofChange fnExactChildrenOfSpec)

/-- ITS FALSE NEIGHBOUR: 'it returns false'. Refute it at one input. -/
def fnExactChildrenOfWrong : ChangeSpec := { name := "fnExactChildrenOf", fn := fun _ => fun
  | [d1, d2] => { results := [.lit (.bool false)], args := [d1, d2] }
  | _ => none }
def FnExactChildrenOfWrongFalsely : Prop := fnExactChildrenOfRow.holds Try.pinned (OpenSpec.ofChange fnExactChildrenOfWrong)

/-- 'laws.FnExactCountStops': WHATEVER THE INPUT: true; the input reads as it did. -/
def fnExactCountStopsSpec : ChangeSpec := { name := "fnExactCountStops", fn := fun _ => fun
  | [d] => { results := [.lit (.bool true)], args := [d] }
  | _ => none }
def fnExactCountStopsRow : OpenClaim := { program := "ytgpacchbojnheaa", sum := "e5c9739ed1db559647d72bc4ac469066357c4624ee0afffe1655ad9943543657", func := "loop.example/g01131/laws.FnExactCountStops", spec := "fnExactCountStops", apart := false }
def FnExactCountStopsSaid : Prop := fnExactCountStopsRow.holds Try.pinned (OpenSpec.ofChange fnExactCountStopsSpec)

/-- ITS FALSE NEIGHBOUR: 'it returns false'. Refute it at one input. -/
def fnExactCountStopsWrong : ChangeSpec := { name := "fnExactCountStops", fn := fun _ => fun
  | [d] => { results := [.lit (.bool false)], args := [d] }
  | _ => none }
def FnExactCountStopsWrongFalsely : Prop := fnExactCountStopsRow.holds Try.pinned (OpenSpec.ofChange fnExactCountStopsWrong)

/- THE SECOND FORM. 'bulk': how many values and letters a reading holds, each counted each time it is reached (what is shared counts as often as it is met; a slice's spare places count too). A statement '..UptoSaid' is the law's where the arguments, and the package variables that the reading takes, are together of bulk at most 1048576: NARROWER than '..Said'. Prove '..Said' where nothing that the law and all that it calls make is longer than what came in: it says more and counts as full. Else prove '..UptoSaid'. A law counts once. -/
mutual
def uptoBulk {H : Type} : DataW H → Nat
  | .lit (.string bytes) => bytes.length + 1
  | .lit _ => 1
  | .nil => 1
  | .ptr d => uptoBulk d + 1
  | .slice elems spare => uptoBulkAll elems + uptoBulkAll spare + 1
  | .agg parts => uptoBulkAll parts + 1
  | .iface _ d => uptoBulk d + 1
  | .map entries => uptoBulkEntries entries + 1
  | .held _ => 1
def uptoBulkAll {H : Type} : List (DataW H) → Nat
  | [] => 0
  | d :: r => uptoBulk d + uptoBulkAll r
def uptoBulkEntries {H : Type} : List (Lit × DataW H) → Nat
  | [] => 0
  | x :: r => uptoBulkEntry x + uptoBulkEntries r
def uptoBulkEntry {H : Type} : Lit × DataW H → Nat
  | (.string bytes, d) => bytes.length + uptoBulk d + 1
  | (_, d) => uptoBulk d + 1
 end
def uptoSmall : (H : Type) → List (DataW H) → Bool := fun _ ds => decide (uptoBulkAll ds ≤ 1048576)
def OpenSpec.upto (s : _root_.Go.ChangeSpec) : _root_.Go.OpenSpec := { _root_.Go.OpenSpec.ofChange s with cond := some uptoSmall }

/-- 'laws.FnExactConstants', WHERE WHAT IT READS IS OF BULK AT MOST 1048576: true; the input reads as it did. -/
def fnExactConstantsUptoRow : OpenClaim := { program := "ytgpacchbojnheaa", sum := "e5c9739ed1db559647d72bc4ac469066357c4624ee0afffe1655ad9943543657", func := "loop.example/g01131/laws.FnExactConstants", spec := "fnExactConstants", apart := false, narrowed := true }
def FnExactConstantsUptoSaid : Prop := fnExactConstantsUptoRow.holds Try.pinned (OpenSpec.upto fnExactConstantsSpec)

/-- 'laws.FnExactLessString', WHERE WHAT IT READS IS OF BULK AT MOST 1048576: true; the input reads as it did. -/
def fnExactLessStringUptoRow : OpenClaim := { program := "ytgpacchbojnheaa", sum := "e5c9739ed1db559647d72bc4ac469066357c4624ee0afffe1655ad9943543657", func := "loop.example/g01131/laws.FnExactLessString", spec := "fnExactLessString", apart := false, narrowed := true }
def FnExactLessStringUptoSaid : Prop := fnExactLessStringUptoRow.holds Try.pinned (OpenSpec.upto fnExactLessStringSpec)

/-- 'laws.FnExactChecksum', WHERE WHAT IT READS IS OF BULK AT MOST 1048576: true; the input reads as it did. -/
def fnExactChecksumUptoRow : OpenClaim := { program := "ytgpacchbojnheaa", sum := "e5c9739ed1db559647d72bc4ac469066357c4624ee0afffe1655ad9943543657", func := "loop.example/g01131/laws.FnExactChecksum", spec := "fnExactChecksum", apart := false, narrowed := true }
def FnExactChecksumUptoSaid : Prop := fnExactChecksumUptoRow.holds Try.pinned (OpenSpec.upto fnExactChecksumSpec)

/-- 'laws.FnExactIsFraction', WHERE WHAT IT READS IS OF BULK AT MOST 1048576: true; the input reads as it did. -/
def fnExactIsFractionUptoRow : OpenClaim := { program := "ytgpacchbojnheaa", sum := "e5c9739ed1db559647d72bc4ac469066357c4624ee0afffe1655ad9943543657", func := "loop.example/g01131/laws.FnExactIsFraction", spec := "fnExactIsFraction", apart := false, narrowed := true }
def FnExactIsFractionUptoSaid : Prop := fnExactIsFractionUptoRow.holds Try.pinned (OpenSpec.upto fnExactIsFractionSpec)

/-- 'laws.FnExactFractionOf', WHERE WHAT IT READS IS OF BULK AT MOST 1048576: true; the input reads as it did. -/
def fnExactFractionOfUptoRow : OpenClaim := { program := "ytgpacchbojnheaa", sum := "e5c9739ed1db559647d72bc4ac469066357c4624ee0afffe1655ad9943543657", func := "loop.example/g01131/laws.FnExactFractionOf", spec := "fnExactFractionOf", apart := false, narrowed := true }
def FnExactFractionOfUptoSaid : Prop := fnExactFractionOfUptoRow.holds Try.pinned (OpenSpec.upto fnExactFractionOfSpec)

/-- 'laws.FnExactCompareFractions', WHERE WHAT IT READS IS OF BULK AT MOST 1048576: true; the input reads as it did. -/
def fnExactCompareFractionsUptoRow : OpenClaim := { program := "ytgpacchbojnheaa", sum := "e5c9739ed1db559647d72bc4ac469066357c4624ee0afffe1655ad9943543657", func := "loop.example/g01131/laws.FnExactCompareFractions", spec := "fnExactCompareFractions", apart := false, narrowed := true }
def FnExactCompareFractionsUptoSaid : Prop := fnExactCompareFractionsUptoRow.holds Try.pinned (OpenSpec.upto fnExactCompareFractionsSpec)

/-- 'laws.FnExactAddFractions', WHERE WHAT IT READS IS OF BULK AT MOST 1048576: true; the input reads as it did. -/
def fnExactAddFractionsUptoRow : OpenClaim := { program := "ytgpacchbojnheaa", sum := "e5c9739ed1db559647d72bc4ac469066357c4624ee0afffe1655ad9943543657", func := "loop.example/g01131/laws.FnExactAddFractions", spec := "fnExactAddFractions", apart := false, narrowed := true }
def FnExactAddFractionsUptoSaid : Prop := fnExactAddFractionsUptoRow.holds Try.pinned (OpenSpec.upto fnExactAddFractionsSpec)

/-- 'laws.FnExactTimesFractions', WHERE WHAT IT READS IS OF BULK AT MOST 1048576: true; the input reads as it did. -/
def fnExactTimesFractionsUptoRow : OpenClaim := { program := "ytgpacchbojnheaa", sum := "e5c9739ed1db559647d72bc4ac469066357c4624ee0afffe1655ad9943543657", func := "loop.example/g01131/laws.FnExactTimesFractions", spec := "fnExactTimesFractions", apart := false, narrowed := true }
def FnExactTimesFractionsUptoSaid : Prop := fnExactTimesFractionsUptoRow.holds Try.pinned (OpenSpec.upto fnExactTimesFractionsSpec)

/-- 'laws.FnExactIsTree', WHERE WHAT IT READS IS OF BULK AT MOST 1048576: true; the input reads as it did. -/
def fnExactIsTreeUptoRow : OpenClaim := { program := "ytgpacchbojnheaa", sum := "e5c9739ed1db559647d72bc4ac469066357c4624ee0afffe1655ad9943543657", func := "loop.example/g01131/laws.FnExactIsTree", spec := "fnExactIsTree", apart := false, narrowed := true }
def FnExactIsTreeUptoSaid : Prop := fnExactIsTreeUptoRow.holds Try.pinned (OpenSpec.upto fnExactIsTreeSpec)

/-- 'laws.FnExactIsProcess', WHERE WHAT IT READS IS OF BULK AT MOST 1048576: true; the input reads as it did. -/
def fnExactIsProcessUptoRow : OpenClaim := { program := "ytgpacchbojnheaa", sum := "e5c9739ed1db559647d72bc4ac469066357c4624ee0afffe1655ad9943543657", func := "loop.example/g01131/laws.FnExactIsProcess", spec := "fnExactIsProcess", apart := false, narrowed := true }
def FnExactIsProcessUptoSaid : Prop := fnExactIsProcessUptoRow.holds Try.pinned (OpenSpec.upto fnExactIsProcessSpec)

/-- 'laws.FnExactChildrenOf', WHERE WHAT IT READS IS OF BULK AT MOST 1048576: true; the input reads as it did. -/
def fnExactChildrenOfUptoRow : OpenClaim := { program := "ytgpacchbojnheaa", sum := "e5c9739ed1db559647d72bc4ac469066357c4624ee0afffe1655ad9943543657", func := "loop.example/g01131/laws.FnExactChildrenOf", spec := "fnExactChildrenOf", apart := false, narrowed := true }
def FnExactChildrenOfUptoSaid : Prop := fnExactChildrenOfUptoRow.holds Try.pinned (OpenSpec.upto fnExactChildrenOfSpec)

/-- 'laws.FnExactCountStops', WHERE WHAT IT READS IS OF BULK AT MOST 1048576: true; the input reads as it did. -/
def fnExactCountStopsUptoRow : OpenClaim := { program := "ytgpacchbojnheaa", sum := "e5c9739ed1db559647d72bc4ac469066357c4624ee0afffe1655ad9943543657", func := "loop.example/g01131/laws.FnExactCountStops", spec := "fnExactCountStops", apart := false, narrowed := true }
def FnExactCountStopsUptoSaid : Prop := fnExactCountStopsUptoRow.holds Try.pinned (OpenSpec.upto fnExactCountStopsSpec)

end Rows
end Go.Proofs.Ytgpacchbojnheaa
