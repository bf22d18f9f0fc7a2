/-
  No cell of these rows narrows 'for every input' (looked for: loops, veiled, ifaces, maps, wideKeys, modest, calm, conditions, laid).
  DERIVED. THE GIVEN ROWS OF THIS SEAT. 12 by the template 'for every input the law returns true; each argument reads behind the call as it read before'; 0 by the template 'total and deterministic' (their statements: YtdjfjlmbaehppaaTotals.lean).
  GIVEN WITH THE SEED: the statements are not yours to turn. If you find one false, say at which input.
  Laid BY PROGRAM, IN A SANDBOX (cutbox-rows.mjs): the forced cells as the released guide's own fill.sh prints them over the translation 258f9ff358ae1afe… (all of the seat's roots in one cut). By AI agents, Wed Nov 11 2026. No macro, syntax, notation, axiom, sorry.
-/
import Derived.Test.YtdjfjlmbaehppaaChecked
import GoSem.Claim
import GoSem.ClaimJoined
import GoSem.ClaimMapViews
import Derived.JoinedTies
import Derived.KernelRfl
namespace Go.Proofs.Ytdjfjlmbaehppaa
/- THE CELL 'sum', in the pinned program and in every row, IS THE sha256 OF THE DUMP (.gsa) THAT YtdjfjlmbaehppaaProg.lean LOADS. Nothing in Lean hashes anything: it is a label: what it is worth is what the hold of that sum in a sandbox is worth. -/
noncomputable def Try.pinned : Pinned := { name := "ytdjfjlmbaehppaa", sum := "258f9ff358ae1afe59501d16179b5dd6ab2c44d110c1c8cbe5e83a23bd8078b3", checked := Try.checked }
namespace Rows
def none {H : Type} : Left H := { results := [], args := [] }

/-- 'laws.FnExactOtherEnds': WHATEVER THE INPUT: true; the input reads as it did. -/
def fnExactOtherEndsSpec : ChangeSpec := { name := "fnExactOtherEnds", fn := fun _ => fun
  | [d1, d2] => { results := [.lit (.bool true)], args := [d1, d2] }
  | _ => none }
def fnExactOtherEndsRow : OpenClaim := { program := "ytdjfjlmbaehppaa", sum := "258f9ff358ae1afe59501d16179b5dd6ab2c44d110c1c8cbe5e83a23bd8078b3", func := "loop.example/g01131/laws.FnExactOtherEnds", spec := "fnExactOtherEnds", apart := false }
def FnExactOtherEndsSaid : Prop := fnExactOtherEndsRow.holds Try.pinned (OpenSpec.ofChange fnExactOtherEndsSpec)

/-- ITS FALSE NEIGHBOUR: 'it returns false'. Refute it at one input. -/
def fnExactOtherEndsWrong : ChangeSpec := { name := "fnExactOtherEnds", fn := fun _ => fun
  | [d1, d2] => { results := [.lit (.bool false)], args := [d1, d2] }
  | _ => none }
def FnExactOtherEndsWrongFalsely : Prop := fnExactOtherEndsRow.holds Try.pinned (OpenSpec.ofChange fnExactOtherEndsWrong)

/-- 'laws.FnExactEventChance': WHATEVER THE INPUT: true; the input reads as it did. -/
def fnExactEventChanceSpec : ChangeSpec := { name := "fnExactEventChance", fn := fun _ => fun
  | [d1, d2] => { results := [.lit (.bool true)], args := [d1, d2] }
  | _ => none }
def fnExactEventChanceRow : OpenClaim := { program := "ytdjfjlmbaehppaa", sum := "258f9ff358ae1afe59501d16179b5dd6ab2c44d110c1c8cbe5e83a23bd8078b3", func := "loop.example/g01131/laws.FnExactEventChance", spec := "fnExactEventChance", apart := false }
def FnExactEventChanceSaid : Prop := fnExactEventChanceRow.holds Try.pinned (OpenSpec.ofChange fnExactEventChanceSpec)

/-- ITS FALSE NEIGHBOUR: 'it returns false'. Refute it at one input. -/
def fnExactEventChanceWrong : ChangeSpec := { name := "fnExactEventChance", fn := fun _ => fun
  | [d1, d2] => { results := [.lit (.bool false)], args := [d1, d2] }
  | _ => none }
def FnExactEventChanceWrongFalsely : Prop := fnExactEventChanceRow.holds Try.pinned (OpenSpec.ofChange fnExactEventChanceWrong)

/-- 'laws.FnExactIndicatorOf': WHATEVER THE INPUT: true; the input reads as it did. -/
def fnExactIndicatorOfSpec : ChangeSpec := { name := "fnExactIndicatorOf", fn := fun _ => fun
  | [d1, d2] => { results := [.lit (.bool true)], args := [d1, d2] }
  | _ => none }
def fnExactIndicatorOfRow : OpenClaim := { program := "ytdjfjlmbaehppaa", sum := "258f9ff358ae1afe59501d16179b5dd6ab2c44d110c1c8cbe5e83a23bd8078b3", func := "loop.example/g01131/laws.FnExactIndicatorOf", spec := "fnExactIndicatorOf", apart := false }
def FnExactIndicatorOfSaid : Prop := fnExactIndicatorOfRow.holds Try.pinned (OpenSpec.ofChange fnExactIndicatorOfSpec)

/-- ITS FALSE NEIGHBOUR: 'it returns false'. Refute it at one input. -/
def fnExactIndicatorOfWrong : ChangeSpec := { name := "fnExactIndicatorOf", fn := fun _ => fun
  | [d1, d2] => { results := [.lit (.bool false)], args := [d1, d2] }
  | _ => none }
def FnExactIndicatorOfWrongFalsely : Prop := fnExactIndicatorOfRow.holds Try.pinned (OpenSpec.ofChange fnExactIndicatorOfWrong)

/-- 'laws.FnExactIsStopping': WHATEVER THE INPUT: true; the input reads as it did. -/
def fnExactIsStoppingSpec : ChangeSpec := { name := "fnExactIsStopping", fn := fun _ => fun
  | [d1, d2] => { results := [.lit (.bool true)], args := [d1, d2] }
  | _ => none }
def fnExactIsStoppingRow : OpenClaim := { program := "ytdjfjlmbaehppaa", sum := "258f9ff358ae1afe59501d16179b5dd6ab2c44d110c1c8cbe5e83a23bd8078b3", func := "loop.example/g01131/laws.FnExactIsStopping", spec := "fnExactIsStopping", apart := false }
def FnExactIsStoppingSaid : Prop := fnExactIsStoppingRow.holds Try.pinned (OpenSpec.ofChange fnExactIsStoppingSpec)

/-- ITS FALSE NEIGHBOUR: 'it returns false'. Refute it at one input. -/
def fnExactIsStoppingWrong : ChangeSpec := { name := "fnExactIsStopping", fn := fun _ => fun
  | [d1, d2] => { results := [.lit (.bool false)], args := [d1, d2] }
  | _ => none }
def FnExactIsStoppingWrongFalsely : Prop := fnExactIsStoppingRow.holds Try.pinned (OpenSpec.ofChange fnExactIsStoppingWrong)

/-- 'laws.FnExactKnownAt': WHATEVER THE INPUT: true; the input reads as it did. -/
def fnExactKnownAtSpec : ChangeSpec := { name := "fnExactKnownAt", fn := fun _ => fun
  | [d1, d2] => { results := [.lit (.bool true)], args := [d1, d2] }
  | _ => none }
def fnExactKnownAtRow : OpenClaim := { program := "ytdjfjlmbaehppaa", sum := "258f9ff358ae1afe59501d16179b5dd6ab2c44d110c1c8cbe5e83a23bd8078b3", func := "loop.example/g01131/laws.FnExactKnownAt", spec := "fnExactKnownAt", apart := false }
def FnExactKnownAtSaid : Prop := fnExactKnownAtRow.holds Try.pinned (OpenSpec.ofChange fnExactKnownAtSpec)

/-- ITS FALSE NEIGHBOUR: 'it returns false'. Refute it at one input. -/
def fnExactKnownAtWrong : ChangeSpec := { name := "fnExactKnownAt", fn := fun _ => fun
  | [d1, d2] => { results := [.lit (.bool false)], args := [d1, d2] }
  | _ => none }
def FnExactKnownAtWrongFalsely : Prop := fnExactKnownAtRow.holds Try.pinned (OpenSpec.ofChange fnExactKnownAtWrong)

/-- 'laws.FnExactIsFairProcess': WHATEVER THE INPUT: true; the input reads as it did. -/
def fnExactIsFairProcessSpec : ChangeSpec := { name := "fnExactIsFairProcess", fn := fun _ => fun
  | [d1, d2] => { results := [.lit (.bool true)], args := [d1, d2] }
  | _ => none }
def fnExactIsFairProcessRow : OpenClaim := { program := "ytdjfjlmbaehppaa", sum := "258f9ff358ae1afe59501d16179b5dd6ab2c44d110c1c8cbe5e83a23bd8078b3", func := "loop.example/g01131/laws.FnExactIsFairProcess", spec := "fnExactIsFairProcess", apart := false }
def FnExactIsFairProcessSaid : Prop := fnExactIsFairProcessRow.holds Try.pinned (OpenSpec.ofChange fnExactIsFairProcessSpec)

/-- ITS FALSE NEIGHBOUR: 'it returns false'. Refute it at one input. -/
def fnExactIsFairProcessWrong : ChangeSpec := { name := "fnExactIsFairProcess", fn := fun _ => fun
  | [d1, d2] => { results := [.lit (.bool false)], args := [d1, d2] }
  | _ => none }
def FnExactIsFairProcessWrongFalsely : Prop := fnExactIsFairProcessRow.holds Try.pinned (OpenSpec.ofChange fnExactIsFairProcessWrong)

/-- 'laws.FnExactIsFalling': WHATEVER THE INPUT: true; the input reads as it did. -/
def fnExactIsFallingSpec : ChangeSpec := { name := "fnExactIsFalling", fn := fun _ => fun
  | [d1, d2] => { results := [.lit (.bool true)], args := [d1, d2] }
  | _ => none }
def fnExactIsFallingRow : OpenClaim := { program := "ytdjfjlmbaehppaa", sum := "258f9ff358ae1afe59501d16179b5dd6ab2c44d110c1c8cbe5e83a23bd8078b3", func := "loop.example/g01131/laws.FnExactIsFalling", spec := "fnExactIsFalling", apart := false }
def FnExactIsFallingSaid : Prop := fnExactIsFallingRow.holds Try.pinned (OpenSpec.ofChange fnExactIsFallingSpec)

/-- ITS FALSE NEIGHBOUR: 'it returns false'. Refute it at one input. -/
def fnExactIsFallingWrong : ChangeSpec := { name := "fnExactIsFalling", fn := fun _ => fun
  | [d1, d2] => { results := [.lit (.bool false)], args := [d1, d2] }
  | _ => none }
def FnExactIsFallingWrongFalsely : Prop := fnExactIsFallingRow.holds Try.pinned (OpenSpec.ofChange fnExactIsFallingWrong)

/-- 'laws.FnExactPaysAtCut': WHATEVER THE INPUT: true; the input reads as it did. -/
def fnExactPaysAtCutSpec : ChangeSpec := { name := "fnExactPaysAtCut", fn := fun _ => fun
  | [d1, d2, d3] => { results := [.lit (.bool true)], args := [d1, d2, d3] }
  | _ => none }
def fnExactPaysAtCutRow : OpenClaim := { program := "ytdjfjlmbaehppaa", sum := "258f9ff358ae1afe59501d16179b5dd6ab2c44d110c1c8cbe5e83a23bd8078b3", func := "loop.example/g01131/laws.FnExactPaysAtCut", spec := "fnExactPaysAtCut", apart := false }
def FnExactPaysAtCutSaid : Prop := fnExactPaysAtCutRow.holds Try.pinned (OpenSpec.ofChange fnExactPaysAtCutSpec)

/-- ITS FALSE NEIGHBOUR: 'it returns false'. Refute it at one input. -/
def fnExactPaysAtCutWrong : ChangeSpec := { name := "fnExactPaysAtCut", fn := fun _ => fun
  | [d1, d2, d3] => { results := [.lit (.bool false)], args := [d1, d2, d3] }
  | _ => none }
def FnExactPaysAtCutWrongFalsely : Prop := fnExactPaysAtCutRow.holds Try.pinned (OpenSpec.ofChange fnExactPaysAtCutWrong)

/-- 'laws.FnExactChanceGiven': WHATEVER THE INPUT: true; the input reads as it did. -/
def fnExactChanceGivenSpec : ChangeSpec := { name := "fnExactChanceGiven", fn := fun _ => fun
  | [d1, d2, d3] => { results := [.lit (.bool true)], args := [d1, d2, d3] }
  | _ => none }
def fnExactChanceGivenRow : OpenClaim := { program := "ytdjfjlmbaehppaa", sum := "258f9ff358ae1afe59501d16179b5dd6ab2c44d110c1c8cbe5e83a23bd8078b3", func := "loop.example/g01131/laws.FnExactChanceGiven", spec := "fnExactChanceGiven", apart := false }
def FnExactChanceGivenSaid : Prop := fnExactChanceGivenRow.holds Try.pinned (OpenSpec.ofChange fnExactChanceGivenSpec)

/-- ITS FALSE NEIGHBOUR: 'it returns false'. Refute it at one input. -/
def fnExactChanceGivenWrong : ChangeSpec := { name := "fnExactChanceGiven", fn := fun _ => fun
  | [d1, d2, d3] => { results := [.lit (.bool false)], args := [d1, d2, d3] }
  | _ => none }
def FnExactChanceGivenWrongFalsely : Prop := fnExactChanceGivenRow.holds Try.pinned (OpenSpec.ofChange fnExactChanceGivenWrong)

/-- 'laws.FnExactCovarianceOf': WHATEVER THE INPUT: true; the input reads as it did. -/
def fnExactCovarianceOfSpec : ChangeSpec := { name := "fnExactCovarianceOf", fn := fun _ => fun
  | [d1, d2, d3] => { results := [.lit (.bool true)], args := [d1, d2, d3] }
  | _ => none }
def fnExactCovarianceOfRow : OpenClaim := { program := "ytdjfjlmbaehppaa", sum := "258f9ff358ae1afe59501d16179b5dd6ab2c44d110c1c8cbe5e83a23bd8078b3", func := "loop.example/g01131/laws.FnExactCovarianceOf", spec := "fnExactCovarianceOf", apart := false }
def FnExactCovarianceOfSaid : Prop := fnExactCovarianceOfRow.holds Try.pinned (OpenSpec.ofChange fnExactCovarianceOfSpec)

/-- ITS FALSE NEIGHBOUR: 'it returns false'. Refute it at one input. -/
def fnExactCovarianceOfWrong : ChangeSpec := { name := "fnExactCovarianceOf", fn := fun _ => fun
  | [d1, d2, d3] => { results := [.lit (.bool false)], args := [d1, d2, d3] }
  | _ => none }
def FnExactCovarianceOfWrongFalsely : Prop := fnExactCovarianceOfRow.holds Try.pinned (OpenSpec.ofChange fnExactCovarianceOfWrong)

/-- 'laws.FnExactVarianceOf': WHATEVER THE INPUT: true; the input reads as it did. -/
def fnExactVarianceOfSpec : ChangeSpec := { name := "fnExactVarianceOf", fn := fun _ => fun
  | [d1, d2] => { results := [.lit (.bool true)], args := [d1, d2] }
  | _ => none }
def fnExactVarianceOfRow : OpenClaim := { program := "ytdjfjlmbaehppaa", sum := "258f9ff358ae1afe59501d16179b5dd6ab2c44d110c1c8cbe5e83a23bd8078b3", func := "loop.example/g01131/laws.FnExactVarianceOf", spec := "fnExactVarianceOf", apart := false }
def FnExactVarianceOfSaid : Prop := fnExactVarianceOfRow.holds Try.pinned (OpenSpec.ofChange fnExactVarianceOfSpec)

/-- ITS FALSE NEIGHBOUR: 'it returns false'. Refute it at one input. -/
def fnExactVarianceOfWrong : ChangeSpec := { name := "fnExactVarianceOf", fn := fun _ => fun
  | [d1, d2] => { results := [.lit (.bool false)], args := [d1, d2] }
  | _ => none }
def FnExactVarianceOfWrongFalsely : Prop := fnExactVarianceOfRow.holds Try.pinned (OpenSpec.ofChange fnExactVarianceOfWrong)

/-- 'laws.FnExactStopAt': WHATEVER THE INPUT: true; the input reads as it did. -/
def fnExactStopAtSpec : ChangeSpec := { name := "fnExactStopAt", fn := fun _ => fun
  | [d1, d2, d3] => { results := [.lit (.bool true)], args := [d1, d2, d3] }
  | _ => none }
def fnExactStopAtRow : OpenClaim := { program := "ytdjfjlmbaehppaa", sum := "258f9ff358ae1afe59501d16179b5dd6ab2c44d110c1c8cbe5e83a23bd8078b3", func := "loop.example/g01131/laws.FnExactStopAt", spec := "fnExactStopAt", apart := false }
def FnExactStopAtSaid : Prop := fnExactStopAtRow.holds Try.pinned (OpenSpec.ofChange fnExactStopAtSpec)

/-- ITS FALSE NEIGHBOUR: 'it returns false'. Refute it at one input. -/
def fnExactStopAtWrong : ChangeSpec := { name := "fnExactStopAt", fn := fun _ => fun
  | [d1, d2, d3] => { results := [.lit (.bool false)], args := [d1, d2, d3] }
  | _ => none }
def FnExactStopAtWrongFalsely : Prop := fnExactStopAtRow.holds Try.pinned (OpenSpec.ofChange fnExactStopAtWrong)

/- THE SECOND FORM. 'bulk': how many values and letters a reading holds, each counted each time it is reached (what is shared counts as often as it is met; a slice's spare places count too). A statement '..UptoSaid' is the law's where the arguments, and the package variables that the reading takes, are together of bulk at most 1048576: NARROWER than '..Said'. Prove '..Said' where nothing that the law and all that it calls make is longer than what came in: it says more and counts as full. Else prove '..UptoSaid'. A law counts once. -/
mutual
def uptoBulk {H : Type} : DataW H → Nat
  | .lit (.string bytes) => bytes.length + 1
  | .lit _ => 1
  | .nil => 1
  | .ptr d => uptoBulk d + 1
  | .slice elems spare => uptoBulkAll elems + uptoBulkAll spare + 1
  | .agg parts => uptoBulkAll parts + 1
  | .iface _ d => uptoBulk d + 1
  | .map entries => uptoBulkEntries entries + 1
  | .held _ => 1
def uptoBulkAll {H : Type} : List (DataW H) → Nat
  | [] => 0
  | d :: r => uptoBulk d + uptoBulkAll r
def uptoBulkEntries {H : Type} : List (Lit × DataW H) → Nat
  | [] => 0
  | x :: r => uptoBulkEntry x + uptoBulkEntries r
def uptoBulkEntry {H : Type} : Lit × DataW H → Nat
  | (.string bytes, d) => bytes.length + uptoBulk d + 1
  | (_, d) => uptoBulk d + 1
 end
def uptoSmall : (H : Type) → List (DataW H) → Bool := fun _ ds => decide (uptoBulkAll ds ≤ 1048576)
def OpenSpec.upto (s : _root_.Go.ChangeSpec) : _root_.Go.OpenSpec := { _root_.Go.OpenSpec.ofChange s with cond := some uptoSmall }

/-- 'laws.FnExactOtherEnds', WHERE WHAT IT READS IS OF BULK AT MOST 1048576: true; the input reads as it did. -/
def fnExactOtherEndsUptoRow : OpenClaim := { program := "ytdjfjlmbaehppaa", sum := "258f9ff358ae1afe59501d16179b5dd6ab2c44d110c1c8cbe5e83a23bd8078b3", func := "loop.example/g01131/laws.FnExactOtherEnds", spec := "fnExactOtherEnds", apart := false, narrowed := true }
def FnExactOtherEndsUptoSaid : Prop := fnExactOtherEndsUptoRow.holds Try.pinned (OpenSpec.upto fnExactOtherEndsSpec)

/-- 'laws.FnExactEventChance', WHERE WHAT IT READS IS OF BULK AT MOST 1048576: true; the input reads as it did. -/
def fnExactEventChanceUptoRow : OpenClaim := { program := "ytdjfjlmbaehppaa", sum := "258f9ff358ae1afe59501d16179b5dd6ab2c44d110c1c8cbe5e83a23bd8078b3", func := "loop.example/g01131/laws.FnExactEventChance", spec := "fnExactEventChance", apart := false, narrowed := true }
def FnExactEventChanceUptoSaid : Prop := fnExactEventChanceUptoRow.holds Try.pinned (OpenSpec.upto fnExactEventChanceSpec)

/-- 'laws.FnExactIndicatorOf', WHERE WHAT IT READS IS OF BULK AT MOST 1048576: true; the input reads as it did. -/
def fnExactIndicatorOfUptoRow : OpenClaim := { program := "ytdjfjlmbaehppaa", sum := "258f9ff358ae1afe59501d16179b5dd6ab2c44d110c1c8cbe5e83a23bd8078b3", func := "loop.example/g01131/laws.FnExactIndicatorOf", spec := "fnExactIndicatorOf", apart := false, narrowed := true }
def FnExactIndicatorOfUptoSaid : Prop := fnExactIndicatorOfUptoRow.holds Try.pinned (OpenSpec.upto fnExactIndicatorOfSpec)

/-- 'laws.FnExactIsStopping', WHERE WHAT IT READS IS OF BULK AT MOST 1048576: true; the input reads as it did. -/
def fnExactIsStoppingUptoRow : OpenClaim := { program := "ytdjfjlmbaehppaa", sum := "258f9ff358ae1afe59501d16179b5dd6ab2c44d110c1c8cbe5e83a23bd8078b3", func := "loop.example/g01131/laws.FnExactIsStopping", spec := "fnExactIsStopping", apart := false, narrowed := true }
def FnExactIsStoppingUptoSaid : Prop := fnExactIsStoppingUptoRow.holds Try.pinned (OpenSpec.upto fnExactIsStoppingSpec)

/-- 'laws.FnExactKnownAt', WHERE WHAT IT READS IS OF BULK AT MOST 1048576: true; the input reads as it did. -/
def fnExactKnownAtUptoRow : OpenClaim := { program := "ytdjfjlmbaehppaa", sum := "258f9ff358ae1afe59501d16179b5dd6ab2c44d110c1c8cbe5e83a23bd8078b3", func := "loop.example/g01131/laws.FnExactKnownAt", spec := "fnExactKnownAt", apart := false, narrowed := true }
def FnExactKnownAtUptoSaid : Prop := fnExactKnownAtUptoRow.holds Try.pinned (OpenSpec.upto fnExactKnownAtSpec)

/-- 'laws.FnExactIsFairProcess', WHERE WHAT IT READS IS OF BULK AT MOST 1048576: true; the input reads as it did. -/
def fnExactIsFairProcessUptoRow : OpenClaim := { program := "ytdjfjlmbaehppaa", sum := "258f9ff358ae1afe59501d16179b5dd6ab2c44d110c1c8cbe5e83a23bd8078b3", func := "loop.example/g01131/laws.FnExactIsFairProcess", spec := "fnExactIsFairProcess", apart := false, narrowed := true }
def FnExactIsFairProcessUptoSaid : Prop := fnExactIsFairProcessUptoRow.holds Try.pinned (OpenSpec.upto fnExactIsFairProcessSpec)

/-- 'laws.FnExactIsFalling', WHERE WHAT IT READS IS OF BULK AT MOST 1048576: true; the input reads as it did. -/
def fnExactIsFallingUptoRow : OpenClaim := { program := "ytdjfjlmbaehppaa", sum := "258f9ff358ae1afe59501d16179b5dd6ab2c44d110c1c8cbe5e83a23bd8078b3", func := "loop.example/g01131/laws.FnExactIsFalling", spec := "fnExactIsFalling", apart := false, narrowed := true }
def FnExactIsFallingUptoSaid : Prop := fnExactIsFallingUptoRow.holds Try.pinned (OpenSpec.upto fnExactIsFallingSpec)

/-- 'laws.FnExactPaysAtCut', WHERE WHAT IT READS IS OF BULK AT MOST 1048576: true; the input reads as it did. -/
def fnExactPaysAtCutUptoRow : OpenClaim := { program := "ytdjfjlmbaehppaa", sum := "258f9ff358ae1afe59501d16179b5dd6ab2c44d110c1c8cbe5e83a23bd8078b3", func := "loop.example/g01131/laws.FnExactPaysAtCut", spec := "fnExactPaysAtCut", apart := false, narrowed := true }
def FnExactPaysAtCutUptoSaid : Prop := fnExactPaysAtCutUptoRow.holds Try.pinned (OpenSpec.upto fnExactPaysAtCutSpec)

/-- 'laws.FnExactChanceGiven', WHERE WHAT IT READS IS OF BULK AT MOST 1048576: true; the input reads as it did. -/
def fnExactChanceGivenUptoRow : OpenClaim := { program := "ytdjfjlmbaehppaa", sum := "258f9ff358ae1afe59501d16179b5dd6ab2c44d110c1c8cbe5e83a23bd8078b3", func := "loop.example/g01131/laws.FnExactChanceGiven", spec := "fnExactChanceGiven", apart := false, narrowed := true }
def FnExactChanceGivenUptoSaid : Prop := fnExactChanceGivenUptoRow.holds Try.pinned (OpenSpec.upto fnExactChanceGivenSpec)

/-- 'laws.FnExactCovarianceOf', WHERE WHAT IT READS IS OF BULK AT MOST 1048576: true; the input reads as it did. -/
def fnExactCovarianceOfUptoRow : OpenClaim := { program := "ytdjfjlmbaehppaa", sum := "258f9ff358ae1afe59501d16179b5dd6ab2c44d110c1c8cbe5e83a23bd8078b3", func := "loop.example/g01131/laws.FnExactCovarianceOf", spec := "fnExactCovarianceOf", apart := false, narrowed := true }
def FnExactCovarianceOfUptoSaid : Prop := fnExactCovarianceOfUptoRow.holds Try.pinned (OpenSpec.upto fnExactCovarianceOfSpec)

/-- 'laws.FnExactVarianceOf', WHERE WHAT IT READS IS OF BULK AT MOST 1048576: true; the input reads as it did. -/
def fnExactVarianceOfUptoRow : OpenClaim := { program := "ytdjfjlmbaehppaa", sum := "258f9ff358ae1afe59501d16179b5dd6ab2c44d110c1c8cbe5e83a23bd8078b3", func := "loop.example/g01131/laws.FnExactVarianceOf", spec := "fnExactVarianceOf", apart := false, narrowed := true }
def FnExactVarianceOfUptoSaid : Prop := fnExactVarianceOfUptoRow.holds Try.pinned (OpenSpec.upto fnExactVarianceOfSpec)

/-- 'laws.FnExactStopAt', WHERE WHAT IT READS IS OF BULK AT MOST 1048576: true; the input reads as it did. -/
def fnExactStopAtUptoRow : OpenClaim := { program := "ytdjfjlmbaehppaa", sum := "258f9ff358ae1afe59501d16179b5dd6ab2c44d110c1c8cbe5e83a23bd8078b3", func := "loop.example/g01131/laws.FnExactStopAt", spec := "fnExactStopAt", apart := false, narrowed := true }
def FnExactStopAtUptoSaid : Prop := fnExactStopAtUptoRow.holds Try.pinned (OpenSpec.upto fnExactStopAtSpec)

end Rows
end Go.Proofs.Ytdjfjlmbaehppaa
