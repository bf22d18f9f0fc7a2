/-
  No cell of these rows narrows 'for every input' (looked for: loops, veiled, ifaces, maps, wideKeys, modest, calm, conditions, laid).
  DERIVED. THE GIVEN ROWS OF THIS SEAT. 12 by the template 'for every input the law returns true; each argument reads behind the call as it read before'; 0 by the template 'total and deterministic' (their statements: YtkghljcahbkfdaaTotals.lean).
  GIVEN WITH THE SEED: the statements are not yours to turn. If you find one false, say at which input.
  Laid BY PROGRAM, IN A SANDBOX (cutbox-rows.mjs): the forced cells as the released guide's own fill.sh prints them over the translation 69d42138621ce6b0… (all of the seat's roots in one cut). By AI agents, Wed Nov 11 2026. No macro, syntax, notation, axiom, sorry.
-/
import Derived.Test.YtkghljcahbkfdaaChecked
import GoSem.Claim
import GoSem.ClaimJoined
import GoSem.ClaimMapViews
import Derived.JoinedTies
import Derived.KernelRfl
namespace Go.Proofs.Ytkghljcahbkfdaa
/- THE CELL 'sum', in the pinned program and in every row, IS THE sha256 OF THE DUMP (.gsa) THAT YtkghljcahbkfdaaProg.lean LOADS. Nothing in Lean hashes anything: it is a label: what it is worth is what the hold of that sum in a sandbox is worth. -/
noncomputable def Try.pinned : Pinned := { name := "ytkghljcahbkfdaa", sum := "69d42138621ce6b0abb981d52a3d21bb986cf4103e12b2848e8af5c10521722d", checked := Try.checked }
namespace Rows
def none {H : Type} : Left H := { results := [], args := [] }

/-- 'laws.FnExactDepthsOf': WHATEVER THE INPUT: true; the input reads as it did. -/
def fnExactDepthsOfSpec : ChangeSpec := { name := "fnExactDepthsOf", fn := fun _ => fun
  | [d] => { results := [.lit (.bool true)], args := [d] }
  | _ => none }
def fnExactDepthsOfRow : OpenClaim := { program := "ytkghljcahbkfdaa", sum := "69d42138621ce6b0abb981d52a3d21bb986cf4103e12b2848e8af5c10521722d", func := "loop.example/g01131/laws.FnExactDepthsOf", spec := "fnExactDepthsOf", apart := false }
def FnExactDepthsOfSaid : Prop := fnExactDepthsOfRow.holds Try.pinned (OpenSpec.ofChange fnExactDepthsOfSpec)

/-- ITS FALSE NEIGHBOUR: 'it returns false'. Refute it at one input. -/
def fnExactDepthsOfWrong : ChangeSpec := { name := "fnExactDepthsOf", fn := fun _ => fun
  | [d] => { results := [.lit (.bool false)], args := [d] }
  | _ => none }
def FnExactDepthsOfWrongFalsely : Prop := fnExactDepthsOfRow.holds Try.pinned (OpenSpec.ofChange fnExactDepthsOfWrong)

/-- 'laws.FnExactSumsOf': WHATEVER THE INPUT: true; the input reads as it did. -/
def fnExactSumsOfSpec : ChangeSpec := { name := "fnExactSumsOf", fn := fun _ => fun
  | [d] => { results := [.lit (.bool true)], args := [d] }
  | _ => none }
def fnExactSumsOfRow : OpenClaim := { program := "ytkghljcahbkfdaa", sum := "69d42138621ce6b0abb981d52a3d21bb986cf4103e12b2848e8af5c10521722d", func := "loop.example/g01131/laws.FnExactSumsOf", spec := "fnExactSumsOf", apart := false }
def FnExactSumsOfSaid : Prop := fnExactSumsOfRow.holds Try.pinned (OpenSpec.ofChange fnExactSumsOfSpec)

/-- ITS FALSE NEIGHBOUR: 'it returns false'. Refute it at one input. -/
def fnExactSumsOfWrong : ChangeSpec := { name := "fnExactSumsOf", fn := fun _ => fun
  | [d] => { results := [.lit (.bool false)], args := [d] }
  | _ => none }
def FnExactSumsOfWrongFalsely : Prop := fnExactSumsOfRow.holds Try.pinned (OpenSpec.ofChange fnExactSumsOfWrong)

/-- 'laws.FnExactEndsOf': WHATEVER THE INPUT: true; the input reads as it did. -/
def fnExactEndsOfSpec : ChangeSpec := { name := "fnExactEndsOf", fn := fun _ => fun
  | [d] => { results := [.lit (.bool true)], args := [d] }
  | _ => none }
def fnExactEndsOfRow : OpenClaim := { program := "ytkghljcahbkfdaa", sum := "69d42138621ce6b0abb981d52a3d21bb986cf4103e12b2848e8af5c10521722d", func := "loop.example/g01131/laws.FnExactEndsOf", spec := "fnExactEndsOf", apart := false }
def FnExactEndsOfSaid : Prop := fnExactEndsOfRow.holds Try.pinned (OpenSpec.ofChange fnExactEndsOfSpec)

/-- ITS FALSE NEIGHBOUR: 'it returns false'. Refute it at one input. -/
def fnExactEndsOfWrong : ChangeSpec := { name := "fnExactEndsOf", fn := fun _ => fun
  | [d] => { results := [.lit (.bool false)], args := [d] }
  | _ => none }
def FnExactEndsOfWrongFalsely : Prop := fnExactEndsOfRow.holds Try.pinned (OpenSpec.ofChange fnExactEndsOfWrong)

/-- 'laws.FnExactWayTo': WHATEVER THE INPUT: true; the input reads as it did. -/
def fnExactWayToSpec : ChangeSpec := { name := "fnExactWayTo", fn := fun _ => fun
  | [d1, d2] => { results := [.lit (.bool true)], args := [d1, d2] }
  | _ => none }
def fnExactWayToRow : OpenClaim := { program := "ytkghljcahbkfdaa", sum := "69d42138621ce6b0abb981d52a3d21bb986cf4103e12b2848e8af5c10521722d", func := "loop.example/g01131/laws.FnExactWayTo", spec := "fnExactWayTo", apart := false }
def FnExactWayToSaid : Prop := fnExactWayToRow.holds Try.pinned (OpenSpec.ofChange fnExactWayToSpec)

/-- ITS FALSE NEIGHBOUR: 'it returns false'. Refute it at one input. -/
def fnExactWayToWrong : ChangeSpec := { name := "fnExactWayTo", fn := fun _ => fun
  | [d1, d2] => { results := [.lit (.bool false)], args := [d1, d2] }
  | _ => none }
def FnExactWayToWrongFalsely : Prop := fnExactWayToRow.holds Try.pinned (OpenSpec.ofChange fnExactWayToWrong)

/-- 'laws.FnExactCutAt': WHATEVER THE INPUT: true; the input reads as it did. -/
def fnExactCutAtSpec : ChangeSpec := { name := "fnExactCutAt", fn := fun _ => fun
  | [d1, d2] => { results := [.lit (.bool true)], args := [d1, d2] }
  | _ => none }
def fnExactCutAtRow : OpenClaim := { program := "ytkghljcahbkfdaa", sum := "69d42138621ce6b0abb981d52a3d21bb986cf4103e12b2848e8af5c10521722d", func := "loop.example/g01131/laws.FnExactCutAt", spec := "fnExactCutAt", apart := false }
def FnExactCutAtSaid : Prop := fnExactCutAtRow.holds Try.pinned (OpenSpec.ofChange fnExactCutAtSpec)

/-- ITS FALSE NEIGHBOUR: 'it returns false'. Refute it at one input. -/
def fnExactCutAtWrong : ChangeSpec := { name := "fnExactCutAt", fn := fun _ => fun
  | [d1, d2] => { results := [.lit (.bool false)], args := [d1, d2] }
  | _ => none }
def FnExactCutAtWrongFalsely : Prop := fnExactCutAtRow.holds Try.pinned (OpenSpec.ofChange fnExactCutAtWrong)

/-- 'laws.FnExactStakeGains': WHATEVER THE INPUT: true; the input reads as it did. -/
def fnExactStakeGainsSpec : ChangeSpec := { name := "fnExactStakeGains", fn := fun _ => fun
  | [d1, d2, d3] => { results := [.lit (.bool true)], args := [d1, d2, d3] }
  | _ => none }
def fnExactStakeGainsRow : OpenClaim := { program := "ytkghljcahbkfdaa", sum := "69d42138621ce6b0abb981d52a3d21bb986cf4103e12b2848e8af5c10521722d", func := "loop.example/g01131/laws.FnExactStakeGains", spec := "fnExactStakeGains", apart := false }
def FnExactStakeGainsSaid : Prop := fnExactStakeGainsRow.holds Try.pinned (OpenSpec.ofChange fnExactStakeGainsSpec)

/-- ITS FALSE NEIGHBOUR: 'it returns false'. Refute it at one input. -/
def fnExactStakeGainsWrong : ChangeSpec := { name := "fnExactStakeGains", fn := fun _ => fun
  | [d1, d2, d3] => { results := [.lit (.bool false)], args := [d1, d2, d3] }
  | _ => none }
def FnExactStakeGainsWrongFalsely : Prop := fnExactStakeGainsRow.holds Try.pinned (OpenSpec.ofChange fnExactStakeGainsWrong)

/-- 'laws.FnExactChanceOf': WHATEVER THE INPUT: true; the input reads as it did. -/
def fnExactChanceOfSpec : ChangeSpec := { name := "fnExactChanceOf", fn := fun _ => fun
  | [d1, d2] => { results := [.lit (.bool true)], args := [d1, d2] }
  | _ => none }
def fnExactChanceOfRow : OpenClaim := { program := "ytkghljcahbkfdaa", sum := "69d42138621ce6b0abb981d52a3d21bb986cf4103e12b2848e8af5c10521722d", func := "loop.example/g01131/laws.FnExactChanceOf", spec := "fnExactChanceOf", apart := false }
def FnExactChanceOfSaid : Prop := fnExactChanceOfRow.holds Try.pinned (OpenSpec.ofChange fnExactChanceOfSpec)

/-- ITS FALSE NEIGHBOUR: 'it returns false'. Refute it at one input. -/
def fnExactChanceOfWrong : ChangeSpec := { name := "fnExactChanceOf", fn := fun _ => fun
  | [d1, d2] => { results := [.lit (.bool false)], args := [d1, d2] }
  | _ => none }
def FnExactChanceOfWrongFalsely : Prop := fnExactChanceOfRow.holds Try.pinned (OpenSpec.ofChange fnExactChanceOfWrong)

/-- 'laws.FnExactFirstEntry': WHATEVER THE INPUT: true; the input reads as it did. -/
def fnExactFirstEntrySpec : ChangeSpec := { name := "fnExactFirstEntry", fn := fun _ => fun
  | [d1, d2, d3] => { results := [.lit (.bool true)], args := [d1, d2, d3] }
  | _ => none }
def fnExactFirstEntryRow : OpenClaim := { program := "ytkghljcahbkfdaa", sum := "69d42138621ce6b0abb981d52a3d21bb986cf4103e12b2848e8af5c10521722d", func := "loop.example/g01131/laws.FnExactFirstEntry", spec := "fnExactFirstEntry", apart := false }
def FnExactFirstEntrySaid : Prop := fnExactFirstEntryRow.holds Try.pinned (OpenSpec.ofChange fnExactFirstEntrySpec)

/-- ITS FALSE NEIGHBOUR: 'it returns false'. Refute it at one input. -/
def fnExactFirstEntryWrong : ChangeSpec := { name := "fnExactFirstEntry", fn := fun _ => fun
  | [d1, d2, d3] => { results := [.lit (.bool false)], args := [d1, d2, d3] }
  | _ => none }
def FnExactFirstEntryWrongFalsely : Prop := fnExactFirstEntryRow.holds Try.pinned (OpenSpec.ofChange fnExactFirstEntryWrong)

/-- 'laws.FnExactPruneTree': WHATEVER THE INPUT: true; the input reads as it did. -/
def fnExactPruneTreeSpec : ChangeSpec := { name := "fnExactPruneTree", fn := fun _ => fun
  | [d1, d2] => { results := [.lit (.bool true)], args := [d1, d2] }
  | _ => none }
def fnExactPruneTreeRow : OpenClaim := { program := "ytkghljcahbkfdaa", sum := "69d42138621ce6b0abb981d52a3d21bb986cf4103e12b2848e8af5c10521722d", func := "loop.example/g01131/laws.FnExactPruneTree", spec := "fnExactPruneTree", apart := false }
def FnExactPruneTreeSaid : Prop := fnExactPruneTreeRow.holds Try.pinned (OpenSpec.ofChange fnExactPruneTreeSpec)

/-- ITS FALSE NEIGHBOUR: 'it returns false'. Refute it at one input. -/
def fnExactPruneTreeWrong : ChangeSpec := { name := "fnExactPruneTree", fn := fun _ => fun
  | [d1, d2] => { results := [.lit (.bool false)], args := [d1, d2] }
  | _ => none }
def FnExactPruneTreeWrongFalsely : Prop := fnExactPruneTreeRow.holds Try.pinned (OpenSpec.ofChange fnExactPruneTreeWrong)

/-- 'laws.FnExactHighestOf': WHATEVER THE INPUT: true; the input reads as it did. -/
def fnExactHighestOfSpec : ChangeSpec := { name := "fnExactHighestOf", fn := fun _ => fun
  | [d1, d2] => { results := [.lit (.bool true)], args := [d1, d2] }
  | _ => none }
def fnExactHighestOfRow : OpenClaim := { program := "ytkghljcahbkfdaa", sum := "69d42138621ce6b0abb981d52a3d21bb986cf4103e12b2848e8af5c10521722d", func := "loop.example/g01131/laws.FnExactHighestOf", spec := "fnExactHighestOf", apart := false }
def FnExactHighestOfSaid : Prop := fnExactHighestOfRow.holds Try.pinned (OpenSpec.ofChange fnExactHighestOfSpec)

/-- ITS FALSE NEIGHBOUR: 'it returns false'. Refute it at one input. -/
def fnExactHighestOfWrong : ChangeSpec := { name := "fnExactHighestOf", fn := fun _ => fun
  | [d1, d2] => { results := [.lit (.bool false)], args := [d1, d2] }
  | _ => none }
def FnExactHighestOfWrongFalsely : Prop := fnExactHighestOfRow.holds Try.pinned (OpenSpec.ofChange fnExactHighestOfWrong)

/-- 'laws.FnExactAreIndependent': WHATEVER THE INPUT: true; the input reads as it did. -/
def fnExactAreIndependentSpec : ChangeSpec := { name := "fnExactAreIndependent", fn := fun _ => fun
  | [d1, d2, d3] => { results := [.lit (.bool true)], args := [d1, d2, d3] }
  | _ => none }
def fnExactAreIndependentRow : OpenClaim := { program := "ytkghljcahbkfdaa", sum := "69d42138621ce6b0abb981d52a3d21bb986cf4103e12b2848e8af5c10521722d", func := "loop.example/g01131/laws.FnExactAreIndependent", spec := "fnExactAreIndependent", apart := false }
def FnExactAreIndependentSaid : Prop := fnExactAreIndependentRow.holds Try.pinned (OpenSpec.ofChange fnExactAreIndependentSpec)

/-- ITS FALSE NEIGHBOUR: 'it returns false'. Refute it at one input. -/
def fnExactAreIndependentWrong : ChangeSpec := { name := "fnExactAreIndependent", fn := fun _ => fun
  | [d1, d2, d3] => { results := [.lit (.bool false)], args := [d1, d2, d3] }
  | _ => none }
def FnExactAreIndependentWrongFalsely : Prop := fnExactAreIndependentRow.holds Try.pinned (OpenSpec.ofChange fnExactAreIndependentWrong)

/-- 'laws.FnExactCrossings': WHATEVER THE INPUT: true; the input reads as it did. -/
def fnExactCrossingsSpec : ChangeSpec := { name := "fnExactCrossings", fn := fun _ => fun
  | [d1, d2, d3, d4] => { results := [.lit (.bool true)], args := [d1, d2, d3, d4] }
  | _ => none }
def fnExactCrossingsRow : OpenClaim := { program := "ytkghljcahbkfdaa", sum := "69d42138621ce6b0abb981d52a3d21bb986cf4103e12b2848e8af5c10521722d", func := "loop.example/g01131/laws.FnExactCrossings", spec := "fnExactCrossings", apart := false }
def FnExactCrossingsSaid : Prop := fnExactCrossingsRow.holds Try.pinned (OpenSpec.ofChange fnExactCrossingsSpec)

/-- ITS FALSE NEIGHBOUR: 'it returns false'. Refute it at one input. -/
def fnExactCrossingsWrong : ChangeSpec := { name := "fnExactCrossings", fn := fun _ => fun
  | [d1, d2, d3, d4] => { results := [.lit (.bool false)], args := [d1, d2, d3, d4] }
  | _ => none }
def FnExactCrossingsWrongFalsely : Prop := fnExactCrossingsRow.holds Try.pinned (OpenSpec.ofChange fnExactCrossingsWrong)

/- THE SECOND FORM. 'bulk': how many values and letters a reading holds, each counted each time it is reached (what is shared counts as often as it is met; a slice's spare places count too). A statement '..UptoSaid' is the law's where the arguments, and the package variables that the reading takes, are together of bulk at most 1048576: NARROWER than '..Said'. Prove '..Said' where nothing that the law and all that it calls make is longer than what came in: it says more and counts as full. Else prove '..UptoSaid'. A law counts once. -/
mutual
def uptoBulk {H : Type} : DataW H → Nat
  | .lit (.string bytes) => bytes.length + 1
  | .lit _ => 1
  | .nil => 1
  | .ptr d => uptoBulk d + 1
  | .slice elems spare => uptoBulkAll elems + uptoBulkAll spare + 1
  | .agg parts => uptoBulkAll parts + 1
  | .iface _ d => uptoBulk d + 1
  | .map entries => uptoBulkEntries entries + 1
  | .held _ => 1
def uptoBulkAll {H : Type} : List (DataW H) → Nat
  | [] => 0
  | d :: r => uptoBulk d + uptoBulkAll r
def uptoBulkEntries {H : Type} : List (Lit × DataW H) → Nat
  | [] => 0
  | x :: r => uptoBulkEntry x + uptoBulkEntries r
def uptoBulkEntry {H : Type} : Lit × DataW H → Nat
  | (.string bytes, d) => bytes.length + uptoBulk d + 1
  | (_, d) => uptoBulk d + 1
 end
def uptoSmall : (H : Type) → List (DataW H) → Bool := fun _ ds => decide (uptoBulkAll ds ≤ 1048576)
def OpenSpec.upto (s : _root_.Go.ChangeSpec) : _root_.Go.OpenSpec := { _root_.Go.OpenSpec.ofChange s with cond := some uptoSmall }

/-- 'laws.FnExactDepthsOf', WHERE WHAT IT READS IS OF BULK AT MOST 1048576: true; the input reads as it did. -/
def fnExactDepthsOfUptoRow : OpenClaim := { program := "ytkghljcahbkfdaa", sum := "69d42138621ce6b0abb981d52a3d21bb986cf4103e12b2848e8af5c10521722d", func := "loop.example/g01131/laws.FnExactDepthsOf", spec := "fnExactDepthsOf", apart := false, narrowed := true }
def FnExactDepthsOfUptoSaid : Prop := fnExactDepthsOfUptoRow.holds Try.pinned (OpenSpec.upto fnExactDepthsOfSpec)

/-- 'laws.FnExactSumsOf', WHERE WHAT IT READS IS OF BULK AT MOST 1048576: true; the input reads as it did. -/
def fnExactSumsOfUptoRow : OpenClaim := { program := "ytkghljcahbkfdaa", sum := "69d42138621ce6b0abb981d52a3d21bb986cf4103e12b2848e8af5c10521722d", func := "loop.example/g01131/laws.FnExactSumsOf", spec := "fnExactSumsOf", apart := false, narrowed := true }
def FnExactSumsOfUptoSaid : Prop := fnExactSumsOfUptoRow.holds Try.pinned (OpenSpec.upto fnExactSumsOfSpec)

/-- 'laws.FnExactEndsOf', WHERE WHAT IT READS IS OF BULK AT MOST 1048576: true; the input reads as it did. -/
def fnExactEndsOfUptoRow : OpenClaim := { program := "ytkghljcahbkfdaa", sum := "69d42138621ce6b0abb981d52a3d21bb986cf4103e12b2848e8af5c10521722d", func := "loop.example/g01131/laws.FnExactEndsOf", spec := "fnExactEndsOf", apart := false, narrowed := true }
def FnExactEndsOfUptoSaid : Prop := fnExactEndsOfUptoRow.holds Try.pinned (OpenSpec.upto fnExactEndsOfSpec)

/-- 'laws.FnExactWayTo', WHERE WHAT IT READS IS OF BULK AT MOST 1048576: true; the input reads as it did. -/
def fnExactWayToUptoRow : OpenClaim := { program := "ytkghljcahbkfdaa", sum := "69d42138621ce6b0abb981d52a3d21bb986cf4103e12b2848e8af5c10521722d", func := "loop.example/g01131/laws.FnExactWayTo", spec := "fnExactWayTo", apart := false, narrowed := true }
def FnExactWayToUptoSaid : Prop := fnExactWayToUptoRow.holds Try.pinned (OpenSpec.upto fnExactWayToSpec)

/-- 'laws.FnExactCutAt', WHERE WHAT IT READS IS OF BULK AT MOST 1048576: true; the input reads as it did. -/
def fnExactCutAtUptoRow : OpenClaim := { program := "ytkghljcahbkfdaa", sum := "69d42138621ce6b0abb981d52a3d21bb986cf4103e12b2848e8af5c10521722d", func := "loop.example/g01131/laws.FnExactCutAt", spec := "fnExactCutAt", apart := false, narrowed := true }
def FnExactCutAtUptoSaid : Prop := fnExactCutAtUptoRow.holds Try.pinned (OpenSpec.upto fnExactCutAtSpec)

/-- 'laws.FnExactStakeGains', WHERE WHAT IT READS IS OF BULK AT MOST 1048576: true; the input reads as it did. -/
def fnExactStakeGainsUptoRow : OpenClaim := { program := "ytkghljcahbkfdaa", sum := "69d42138621ce6b0abb981d52a3d21bb986cf4103e12b2848e8af5c10521722d", func := "loop.example/g01131/laws.FnExactStakeGains", spec := "fnExactStakeGains", apart := false, narrowed := true }
def FnExactStakeGainsUptoSaid : Prop := fnExactStakeGainsUptoRow.holds Try.pinned (OpenSpec.upto fnExactStakeGainsSpec)

/-- 'laws.FnExactChanceOf', WHERE WHAT IT READS IS OF BULK AT MOST 1048576: true; the input reads as it did. -/
def fnExactChanceOfUptoRow : OpenClaim := { program := "ytkghljcahbkfdaa", sum := "69d42138621ce6b0abb981d52a3d21bb986cf4103e12b2848e8af5c10521722d", func := "loop.example/g01131/laws.FnExactChanceOf", spec := "fnExactChanceOf", apart := false, narrowed := true }
def FnExactChanceOfUptoSaid : Prop := fnExactChanceOfUptoRow.holds Try.pinned (OpenSpec.upto fnExactChanceOfSpec)

/-- 'laws.FnExactFirstEntry', WHERE WHAT IT READS IS OF BULK AT MOST 1048576: true; the input reads as it did. -/
def fnExactFirstEntryUptoRow : OpenClaim := { program := "ytkghljcahbkfdaa", sum := "69d42138621ce6b0abb981d52a3d21bb986cf4103e12b2848e8af5c10521722d", func := "loop.example/g01131/laws.FnExactFirstEntry", spec := "fnExactFirstEntry", apart := false, narrowed := true }
def FnExactFirstEntryUptoSaid : Prop := fnExactFirstEntryUptoRow.holds Try.pinned (OpenSpec.upto fnExactFirstEntrySpec)

/-- 'laws.FnExactPruneTree', WHERE WHAT IT READS IS OF BULK AT MOST 1048576: true; the input reads as it did. -/
def fnExactPruneTreeUptoRow : OpenClaim := { program := "ytkghljcahbkfdaa", sum := "69d42138621ce6b0abb981d52a3d21bb986cf4103e12b2848e8af5c10521722d", func := "loop.example/g01131/laws.FnExactPruneTree", spec := "fnExactPruneTree", apart := false, narrowed := true }
def FnExactPruneTreeUptoSaid : Prop := fnExactPruneTreeUptoRow.holds Try.pinned (OpenSpec.upto fnExactPruneTreeSpec)

/-- 'laws.FnExactHighestOf', WHERE WHAT IT READS IS OF BULK AT MOST 1048576: true; the input reads as it did. -/
def fnExactHighestOfUptoRow : OpenClaim := { program := "ytkghljcahbkfdaa", sum := "69d42138621ce6b0abb981d52a3d21bb986cf4103e12b2848e8af5c10521722d", func := "loop.example/g01131/laws.FnExactHighestOf", spec := "fnExactHighestOf", apart := false, narrowed := true }
def FnExactHighestOfUptoSaid : Prop := fnExactHighestOfUptoRow.holds Try.pinned (OpenSpec.upto fnExactHighestOfSpec)

/-- 'laws.FnExactAreIndependent', WHERE WHAT IT READS IS OF BULK AT MOST 1048576: true; the input reads as it did. -/
def fnExactAreIndependentUptoRow : OpenClaim := { program := "ytkghljcahbkfdaa", sum := "69d42138621ce6b0abb981d52a3d21bb986cf4103e12b2848e8af5c10521722d", func := "loop.example/g01131/laws.FnExactAreIndependent", spec := "fnExactAreIndependent", apart := false, narrowed := true }
def FnExactAreIndependentUptoSaid : Prop := fnExactAreIndependentUptoRow.holds Try.pinned (OpenSpec.upto fnExactAreIndependentSpec)

/-- 'laws.FnExactCrossings', WHERE WHAT IT READS IS OF BULK AT MOST 1048576: true; the input reads as it did. -/
def fnExactCrossingsUptoRow : OpenClaim := { program := "ytkghljcahbkfdaa", sum := "69d42138621ce6b0abb981d52a3d21bb986cf4103e12b2848e8af5c10521722d", func := "loop.example/g01131/laws.FnExactCrossings", spec := "fnExactCrossings", apart := false, narrowed := true }
def FnExactCrossingsUptoSaid : Prop := fnExactCrossingsUptoRow.holds Try.pinned (OpenSpec.upto fnExactCrossingsSpec)

end Rows
end Go.Proofs.Ytkghljcahbkfdaa
