/- What the listed variables give a walk that reads a tree out of a text. -/
import Derived.Test.YtfpokpgkkjibfaaDoorDoor5
namespace Go.Proofs.YtfpokpgkkjibfaaDoor
open Go.ChangeShapes Go.WideShapes Go.ChangeAt Go.RowKit

theorem facts_7m {W : World} (h : laidMetH Tryd.prog Rows.fnExactParseTreeRow.laid W) (hs : W.ShapedOpen Tryd.prog) : TabE W ∧ SynC W ∧ MaxC W := by
  rw [MakeChecks.laidMetH_plain _ _ _ (by kernel_rfl)] at h
  exact ⟨tabE_of_head h.tail.tail, synC_of h.tail.tail.tail.tail.tail, maxLen_cell hs⟩
end Go.Proofs.YtfpokpgkkjibfaaDoor
