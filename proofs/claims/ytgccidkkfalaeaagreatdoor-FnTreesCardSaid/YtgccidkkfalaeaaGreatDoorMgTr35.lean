/- What the listed variables give a walk that reads and writes numbers: the table that Itoa reads, the variable that Atoi's error names. -/
import Derived.Test.YtgccidkkfalaeaaGreatDoorMgTr29
import Derived.Test.YtgccidkkfalaeaaGreatDoorMgTr31
namespace Go.Proofs.YtgccidkkfalaeaaGreatDoor
open Go.ChangeShapes Go.WideShapes Go.ChangeAt Go.RowKit

theorem rowErr (u : TypeId) (h : Tryz.prog.typeName? 3 u = some "*errors.errorString") : u = 133 :=
  have star : "*" ++ "errors.errorString" = "*errors.errorString" := by decide
  typeName_ptr_named (nm := "errors.errorString") (by rw [star]; kernel_rfl) (by kernel_rfl) (by decide) u (by rw [star]; exact h)
theorem synC_of {W : World} {r : List (String × DataW Unit)} (h : laidMet Tryz.prog (("strconv.ErrSyntax", Rows.laid_strconv_ErrSyntax) :: r) W) : SynC W := by
  have hg : Tryz.prog.globalNamed "strconv.ErrSyntax" = some 1 := by kernel_rfl
  have ht : (Tryz.prog.globals[1]?).map (·.type) = some 78 := by kernel_rfl
  obtain ⟨a, s, hv, _, _, _⟩ := laid_sentinel h hg ht Tryz.underlying78 rowErr Tryz.underlying133 Tryz.underlying135 rfl rfl Tryz.underlying9 (by kernel_rfl) (by kernel_rfl)
  have hc := World.var?_cell hg hv 0
  exact ⟨_, by simpa using hc, .inr ⟨_, _, rfl⟩⟩
theorem facts_5 {W : World} (h : laidMetH Tryz.prog [("math/bits.deBruijn32tab", Rows.laid_math_bits_deBruijn32tab), ("math/bits.deBruijn64tab", Rows.laid_math_bits_deBruijn64tab), ("internal/strconv.uint64pow10", Rows.laid_internal_strconv_uint64pow10), ("strconv.ErrRange", Rows.laid_strconv_ErrRange), ("strconv.ErrSyntax", Rows.laid_strconv_ErrSyntax)] W) (hs : W.ShapedOpen Tryz.prog) : TabE W ∧ SynC W ∧ MaxC W := by
  rw [MakeChecks.laidMetH_plain _ _ _ (by kernel_rfl)] at h
  exact ⟨tabE_of_head h.tail.tail, synC_of h.tail.tail.tail.tail, maxLen_cell hs⟩
end Go.Proofs.YtgccidkkfalaeaaGreatDoor
/- What the listed variables give the walk of the law on trees. -/
namespace Go.Proofs.YtgccidkkfalaeaaGreatDoor
open Go.ChangeShapes Go.WideShapes Go.ChangeAt Go.RowKit

theorem facts_8t {W : World} (h : laidMetH Tryz.prog Rows.fnTreesRow.laid W) (hs : W.ShapedOpen Tryz.prog) : TabE W ∧ SynC W ∧ MaxC W := by
  rw [MakeChecks.laidMetH_plain _ _ _ (by kernel_rfl)] at h
  exact ⟨tabE_of_head h.tail.tail, synC_of h.tail.tail.tail.tail.tail, maxLen_cell hs⟩
end Go.Proofs.YtgccidkkfalaeaaGreatDoor
