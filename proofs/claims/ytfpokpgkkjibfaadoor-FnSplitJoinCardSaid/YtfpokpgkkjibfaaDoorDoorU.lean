/- What the listed variables give a walk that splits a text. -/
import Derived.Test.YtfpokpgkkjibfaaDoorTied
import Derived.Test.YtfpokpgkkjibfaaDoorNum
namespace Go.Proofs.YtfpokpgkkjibfaaDoor
open Go.ChangeShapes Go.WideShapes Go.ChangeAt Go.RowKit

theorem maxLen_cellU {W : World} (h : W.ShapedOpen Tryd.prog) : MaxC W :=
  Go.Proofs.cell_of_shapedOpen_int h (of_decide_eq_true (by kernel_rfl)) (zero := #[.int .i64 0]) (t := 3) (by kernel_rfl) (by kernel_rfl) (by kernel_rfl) (by kernel_rfl) (by kernel_rfl)
theorem facts_Um {W : World} (_ : laidMetH Tryd.prog [("unicode/utf8.acceptRanges", Rows.laid_unicode_utf8_acceptRanges), ("unicode/utf8.first", Rows.laid_unicode_utf8_first)] W) (hs : W.ShapedOpen Tryd.prog) : MaxC W := maxLen_cellU hs
end Go.Proofs.YtfpokpgkkjibfaaDoor
