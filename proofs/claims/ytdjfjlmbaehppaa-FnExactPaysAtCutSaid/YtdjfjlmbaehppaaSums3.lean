/- Contracts of SumsOf, printed by wraps.py. -/
import Derived.Test.YtdjfjlmbaehppaaSums2
namespace Go.Proofs.Ytdjfjlmbaehppaa
open Go.ChangeShapes Go.WideShapes Go.ChangeAt Go.RowKit

noncomputable def sumR (xs ys : List Int) : List Int := if good xs ys then sumsL xs ys else []
theorem sumR_len (xs ys : List Int) (hn : xs.length ≤ 1048576) : (sumR xs ys).length ≤ 2000000 := by
  unfold sumR; split
  · rw [sums_len (by assumption)]; omega
  · simp

end Go.Proofs.Ytdjfjlmbaehppaa
