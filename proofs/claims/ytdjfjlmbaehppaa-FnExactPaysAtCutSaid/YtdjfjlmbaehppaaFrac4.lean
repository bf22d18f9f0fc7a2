/- Contracts of the functions that add and multiply fractions. -/
import Derived.Test.YtdjfjlmbaehppaaFrac3
import Derived.StillTailTactics
namespace Go.Proofs.Ytdjfjlmbaehppaa
open Go.ChangeShapes Go.WideShapes Go.ChangeAt Go.RowKit

theorem frac_ne {a b c d : Int} (h : isFrac a b = true) (k : isFrac c d = true) : 1 ≤ b * d ∧ b * d ≤ 1000000000000 := by
  have h1 := frac_bd h
  have h2 := frac_bd k
  have h3 := mul_bd (a := b) (d := d) (A := 1000000) (D := 1000000) (by omega) (by omega)
  have h4 : 1 * 1 ≤ b * d := Int.mul_le_mul (by omega) (by omega) (by omega) (by omega)
  omega

end Go.Proofs.Ytdjfjlmbaehppaa
