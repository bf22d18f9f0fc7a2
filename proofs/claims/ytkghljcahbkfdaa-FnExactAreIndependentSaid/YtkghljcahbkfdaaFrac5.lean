/- Contracts of the reference's functions that add and multiply fractions. -/
import Derived.Test.YtkghljcahbkfdaaFrac4
import Derived.Deep.RegionHeld3
namespace Go.Proofs.Ytkghljcahbkfdaa
open Go.ChangeShapes Go.WideShapes Go.ChangeAt Go.RowKit

theorem gcd_split (b d : Int) : ∃ b' d' : Int, b = (Int.gcd b d : Int) * b' ∧ d = (Int.gcd b d : Int) * d' := by
  obtain ⟨b', hb⟩ := Int.gcd_dvd_left b d
  obtain ⟨d', hd⟩ := Int.gcd_dvd_right b d
  exact ⟨b', d', hb, hd⟩

end Go.Proofs.Ytkghljcahbkfdaa
