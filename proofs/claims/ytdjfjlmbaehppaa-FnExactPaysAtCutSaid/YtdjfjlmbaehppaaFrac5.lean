/- Contracts of the reference's functions that add and multiply fractions. -/
import Derived.Test.YtdjfjlmbaehppaaFrac4
import Derived.Deep.RegionHeld3
namespace Go.Proofs.Ytdjfjlmbaehppaa
open Go.ChangeShapes Go.WideShapes Go.ChangeAt Go.RowKit

theorem gcd_split (b d : Int) : ∃ b' d' : Int, b = (Int.gcd b d : Int) * b' ∧ d = (Int.gcd b d : Int) * d' := by
  obtain ⟨b', hb⟩ := Int.gcd_dvd_left b d
  obtain ⟨d', hd⟩ := Int.gcd_dvd_right b d
  exact ⟨b', d', hb, hd⟩

theorem kept_r (a b : Int) (hb : b ≠ 0) (w : World) :
    Calls Try.prog 80 #[.agg #[.int .i64 (lowX a b), .int .i64 (lowY a b)]] w fun e w' => e = .returned (.tuple #[.agg #[.int .i64 (lowN a b), .int .i64 (lowM a b)], .bool (lowOk a b)]) ∧ Below w.heap.size w w' := l2Kept_low a b w hb

end Go.Proofs.Ytdjfjlmbaehppaa
