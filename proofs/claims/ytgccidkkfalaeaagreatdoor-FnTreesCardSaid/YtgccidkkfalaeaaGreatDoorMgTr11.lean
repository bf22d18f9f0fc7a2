/- Contracts of the functions that compare, add and multiply fractions. -/
import Derived.StillTailTactics
import Derived.Deep.RegionHeld3
import Derived.Test.YtgccidkkfalaeaaGreatDoorMgTr6
import Derived.Test.YtgccidkkfalaeaaGreatDoorMgTr7
namespace Go.Proofs.YtgccidkkfalaeaaGreatDoor
open Go.ChangeShapes Go.WideShapes Go.ChangeAt Go.RowKit

def cmpF (a b c d : Int) : Int := if a * d < c * b then -1 else if c * b < a * d then 1 else 0
theorem mul_bd {a d A D : Int} (h : -A ≤ a ∧ a ≤ A) (k : -D ≤ d ∧ d ≤ D) : -(A * D) ≤ a * d ∧ a * d ≤ A * D := by
  have h1 : a.natAbs * d.natAbs ≤ A.natAbs * D.natAbs := Nat.mul_le_mul (by omega) (by omega)
  have h2 : (a * d).natAbs = a.natAbs * d.natAbs := Int.natAbs_mul a d
  have h3 : A * D = ((A.natAbs * D.natAbs : Nat) : Int) := by
    rw [Int.natCast_mul]
    have e1 : (A.natAbs : Int) = A := by omega
    have e2 : (D.natAbs : Int) = D := by omega
    rw [e1, e2]
  omega

def FrOk (a b c d : Int) : Bool := isFrac a b && isFrac c d
theorem frac_bd {a b : Int} (h : isFrac a b = true) : -1000000000 ≤ a ∧ a ≤ 1000000000 ∧ 1 ≤ b ∧ b ≤ 1000000 := by
  have := of_decide_eq_true h
  exact ⟨this.1, this.2.1, this.2.2.1, this.2.2.2.1⟩
theorem frac_mul {a b c d : Int} (h : isFrac a b = true) (k : isFrac c d = true) : -1000000000000000 ≤ a * d ∧ a * d ≤ 1000000000000000 := by
  have h1 := frac_bd h
  have h2 := frac_bd k
  have := mul_bd (a := a) (d := d) (A := 1000000000) (D := 1000000) (by omega) (by omega)
  omega
end Go.Proofs.YtgccidkkfalaeaaGreatDoor
/- Contracts of the functions that add and multiply fractions. -/
namespace Go.Proofs.YtgccidkkfalaeaaGreatDoor
open Go.ChangeShapes Go.WideShapes Go.ChangeAt Go.RowKit

theorem frac_ne {a b c d : Int} (h : isFrac a b = true) (k : isFrac c d = true) : 1 ≤ b * d ∧ b * d ≤ 1000000000000 := by
  have h1 := frac_bd h
  have h2 := frac_bd k
  have h3 := mul_bd (a := b) (d := d) (A := 1000000) (D := 1000000) (by omega) (by omega)
  have h4 : 1 * 1 ≤ b * d := Int.mul_le_mul (by omega) (by omega) (by omega) (by omega)
  omega

end Go.Proofs.YtgccidkkfalaeaaGreatDoor
/- Contracts of the reference's functions that add and multiply fractions. -/
namespace Go.Proofs.YtgccidkkfalaeaaGreatDoor
open Go.ChangeShapes Go.WideShapes Go.ChangeAt Go.RowKit

theorem gcd_split (b d : Int) : ∃ b' d' : Int, b = (Int.gcd b d : Int) * b' ∧ d = (Int.gcd b d : Int) * d' := by
  obtain ⟨b', hb⟩ := Int.gcd_dvd_left b d
  obtain ⟨d', hd⟩ := Int.gcd_dvd_right b d
  exact ⟨b', d', hb, hd⟩

end Go.Proofs.YtgccidkkfalaeaaGreatDoor
