/- Contracts of the reference's function that multiplies fractions. -/
import Derived.Deep.RegionWith
import Derived.Deep.RegionHeld3
import Derived.Deep.DrawnRows
import Derived.Test.YtgccidkkfalaeaaGreatDoorMgTr11
namespace Go.Proofs.YtgccidkkfalaeaaGreatDoor
open Go.ChangeShapes Go.WideShapes Go.ChangeAt Go.RowKit

theorem times_low {a b c d : Int} (h : isFrac a b = true) (k : isFrac c d = true) :
    lowX a d * lowX c b = lowX (a * c) (b * d) ∧ lowY a d * lowY c b = lowY (a * c) (b * d) := by
  have h1 := of_decide_eq_true h
  have k1 := of_decide_eq_true k
  have hb : 1 ≤ b := h1.2.2.1
  have hd : 1 ≤ d := k1.2.2.1
  have hab : Int.gcd a b = 1 := h1.2.2.2.2
  have hcd : Int.gcd c d = 1 := k1.2.2.2.2
  have m1 := low_mul a d
  have m2 := low_mul c b
  have y1 := lowY_pos a d (by omega)
  have y2 := lowY_pos c b (by omega)
  have g1 := low_coprime a d (by omega)
  have g2 := low_coprime c b (by omega)
  have hbd : 1 * 1 ≤ b * d := Int.mul_le_mul (by omega) (by omega) (by omega) (by omega)
  have hyy : 1 * 1 ≤ lowY a d * lowY c b := Int.mul_le_mul (by omega) (by omega) (by omega) (by omega)
  refine (fun e => ⟨e.1.symm, e.2.symm⟩) (low_unique (a := a * c) (b := b * d) (x := lowX a d * lowX c b) (y := lowY a d * lowY c b) (by omega) (by omega) ?_ ?_)
  · -- gcd of the products is 1
    have dvd_gcd : ∀ {u v u' v' : Int}, u' ∣ u → v' ∣ v → Int.gcd u v = 1 → Nat.Coprime u'.natAbs v'.natAbs := by
      intro u v u' v' hu hv hg
      exact Nat.Coprime.coprime_dvd_left (Int.natAbs_dvd_natAbs.2 hu) (Nat.Coprime.coprime_dvd_right (Int.natAbs_dvd_natAbs.2 hv) hg)
    have xa : lowX a d ∣ a := ⟨lowD a d, by rw [Int.mul_comm]; exact m1.1.symm⟩
    have yd : lowY a d ∣ d := ⟨lowD a d, by rw [Int.mul_comm]; exact m1.2.symm⟩
    have xc : lowX c b ∣ c := ⟨lowD c b, by rw [Int.mul_comm]; exact m2.1.symm⟩
    have yb : lowY c b ∣ b := ⟨lowD c b, by rw [Int.mul_comm]; exact m2.2.symm⟩
    have c11 : Nat.Coprime (lowX a d).natAbs (lowY a d).natAbs := g1
    have c22 : Nat.Coprime (lowX c b).natAbs (lowY c b).natAbs := g2
    have c12 : Nat.Coprime (lowX a d).natAbs (lowY c b).natAbs := dvd_gcd xa yb hab
    have c21 : Nat.Coprime (lowX c b).natAbs (lowY a d).natAbs := dvd_gcd xc yd hcd
    unfold Int.gcd
    rw [Int.natAbs_mul, Int.natAbs_mul]
    exact Nat.Coprime.mul_left (Nat.Coprime.mul_right c11 c12) (Nat.Coprime.mul_right c21 c22)
  · have e1 : lowX a d * d = a * lowY a d := by
      conv => lhs; arg 2; rw [← m1.2]
      conv => rhs; arg 1; rw [← m1.1]
      rw [Int.mul_left_comm, Int.mul_assoc]
    have e2 : lowX c b * b = c * lowY c b := by
      conv => lhs; arg 2; rw [← m2.2]
      conv => rhs; arg 1; rw [← m2.1]
      rw [Int.mul_left_comm, Int.mul_assoc]
    calc lowX a d * lowX c b * (b * d) = (lowX a d * d) * (lowX c b * b) := by ac_rfl
      _ = (a * lowY a d) * (c * lowY c b) := by rw [e1, e2]
      _ = a * c * (lowY a d * lowY c b) := by ac_rfl

end Go.Proofs.YtgccidkkfalaeaaGreatDoor
