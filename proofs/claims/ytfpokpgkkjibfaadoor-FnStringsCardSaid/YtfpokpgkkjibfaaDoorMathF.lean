/- Plain arithmetic on quotients in lowest terms. -/
import Derived.Test.YtfpokpgkkjibfaaDoorFrac
namespace Go.Proofs.YtfpokpgkkjibfaaDoor

theorem lowD_ne (a b : Int) (hb : b ≠ 0) : lowD a b ≠ 0 := by
  have := gcd_pos a b hb
  unfold lowD; split <;> omega
theorem lowD_dvd (a b : Int) : lowD a b ∣ a ∧ lowD a b ∣ b := by
  unfold lowD
  have h1 := Int.gcd_dvd_left a b
  have h2 := Int.gcd_dvd_right a b
  split
  · exact ⟨Int.neg_dvd.mpr h1, Int.neg_dvd.mpr h2⟩
  · exact ⟨h1, h2⟩
theorem low_mul (a b : Int) : lowD a b * lowX a b = a ∧ lowD a b * lowY a b = b := by
  have h := lowD_dvd a b
  exact ⟨Int.mul_tdiv_cancel' h.1, Int.mul_tdiv_cancel' h.2⟩
theorem lowY_pos (a b : Int) (hb : b ≠ 0) : 1 ≤ lowY a b := by
  have h := (low_mul a b).2
  have hp := gcd_pos a b hb
  rcases Int.lt_trichotomy (lowY a b) 0 with h1 | h1 | h1
  · exfalso
    by_cases hn : b < 0
    · have hd : lowD a b < 0 := by unfold lowD; rw [if_pos hn]; omega
      have := Int.mul_pos_of_neg_of_neg hd h1
      omega
    · have hd : 0 < lowD a b := by unfold lowD; rw [if_neg hn]; omega
      have := Int.mul_neg_of_pos_of_neg hd h1
      omega
  · rw [h1] at h; simp at h; omega
  · omega
theorem gcd_lowD (a b : Int) : (lowD a b).natAbs = Int.gcd a b := by
  unfold lowD; split <;> omega
theorem low_coprime (a b : Int) (hb : b ≠ 0) : Int.gcd (lowX a b) (lowY a b) = 1 := by
  have h := low_mul a b
  have hg : Int.gcd (lowD a b * lowX a b) (lowD a b * lowY a b) = Int.gcd a b := by rw [h.1, h.2]
  rw [Int.gcd_mul_left, gcd_lowD] at hg
  have hp := gcd_pos a b hb
  have hp' : 0 < Int.gcd a b := by omega
  exact Nat.eq_of_mul_eq_mul_left hp' (by omega)
theorem dvd_of_coprime {x y z : Int} (h1 : y ∣ x * z) (h : Int.gcd x y = 1) : y ∣ z := by
  rw [← Int.natAbs_dvd_natAbs] at h1 ⊢
  rw [Int.natAbs_mul] at h1
  exact Nat.Coprime.dvd_of_dvd_mul_left (Nat.Coprime.symm h) h1
theorem cross_coprime {x y x' y' : Int} (hy : 1 ≤ y) (hy' : 1 ≤ y') (h : Int.gcd x y = 1) (h' : Int.gcd x' y' = 1) (e : x * y' = x' * y) : x = x' ∧ y = y' := by
  have hd : y ∣ y' := by
    have h1 : y ∣ x * y' := ⟨x', by rw [e, Int.mul_comm]⟩
    exact dvd_of_coprime h1 h
  have hd' : y' ∣ y := by
    have h1 : y' ∣ x' * y := ⟨x, by rw [← e, Int.mul_comm]⟩
    exact dvd_of_coprime h1 h'
  have hyy : y = y' := Int.le_antisymm (Int.le_of_dvd (by omega) hd) (Int.le_of_dvd (by omega) hd')
  subst hyy
  exact ⟨Int.eq_of_mul_eq_mul_right (by omega) e, rfl⟩
theorem low_unique {a b x y : Int} (hb : b ≠ 0) (hy : 1 ≤ y) (h : Int.gcd x y = 1) (e : x * b = a * y) : lowX a b = x ∧ lowY a b = y := by
  have hm := low_mul a b
  have hd := lowD_ne a b hb
  refine cross_coprime (lowY_pos a b hb) hy (low_coprime a b hb) h ?_
  have e2 : lowD a b * (lowX a b * y) = lowD a b * (x * lowY a b) := by
    rw [← Int.mul_assoc, hm.1, ← e, Int.mul_left_comm, hm.2]
  exact Int.eq_of_mul_eq_mul_left hd e2
theorem low_same {a b a' b' : Int} (hb : b ≠ 0) (hb' : b' ≠ 0) (e : a * b' = a' * b) : lowX a b = lowX a' b' ∧ lowY a b = lowY a' b' := by
  have hm := low_mul a' b'
  have hd := lowD_ne a' b' hb'
  refine low_unique hb (lowY_pos a' b' hb') (low_coprime a' b' hb') ?_
  have e2 : lowD a' b' * (lowX a' b' * b) = lowD a' b' * (a * lowY a' b') := by
    rw [← Int.mul_assoc, hm.1, ← e, Int.mul_left_comm, hm.2]
  exact Int.eq_of_mul_eq_mul_left hd e2
theorem low_self {x y : Int} (hy : 1 ≤ y) (h : Int.gcd x y = 1) : lowX x y = x ∧ lowY x y = y :=
  low_unique (by omega) hy h rfl
theorem isFrac_low (a b : Int) (hb : b ≠ 0) : isFrac (lowX a b) (lowY a b) = lowOk a b := by
  have h1 := lowY_pos a b hb
  have h2 := low_coprime a b hb
  unfold isFrac lowOk Frac
  rw [← Bool.decide_and]
  exact decide_eq_decide.mpr ⟨fun ⟨p, q, _, r, _⟩ => ⟨⟨p, q⟩, r⟩, fun ⟨⟨p, q⟩, r⟩ => ⟨p, q, h1, r, h2⟩⟩
theorem low_neg (a b : Int) (hb : b ≠ 0) : lowX (-a) (-b) = lowX a b ∧ lowY (-a) (-b) = lowY a b :=
  low_same (by omega) hb (by rw [Int.neg_mul, Int.mul_neg])
theorem lowOk_congr {a b a' b' : Int} (h : lowX a b = lowX a' b' ∧ lowY a b = lowY a' b') : lowOk a b = lowOk a' b' ∧ lowN a b = lowN a' b' ∧ lowM a b = lowM a' b' := by
  have h0 : lowOk a b = lowOk a' b' := by unfold lowOk; rw [h.1, h.2]
  exact ⟨h0, by unfold lowN; rw [h0, h.1], by unfold lowM; rw [h0, h.2]⟩
theorem lowD_of_pos (a b : Int) (hb : 0 < b) : lowD a b = (Int.gcd a b : Int) := if_neg (by omega)
end Go.Proofs.YtfpokpgkkjibfaaDoor
