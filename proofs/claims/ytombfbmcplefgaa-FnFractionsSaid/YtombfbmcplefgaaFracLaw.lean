/- Plain: what the law of fractions leans on. -/
import Derived.Test.YtombfbmcplefgaaMathF
import Derived.Test.YtombfbmcplefgaaFrac6
namespace Go.Proofs.Ytombfbmcplefgaa
open Go.ChangeShapes Go.WideShapes Go.ChangeAt Go.RowKit

def addOk (a b c d : Int) : Bool := isFrac a b && isFrac c d && lowOk (a * d + c * b) (b * d)
def addN (a b c d : Int) : Int := if isFrac a b && isFrac c d then lowN (a * d + c * b) (b * d) else 0
def addM (a b c d : Int) : Int := if isFrac a b && isFrac c d then lowM (a * d + c * b) (b * d) else 0
def tmOk (a b c d : Int) : Bool := isFrac a b && isFrac c d && lowOk (a * c) (b * d)
def tmN (a b c d : Int) : Int := if isFrac a b && isFrac c d then lowN (a * c) (b * d) else 0
def tmM (a b c d : Int) : Int := if isFrac a b && isFrac c d then lowM (a * c) (b * d) else 0
def cmOk (a b c d : Int) : Bool := isFrac a b && isFrac c d
def cmV (a b c d : Int) : Int := if isFrac a b && isFrac c d then cmpF a b c d else 0
theorem fr_comm (a b c d : Int) : addN c d a b = addN a b c d ∧ addM c d a b = addM a b c d ∧ addOk c d a b = addOk a b c d := by
  have e1 : c * b + a * d = a * d + c * b := Int.add_comm _ _
  have e2 : d * b = b * d := Int.mul_comm _ _
  unfold addN addM addOk
  rw [e1, e2, Bool.and_comm (isFrac c d)]
  exact ⟨rfl, rfl, rfl⟩
theorem tm_comm (a b c d : Int) : tmN c d a b = tmN a b c d ∧ tmM c d a b = tmM a b c d ∧ tmOk c d a b = tmOk a b c d := by
  have e1 : c * a = a * c := Int.mul_comm _ _
  have e2 : d * b = b * d := Int.mul_comm _ _
  unfold tmN tmM tmOk
  rw [e1, e2, Bool.and_comm (isFrac c d)]
  exact ⟨rfl, rfl, rfl⟩
theorem low_in {a b : Int} (hb : b ≠ 0) (h : lowOk a b = true) : lowN a b = lowX a b ∧ lowM a b = lowY a b ∧ isFrac (lowX a b) (lowY a b) = true := by
  refine ⟨?_, ?_, by rw [isFrac_low a b hb]; exact h⟩
  · unfold lowN; rw [if_pos h]
  · unfold lowM; rw [if_pos h]
theorem fr_parts {a b c d : Int} (h : addOk a b c d = true) : isFrac a b = true ∧ isFrac c d = true ∧ addN a b c d = lowX (a * d + c * b) (b * d) ∧ addM a b c d = lowY (a * d + c * b) (b * d) ∧ isFrac (addN a b c d) (addM a b c d) = true := by
  unfold addOk at h
  obtain ⟨h1, h2⟩ := Bool.and_eq_true_iff.1 h
  obtain ⟨h3, h4⟩ := Bool.and_eq_true_iff.1 h1
  have hb := (frac_ne h3 h4).1
  have hl := low_in (a := a * d + c * b) (b := b * d) (by omega) h2
  unfold addN addM
  rw [h1, if_pos rfl, if_pos rfl, hl.1, hl.2.1]
  exact ⟨h3, h4, rfl, rfl, hl.2.2⟩
theorem tm_in {a b c d : Int} (h : tmOk a b c d = true) : isFrac (tmN a b c d) (tmM a b c d) = true := by
  unfold tmOk at h
  obtain ⟨h1, h2⟩ := Bool.and_eq_true_iff.1 h
  obtain ⟨h3, h4⟩ := Bool.and_eq_true_iff.1 h1
  have hb := (frac_ne h3 h4).1
  have hl := low_in (a := a * c) (b := b * d) (by omega) h2
  unfold tmN tmM
  rw [h1, if_pos rfl, if_pos rfl, hl.1, hl.2.1]
  exact hl.2.2
theorem frac_neg {c d : Int} (h : isFrac c d = true) : isFrac (-c) d = true := by
  have := of_decide_eq_true h
  obtain ⟨h1, h2, h3, h4, h5⟩ := this
  exact decide_eq_true ⟨by omega, by omega, h3, h4, by rw [Int.neg_gcd]; exact h5⟩
theorem frac_low {x y : Int} (h : isFrac x y = true) : lowX x y = x ∧ lowY x y = y ∧ lowOk x y = true := by
  have hf := of_decide_eq_true h
  obtain ⟨h1, h2, h3, h4, h5⟩ := hf
  have hl := low_self h3 h5
  refine ⟨hl.1, hl.2, ?_⟩
  have := isFrac_low x y (by omega)
  rw [hl.1, hl.2] at this
  rw [← this]; exact h
/-- A sum less its second part is its first part. -/
theorem fr_back {a b c d : Int} (h : addOk a b c d = true) :
    addN (addN a b c d) (addM a b c d) (-c) d = a ∧ addM (addN a b c d) (addM a b c d) (-c) d = b ∧ addOk (addN a b c d) (addM a b c d) (-c) d = true := by
  obtain ⟨h1, h2, eN, eM, hS⟩ := fr_parts h
  have hb := (frac_ne h1 h2).1
  have hm := low_mul (a * d + c * b) (b * d)
  have hD := lowD_ne (a * d + c * b) (b * d) (by omega)
  rw [← eN, ← eM] at hm
  have hN := frac_neg h2
  have hY := (frac_ne hS hN).1
  have key : addN a b c d * (b * d) = (a * d + c * b) * addM a b c d := by
    have : lowD (a * d + c * b) (b * d) * (addN a b c d * (b * d)) = lowD (a * d + c * b) (b * d) * ((a * d + c * b) * addM a b c d) := by
      have e9 : lowD (a * d + c * b) (b * d) * ((a * d + c * b) * addM a b c d) = (a * d + c * b) * (lowD (a * d + c * b) (b * d) * addM a b c d) := Int.mul_left_comm _ _ _
      rw [← Int.mul_assoc, hm.1, e9, hm.2]
    exact Int.eq_of_mul_eq_mul_left hD this
  generalize addN a b c d = X at *
  generalize addM a b c d = Y at *
  have ha := of_decide_eq_true h1
  obtain ⟨_, _, ha3, _, ha5⟩ := ha
  have hu := low_unique (a := X * d + -c * Y) (b := Y * d) (x := a) (y := b) (by omega) ha3 ha5 (by
    have e1 : (X * d + -c * Y) * b = X * (b * d) - c * b * Y := by
      rw [Int.add_mul, Int.neg_mul, Int.neg_mul, ← Int.sub_eq_add_neg]
      congr 1
      · rw [Int.mul_assoc, Int.mul_comm d b]
      · rw [Int.mul_assoc, Int.mul_assoc, Int.mul_comm Y b]
    rw [e1, key, Int.add_mul, Int.add_sub_cancel, Int.mul_assoc, Int.mul_comm d Y])
  have hok : lowOk (X * d + -c * Y) (Y * d) = true := by
    have := isFrac_low (X * d + -c * Y) (Y * d) (by omega)
    rw [hu.1, hu.2] at this
    rw [← this]; exact h1
  have hl := low_in (a := X * d + -c * Y) (b := Y * d) (by omega) hok
  unfold addN addM addOk
  rw [hS, hN, Bool.true_and, if_pos rfl, if_pos rfl, hl.1, hl.2.1, hu.1, hu.2, hok]
  exact ⟨rfl, rfl, rfl⟩
theorem fo_neg {c d : Int} (h : isFrac c d = true) : foN (-c) d = -c ∧ foM (-c) d = d ∧ foOk (-c) d = true := by
  have hN := frac_neg h
  have hf := frac_bd h
  have hl := frac_low hN
  have ho : foOk (-c) d = true := by
    unfold foOk; rw [hl.2.2, Bool.and_true]; exact decide_eq_true ⟨by omega, by omega, by omega⟩
  refine ⟨?_, ?_, ho⟩
  · unfold foN; rw [if_pos ho]; exact hl.1
  · unfold foM; rw [if_pos ho]; exact hl.2.1
theorem fo_is {a b : Int} (h : foOk a b = true) : isFrac (foN a b) (foM a b) = true := by
  have h2 := h
  unfold foOk at h2
  obtain ⟨h3, h4⟩ := Bool.and_eq_true_iff.1 h2
  have h5 := of_decide_eq_true h3
  unfold foN foM
  rw [if_pos h, if_pos h]
  exact (low_in h5.1 h4).2.2
theorem cm_turn (a b c d : Int) : cmV c d a b = -cmV a b c d ∧ cmOk c d a b = cmOk a b c d := by
  unfold cmV cmOk
  rw [Bool.and_comm (isFrac c d)]
  refine ⟨?_, rfl⟩
  split
  · unfold cmpF
    by_cases h1 : a * d < c * b
    · have h2 : ¬ c * b < a * d := by omega
      simp [h1, h2]
    · by_cases h2 : c * b < a * d
      · simp [h1, h2]
      · simp [h1, h2]
  · rfl
theorem cm_bd (a b c d : Int) : -1 ≤ cmV a b c d ∧ cmV a b c d ≤ 1 := by
  unfold cmV cmpF
  repeat' split
  all_goals decide
end Go.Proofs.Ytombfbmcplefgaa
