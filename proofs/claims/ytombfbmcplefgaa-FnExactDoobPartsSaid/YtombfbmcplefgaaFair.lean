/- Contracts: no drift, and no drift upward. -/
import Derived.Test.YtombfbmcplefgaaDrift
import Derived.Test.YtombfbmcplefgaaHigh
namespace Go.Proofs.Ytombfbmcplefgaa
open Go.ChangeShapes Go.WideShapes Go.ChangeAt Go.RowKit

/-- A drift that is against the rule. -/
def badB (f : Bool) (a : Int) : Bool := decide (0 < a) || (f && decide (a < 0))
def stB (f : Bool) (L : List (Int × Int)) : Bool := L.all fun q => !badB f q.1
theorem nthp_mem {L : List (Int × Int)} {j : Nat} (h : j < L.length) : nthp L j ∈ L := by
  unfold nthp; rw [List.getD_eq_getElem?_getD, List.getElem?_eq_getElem h]; exact List.getElem_mem h
theorem stB_no {f : Bool} {L : List (Int × Int)} {j : Nat} (h : j < L.length) (hb : badB f (nthp L j).1 = true) : stB f L = false := by
  unfold stB; rw [List.all_eq_false]; exact ⟨_, nthp_mem h, by simp [hb]⟩
theorem stB_yes {f : Bool} {L : List (Int × Int)} (h : ∀ j, j < L.length → badB f (nthp L j).1 = false) : stB f L = true := by
  unfold stB; rw [List.all_eq_true]; intro q hq
  obtain ⟨j, hj, e⟩ := List.getElem_of_mem hq
  have := h j hj
  have e2 : nthp L j = q := by unfold nthp; rw [List.getD_eq_getElem?_getD, List.getElem?_eq_getElem hj]; exact e
  rw [e2] at this; simp [this]
theorem bad_pos {f : Bool} {a : Int} (h : 0 < a) : badB f a = true := by simp [badB, h]
theorem bad_neg {a : Int} (h : a < 0) : badB true a = true := by simp [badB, h]
theorem bad_up {a : Int} (h : a ≤ 0) : badB false a = false := by simp [badB]; omega
theorem bad_zero {f : Bool} {a : Int} (h : a = 0) : badB f a = false := by simp [badB, h]
noncomputable def fairR (f : Bool) (xs ys ps : List Int) : Bool := procOk xs ys ps && stB f (dftK xs ys ps xs.length)
theorem fairR_no {f : Bool} {xs ys ps : List Int} (h : procOk xs ys ps = false) : fairR f xs ys ps = false := by unfold fairR; rw [h]; rfl
theorem fairR_yes {f : Bool} {xs ys ps : List Int} (h : procOk xs ys ps = true) : fairR f xs ys ps = stB f (dftK xs ys ps xs.length) := by unfold fairR; rw [h]; rfl
theorem bad_ne {a : Int} (h : a ≠ 0) : badB true a = true := by simp [badB]; omega
end Go.Proofs.Ytombfbmcplefgaa
