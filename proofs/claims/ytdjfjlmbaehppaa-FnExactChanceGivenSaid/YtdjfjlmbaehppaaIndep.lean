/- Contracts: independent events. -/
import Derived.Test.YtdjfjlmbaehppaaEvent
import Derived.Test.YtdjfjlmbaehppaaFrac6
namespace Go.Proofs.Ytdjfjlmbaehppaa
open Go.ChangeShapes Go.WideShapes Go.ChangeAt Go.RowKit

noncomputable def indOk (xs ys ps qs : List Int) : Bool := good xs ys && isEv xs ps && isEv xs qs
noncomputable def indV (ys ps qs : List Int) (s : Int) : Bool := heavy ys (bothL ps qs) * s == heavy ys ps * heavy ys qs
noncomputable def indR (xs ys ps qs : List Int) : Bool := indOk xs ys ps qs && indV ys ps qs (nth (sumsL xs ys) 0)
theorem indR_no {xs ys ps qs : List Int} (h : indOk xs ys ps qs = false) : indR xs ys ps qs = false := by unfold indR; rw [h]; rfl
theorem indR_yes {xs ys ps qs : List Int} (h : indOk xs ys ps qs = true) : indR xs ys ps qs = indV ys ps qs (nth (sumsL xs ys) 0) := by unfold indR; rw [h]; rfl
theorem heavy_bd {xs ys : List Int} (hg : good xs ys = true) {zs : List Int} (h : zs.length ≤ 24) : 0 ≤ heavy ys zs ∧ heavy ys zs ≤ 480 := by
  have := sumW_bd hg zs zs.length
  unfold heavy; omega
theorem both_node {n : Nat} {us bs : List Int} (h : ∀ j, j < us.length → ∃ q : Nat, nth us j = q ∧ q < n) : ∀ j, j < (bothL us bs).length → ∃ q : Nat, nth (bothL us bs) j = q ∧ q < n := fun j hj => by
  obtain ⟨i, hi, he⟩ := bothL_nth hj
  rw [he]; exact h i hi
end Go.Proofs.Ytdjfjlmbaehppaa
