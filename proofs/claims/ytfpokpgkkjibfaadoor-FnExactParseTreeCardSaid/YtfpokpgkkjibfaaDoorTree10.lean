/- Contracts: IsProcess and ChildrenOf. -/
import Derived.Test.YtfpokpgkkjibfaaDoorTree9
namespace Go.Proofs.YtfpokpgkkjibfaaDoor
open Go.ChangeShapes Go.WideShapes Go.ChangeAt Go.RowKit

/-- x is a node of a tree with n nodes. -/
def isNd (n : Nat) (x : Int) : Bool := decide (0 ≤ x ∧ x ≤ (n : Int) - 1)
theorem l1In_nd (n : Nat) (x : Int) (w : World) : Calls Tryd.prog 50 #[.int .i64 x, .int .i64 0, .int .i64 ((n : Int) - 1)] w fun e w' => e = .returned (.bool (isNd n x)) ∧ w = w' := l1In_any _ _ _ _
theorem within_nd (n : Nat) (x : Int) (w : World) : Calls Tryd.prog 48 #[.int .i64 x, .int .i64 0, .int .i64 ((n : Int) - 1)] w fun e w' => e = .returned (.bool (isNd n x)) ∧ w = w' := within_any _ _ _ _
def isKidI (xs : List Int) (x : Int) (y : Nat) : Bool := nth xs y == x
noncomputable def chOk (xs ys : List Int) (x : Int) : Bool := good xs ys && isNd xs.length x
noncomputable def chR (xs ys : List Int) (x : Int) : List Int := if chOk xs ys x then pick (isKidI xs x) xs.length else []
theorem chR_len (xs ys : List Int) (x : Int) (hn : xs.length ≤ 1048576) : (chR xs ys x).length ≤ 2000000 := by
  unfold chR; split
  · have := pick_len (isKidI xs x) xs.length; omega
  · simp
theorem pick_congr {f g : Nat → Bool} {k : Nat} (h : ∀ j, j < k → f j = g j) : pick f k = pick g k := by
  unfold pick
  rw [List.filter_congr fun j hj => h j (List.mem_range.1 hj)]
theorem kid_same {xs ys : List Int} (hg : good xs ys = true) (x : Nat) : pick (isKid xs x) xs.length = pick (isKidI xs x) xs.length := by
  refine pick_congr fun y hy => ?_
  have hG := good_iff.1 hg
  unfold isKid isKidI
  by_cases e : nth xs y = (x : Int)
  · have : x < y := by
      by_cases e0 : y = 0
      · subst e0; have := hG.1.2.2; omega
      · have := of_decide_eq_true (hG.2.1 y (by omega) hy); omega
    simp [this]
  · simp [e]
theorem nd_nat {n : Nat} {x : Int} (h : isNd n x = true) : ∃ k : Nat, x = k ∧ k < n := by
  have := of_decide_eq_true h
  exact ⟨x.toNat, by omega, by omega⟩

end Go.Proofs.YtfpokpgkkjibfaaDoor
