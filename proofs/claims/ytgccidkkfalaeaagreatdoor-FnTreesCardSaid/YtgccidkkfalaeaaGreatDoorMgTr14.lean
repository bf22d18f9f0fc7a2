/- Contracts: is a number in a list, and where; is a list rising. -/
import Derived.StillTactics
import Derived.Test.YtgccidkkfalaeaaGreatDoorMgTr10
import Derived.Test.YtgccidkkfalaeaaGreatDoorMgTr9
namespace Go.Proofs.YtgccidkkfalaeaaGreatDoor
open Go.ChangeShapes Go.WideShapes Go.ChangeAt Go.RowKit

/-- v is in the list. -/
def hasB (zs : List Int) (v : Int) : Bool := (List.range zs.length).any fun j => nth zs j == v
theorem hasB_yes {zs : List Int} {v : Int} {j : Nat} (hj : j < zs.length) (h : nth zs j = v) : hasB zs v = true := List.any_eq_true.2 ⟨j, List.mem_range.2 hj, by simp [h]⟩
theorem hasB_no {zs : List Int} {v : Int} (h : ∀ j, j < zs.length → nth zs j ≠ v) : hasB zs v = false := by
  rw [Bool.eq_false_iff]; intro ha
  obtain ⟨j, hj, he⟩ := List.any_eq_true.1 ha
  exact h j (List.mem_range.1 hj) (by simpa using he)
theorem hasB_iff {zs : List Int} {v : Int} : hasB zs v = true ↔ ∃ j, j < zs.length ∧ nth zs j = v := by
  constructor
  · intro ha
    obtain ⟨j, hj, he⟩ := List.any_eq_true.1 ha
    exact ⟨j, List.mem_range.1 hj, by simpa using he⟩
  · rintro ⟨j, hj, h⟩; exact hasB_yes hj h
/-- The first place of v among the first k numbers, or -1. -/
def idxN (zs : List Int) (v : Int) : Nat → Int
  | 0 => -1
  | k + 1 => if 0 ≤ idxN zs v k then idxN zs v k else if nth zs k = v then k else -1
def idxI (zs : List Int) (v : Int) : Int := idxN zs v zs.length
theorem idxN_none {zs : List Int} {v : Int} {k : Nat} (h : ∀ j, j < k → nth zs j ≠ v) : idxN zs v k = -1 := by
  induction k with
  | zero => rfl
  | succ k ih => rw [idxN, ih (fun j hj => h j (by omega)), if_neg (by omega), if_neg (h k (by omega))]
theorem idxN_at {zs : List Int} {v : Int} {q k : Nat} (hq : q < k) (he : nth zs q = v) (h : ∀ j, j < q → nth zs j ≠ v) : idxN zs v k = q := by
  induction k with
  | zero => omega
  | succ k ih =>
    rw [idxN]
    by_cases e : q = k
    · subst e; rw [idxN_none h, if_neg (by omega), if_pos he]
    · rw [ih (by omega), if_pos (by omega)]
theorem idxI_none {zs : List Int} {v : Int} (h : ∀ j, j < zs.length → nth zs j ≠ v) : idxI zs v = -1 := idxN_none h
theorem idxI_at {zs : List Int} {v : Int} {q : Nat} (hq : q < zs.length) (he : nth zs q = v) (h : ∀ j, j < q → nth zs j ≠ v) : idxI zs v = q := idxN_at hq he h
theorem idxI_cases (zs : List Int) (v : Int) : (hasB zs v = false ∧ idxI zs v = -1) ∨ (hasB zs v = true ∧ ∃ q : Nat, idxI zs v = q ∧ q < zs.length ∧ nth zs q = v ∧ ∀ j, j < q → nth zs j ≠ v) := by
  by_cases h : ∃ q, q < zs.length ∧ nth zs q = v
  · right
    have hf : ∃ q, (q < zs.length ∧ nth zs q = v) ∧ ∀ j, j < q → ¬ (j < zs.length ∧ nth zs j = v) := by
      obtain ⟨q, hq⟩ := h
      induction q using Nat.strongRecOn with
      | ind q ih =>
        by_cases hx : ∃ j, j < q ∧ (j < zs.length ∧ nth zs j = v)
        · obtain ⟨j, hj, hj2⟩ := hx; exact ih j hj hj2
        · exact ⟨q, hq, fun j hj h2 => hx ⟨j, hj, h2⟩⟩
    obtain ⟨q, ⟨h1, h2⟩, h3⟩ := hf
    have h4 : ∀ j, j < q → nth zs j ≠ v := fun j hj e => h3 j hj ⟨by omega, e⟩
    exact ⟨hasB_yes h1 h2, q, idxI_at h1 h2 h4, h1, h2, h4⟩
  · left
    have h1 : ∀ j, j < zs.length → nth zs j ≠ v := fun j hj e => h ⟨j, hj, e⟩
    exact ⟨hasB_no h1, idxI_none h1⟩

/-- Strictly ascending. -/
def riseB (zs : List Int) : Bool := (List.range zs.length).all fun j => j == 0 || decide (nth zs (j - 1) < nth zs j)
theorem riseB_no {zs : List Int} {j : Nat} (hj : j + 1 < zs.length) (h : ¬ nth zs j < nth zs (j + 1)) : riseB zs = false := by
  rw [Bool.eq_false_iff]; intro ha
  have := List.all_eq_true.1 ha (j + 1) (List.mem_range.2 hj)
  simp at this; exact h this
theorem riseB_yes {zs : List Int} (h : ∀ j, j + 1 < zs.length → nth zs j < nth zs (j + 1)) : riseB zs = true :=
  List.all_eq_true.2 fun j hj => by
    cases j with
    | zero => rfl
    | succ j => simp; exact h j (List.mem_range.1 hj)
theorem riseB_iff {zs : List Int} : riseB zs = true ↔ ∀ j, j + 1 < zs.length → nth zs j < nth zs (j + 1) :=
  ⟨fun ha j hj => by have := List.all_eq_true.1 ha (j + 1) (List.mem_range.2 hj); simpa using this, riseB_yes⟩
theorem rise_lt {zs : List Int} (h : riseB zs = true) {i j : Nat} (hij : i < j) (hj : j < zs.length) : nth zs i < nth zs j := by
  induction j with
  | zero => omega
  | succ j ih =>
    have h1 := riseB_iff.1 h j hj
    by_cases e : i = j
    · subst e; exact h1
    · have := ih (by omega) (by omega); omega
theorem rise_len {zs : List Int} {n : Nat} (h : riseB zs = true) (h0 : ∀ j, j < zs.length → 0 ≤ nth zs j ∧ nth zs j < n) : zs.length ≤ n := by
  have hj : ∀ j, j < zs.length → (j : Int) ≤ nth zs j := by
    intro j
    induction j with
    | zero => intro h1; exact (h0 0 h1).1
    | succ j ih => intro h1; have := ih (by omega); have := riseB_iff.1 h j h1; omega
  by_cases e : zs.length = 0
  · omega
  · have := hj (zs.length - 1) (by omega); have := h0 (zs.length - 1) (by omega); omega

set_option maxRecDepth 100000
end Go.Proofs.YtgccidkkfalaeaaGreatDoor
/- Contracts: events of a tree, the sum of their weights, what two lists have in common. -/
namespace Go.Proofs.YtgccidkkfalaeaaGreatDoor
open Go.ChangeShapes Go.WideShapes Go.ChangeAt Go.RowKit

/-- All of a list are ends of the tree. -/
def evIn (xs zs : List Int) : Bool := (List.range zs.length).all fun j => isNd xs.length (nth zs j) && noKid xs xs.length (nth zs j).toNat
/-- An event of a valid tree. -/
def isEv (xs zs : List Int) : Bool := evIn xs zs && riseB zs
theorem evIn_no {xs zs : List Int} {j : Nat} (hj : j < zs.length) (h : (isNd xs.length (nth zs j) && noKid xs xs.length (nth zs j).toNat) = false) : evIn xs zs = false := by
  rw [Bool.eq_false_iff]; intro ha
  have := List.all_eq_true.1 ha j (List.mem_range.2 hj)
  rw [h] at this; cases this
theorem evIn_iff {xs zs : List Int} : evIn xs zs = true ↔ ∀ j, j < zs.length → isNd xs.length (nth zs j) = true ∧ noKid xs xs.length (nth zs j).toNat = true :=
  ⟨fun ha j hj => Bool.and_eq_true_iff.1 (List.all_eq_true.1 ha j (List.mem_range.2 hj)), fun h => List.all_eq_true.2 fun j hj => Bool.and_eq_true_iff.2 (h j (List.mem_range.1 hj))⟩
theorem ev_node {xs zs : List Int} (h : isEv xs zs = true) : ∀ j, j < zs.length → ∃ q : Nat, nth zs j = q ∧ q < xs.length := fun j hj =>
  nd_nat (evIn_iff.1 (Bool.and_eq_true_iff.1 h).1 j hj).1
theorem ev_len {xs zs : List Int} (h : isEv xs zs = true) : zs.length ≤ xs.length :=
  rise_len (Bool.and_eq_true_iff.1 h).2 fun j hj => by obtain ⟨q, h1, h2⟩ := ev_node h j hj; omega

/-- The sum of the weights of the first k numbers of a list of nodes. -/
def sumW (ys zs : List Int) : Nat → Int
  | 0 => 0
  | k + 1 => sumW ys zs k + nth ys (nth zs k).toNat
theorem sumW_bd {xs ys : List Int} (hg : good xs ys = true) (zs : List Int) (k : Nat) : 0 ≤ sumW ys zs k ∧ sumW ys zs k ≤ 20 * (k : Int) := by
  induction k with
  | zero => simp [sumW]
  | succ k ih => rw [sumW]; have := good_wt hg (nth zs k).toNat; omega
def heavy (ys zs : List Int) : Int := sumW ys zs zs.length

/-- What is in both of two lists, among the first k numbers of the first one. -/
def bothK (a b : List Int) (k : Nat) : List Int := (a.take k).filter (hasB b)
def bothL (a b : List Int) : List Int := a.filter (hasB b)
theorem bothK_all (a b : List Int) : bothK a b a.length = bothL a b := by simp [bothK, bothL]
theorem bothK_yes {a b : List Int} {k : Nat} (h : k < a.length) (hb : hasB b (nth a k) = true) : bothK a b (k + 1) = bothK a b k ++ [nth a k] := by
  have e : nth a k = a[k] := by simp [nth, List.getD, h]
  unfold bothK
  rw [List.take_succ_eq_append_getElem h, List.filter_append, ← e]
  simp [hb]
theorem bothK_no {a b : List Int} {k : Nat} (h : k < a.length) (hb : hasB b (nth a k) = false) : bothK a b (k + 1) = bothK a b k := by
  have e : nth a k = a[k] := by simp [nth, List.getD, h]
  unfold bothK
  rw [List.take_succ_eq_append_getElem h, List.filter_append, ← e]
  simp [hb]
theorem bothK_len (a b : List Int) (k : Nat) : (bothK a b k).length ≤ k := by
  unfold bothK
  exact Nat.le_trans (List.length_filter_le _ _) (List.length_take_le _ _)
theorem bothL_len (a b : List Int) : (bothL a b).length ≤ a.length := List.length_filter_le _ _
theorem bothL_nth {a b : List Int} {j : Nat} (h : j < (bothL a b).length) : ∃ i, i < a.length ∧ nth (bothL a b) j = nth a i := by
  have h1 := List.mem_filter.1 (nth_mem h)
  obtain ⟨i, hi, he⟩ := mem_nth h1.1
  exact ⟨i, hi, he.symm⟩

end Go.Proofs.YtgccidkkfalaeaaGreatDoor
