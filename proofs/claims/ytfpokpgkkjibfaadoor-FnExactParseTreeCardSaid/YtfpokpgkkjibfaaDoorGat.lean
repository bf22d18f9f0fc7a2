/- Plain: numbers gathered from the nodes up to the root. -/
import Derived.Test.YtfpokpgkkjibfaaDoorRowB
namespace Go.Proofs.YtfpokpgkkjibfaaDoor
open Go.ChangeShapes Go.WideShapes Go.ChangeAt Go.RowKit

/-- Nodes k, .., 1, each added to its parent. -/
def gat (xs : List Int) : List Int → Nat → List Int
  | L, 0 => L
  | L, k + 1 => gat xs (L.set (nth xs (k + 1)).toNat (nth L (nth xs (k + 1)).toNat + nth L (k + 1))) k
theorem gat_len (xs L : List Int) (k : Nat) : (gat xs L k).length = L.length := by
  induction k generalizing L with
  | zero => rfl
  | succ k ih => rw [gat, ih]; simp
def asum (L : List Int) : Nat → Nat
  | 0 => 0
  | k + 1 => asum L k + (nth L k).natAbs
def isum (L : List Int) : Nat → Int
  | 0 => 0
  | k + 1 => isum L k + nth L k
theorem asum_set {L : List Int} {p : Nat} (v : Int) (hp : p < L.length) (k : Nat) (h : p < k) : asum (L.set p v) k + (nth L p).natAbs = asum L k + v.natAbs := by
  induction k with
  | zero => omega
  | succ k ih =>
    have hs : ∀ j, j ≤ p → asum (L.set p v) j = asum L j := by
      intro j hj
      induction j with
      | zero => rfl
      | succ j jh => rw [asum, asum, jh (by omega), nth_set _ _ _ _ hp]; simp; omega
    rw [asum, asum, nth_set _ _ _ _ hp]
    by_cases e : k = p
    · subst e; rw [hs _ (Nat.le_refl _)]; simp; omega
    · have := ih (by omega); simp [e]; omega
theorem isum_set {L : List Int} {p : Nat} (v : Int) (hp : p < L.length) (k : Nat) (h : p < k) : isum (L.set p v) k + nth L p = isum L k + v := by
  induction k with
  | zero => omega
  | succ k ih =>
    have hs : ∀ j, j ≤ p → isum (L.set p v) j = isum L j := by
      intro j hj
      induction j with
      | zero => rfl
      | succ j jh => rw [isum, isum, jh (by omega), nth_set _ _ _ _ hp]; simp; omega
    rw [isum, isum, nth_set _ _ _ _ hp]
    by_cases e : k = p
    · subst e; rw [hs _ (Nat.le_refl _)]; simp; omega
    · have := ih (by omega); simp [e]; omega
theorem nth_asum (L : List Int) (k j : Nat) (h : j < k) : (nth L j).natAbs ≤ asum L k := by
  induction k with
  | zero => omega
  | succ k ih =>
    rw [asum]
    by_cases e : j = k
    · subst e; omega
    · have := ih (by omega); omega
/-- Bounds while the nodes above k are done. -/
def OkL (T : Nat) (L : List Int) (k : Nat) : Prop := (∀ j, (nth L j).natAbs ≤ T) ∧ asum L (k + 1) ≤ T
theorem OkL.start {L : List Int} {k : Nat} (h : L.length ≤ k + 1) : OkL (asum L (k + 1)) L k := by
  refine ⟨fun j => ?_, Nat.le_refl _⟩
  by_cases e : j < k + 1
  · exact nth_asum L _ j e
  · rw [nth_out (by omega)]; simp
theorem OkL.step {T : Nat} {L : List Int} {k p : Nat} (h : OkL T L (k + 1)) (hp : p ≤ k) (hl : k + 1 < L.length) : OkL T (L.set p (nth L p + nth L (k + 1))) k := by
  have h1 := asum_set (nth L p + nth L (k + 1)) (show p < L.length by omega) (k + 1) (by omega)
  have h2 : asum L (k + 2) ≤ T := h.2
  rw [asum] at h2
  have h3 : (nth L p + nth L (k + 1)).natAbs ≤ (nth L p).natAbs + (nth L (k + 1)).natAbs := Int.natAbs_add_le _ _
  have h4 : asum (L.set p (nth L p + nth L (k + 1))) (k + 1) ≤ T := by omega
  refine ⟨fun j => ?_, h4⟩
  rw [nth_set _ _ _ _ (by omega)]
  by_cases e : j = p
  · have h5 := nth_asum L (k + 1) p (by omega)
    rw [if_pos e]; omega
  · rw [if_neg e]; exact h.1 j
theorem gat_ok {xs : List Int} {T : Nat} (k : Nat) (hu : ∀ j, 1 ≤ j → j ≤ k → ∃ p : Nat, nth xs j = p ∧ p < j) : ∀ {L : List Int}, k < L.length → OkL T L k → ∀ j, (nth (gat xs L k) j).natAbs ≤ T := by
  induction k with
  | zero => intro L _ h j; exact h.1 j
  | succ k ih =>
    intro L hl h j
    obtain ⟨p, hp, hpk⟩ := hu (k + 1) (by omega) (Nat.le_refl _)
    rw [gat, hp]
    exact ih (fun j h1 h2 => hu j h1 (by omega)) (by simp; omega) (h.step (by omega) hl) j
theorem gat_root {xs : List Int} (k : Nat) (hu : ∀ j, 1 ≤ j → j ≤ k → ∃ p : Nat, nth xs j = p ∧ p < j) : ∀ {L : List Int}, k < L.length → nth (gat xs L k) 0 = isum L (k + 1) := by
  induction k with
  | zero => intro L _; simp [gat, isum]
  | succ k ih =>
    intro L hl
    obtain ⟨p, hp, hpk⟩ := hu (k + 1) (by omega) (Nat.le_refl _)
    rw [gat, hp]
    show nth (gat xs (L.set p (nth L p + nth L (k + 1))) k) 0 = _
    rw [ih (fun j h1 h2 => hu j h1 (by omega)) (by simp; omega)]
    have := isum_set (nth L p + nth L (k + 1)) (show p < L.length by omega) (k + 1) (by omega)
    rw [show isum L (k + 1 + 1) = isum L (k + 1) + nth L (k + 1) from rfl]
    omega
theorem gat_pos {xs : List Int} (k : Nat) : ∀ {L : List Int}, (∀ j, 0 ≤ nth L j) → ∀ j, nth L j ≤ nth (gat xs L k) j := by
  induction k with
  | zero => intro L _ j; exact Int.le_refl _
  | succ k ih =>
    intro L h j
    rw [gat]
    have hst : ∀ j, nth L j ≤ nth (L.set (nth xs (k + 1)).toNat (nth L (nth xs (k + 1)).toNat + nth L (k + 1))) j := fun j => by
      by_cases hp : (nth xs (k + 1)).toNat < L.length
      · rw [nth_set _ _ _ _ hp]
        by_cases e : j = (nth xs (k + 1)).toNat
        · rw [if_pos e, e]; have := h (k + 1); omega
        · rw [if_neg e]; exact Int.le_refl _
      · rw [List.set_eq_of_length_le (by omega)]; exact Int.le_refl _
    exact Int.le_trans (hst j) (ih (fun j => Int.le_trans (h j) (hst j)) j)
theorem asum_le {L : List Int} {M : Nat} (h : ∀ j, (nth L j).natAbs ≤ M) (k : Nat) : asum L k ≤ k * M := by
  induction k with
  | zero => simp [asum]
  | succ k ih => rw [asum, Nat.add_mul]; have := h k; omega
end Go.Proofs.YtfpokpgkkjibfaaDoor
