/- Contracts: the depths of a tree. -/
import Derived.Test.YtfpokpgkkjibfaaDoorRowX
namespace Go.Proofs.YtfpokpgkkjibfaaDoor
open Go.ChangeShapes Go.WideShapes Go.ChangeAt Go.RowKit

theorem own_cell {w : World} {B n : Nat} {v : Value} {L : List Int} (h : w.ownsRow B 3 1 v n (i64s L)) {j : Nat} (hj : j < L.length) : ∃ g cap, v = .slice (some ⟨g, 0, none⟩) n cap ∧ B ≤ g ∧ w.cell? ⟨g, j, none⟩ = some (.int .i64 (nth L j)) := by
  have hl : L.length = n := by have := h.1; simpa [i64s] using this
  obtain ⟨g, cap, rfl, hB, _⟩ := h.form (by omega)
  refine ⟨g, cap, rfl, hB, ?_⟩
  rw [h.cellAt j (by omega)]
  simp [i64s, nth, List.getD, hj]

/-- The first k depths. -/
def dep (xs : List Int) : Nat → List Int
  | 0 => []
  | 1 => [0]
  | k + 1 => dep xs k ++ [nth (dep xs k) (nth xs k).toNat + 1]
theorem dep_succ (xs : List Int) {k : Nat} (hk : 1 ≤ k) : dep xs (k + 1) = dep xs k ++ [nth (dep xs k) (nth xs k).toNat + 1] := by
  cases k with
  | zero => omega
  | succ k => rfl
theorem dep_len (xs : List Int) (k : Nat) : (dep xs k).length = k := by
  induction k with
  | zero => rfl
  | succ k ih =>
    cases k with
    | zero => rfl
    | succ k => rw [dep_succ xs (by omega)]; simp [ih]
theorem nth_out {L : List Int} {j : Nat} (h : L.length ≤ j) : nth L j = 0 := by
  unfold nth List.getD; rw [List.getElem?_eq_none h]; rfl
theorem dep_bd (xs : List Int) (k j : Nat) : 0 ≤ nth (dep xs k) j ∧ nth (dep xs k) j ≤ k := by
  induction k generalizing j with
  | zero => simp [dep, nth]
  | succ k ih =>
    cases k with
    | zero =>
      have h0 : nth (dep xs (0 + 1)) j = 0 := by
        show nth [0] j = 0
        unfold nth List.getD; cases j <;> simp
      omega
    | succ k =>
      rw [dep_succ xs (by omega)]
      rcases Nat.lt_trichotomy j (k + 1) with h | h | h
      · rw [nth_app_lt (by rw [dep_len]; exact h)]; have := ih j; omega
      · subst h
        have e : (dep xs (k + 1)).length = k + 1 := dep_len _ _
        have := nth_app_eq (L := dep xs (k + 1)) (a := nth (dep xs (k + 1)) (nth xs (k + 1)).toNat + 1)
        rw [e] at this
        rw [this]; have := ih (nth xs (k + 1)).toNat; omega
      · rw [nth_out (by simp [dep_len]; omega)]; omega

theorem up_nat {xs : List Int} (hu : UpOk xs xs.length) {j : Nat} (h1 : 1 ≤ j) (hj : j < xs.length) : ∃ p : Nat, nth xs j = p ∧ p < j := by
  have := of_decide_eq_true (hu j h1 hj)
  exact ⟨(nth xs j).toNat, by omega, by omega⟩

/-- The first k depths, and zeros. -/
def depZ (xs : List Int) (n k : Nat) : List Int := dep xs k ++ List.replicate (n - k) 0
theorem depZ_set (xs : List Int) (n k : Nat) (hk1 : 1 ≤ k) (hk : k < n) : (depZ xs n k).set k (nth (dep xs k) (nth xs k).toNat + 1) = depZ xs n (k + 1) := by
  unfold depZ
  rw [dep_succ xs hk1]
  have e : n - k = (n - (k + 1)) + 1 := by omega
  rw [e, List.replicate_succ, List.set_append_right _ _ (by rw [dep_len]; exact Nat.le_refl _), dep_len]
  simp
theorem depZ_nth (xs : List Int) (n k j : Nat) (hj : j < k) : nth (depZ xs n k) j = nth (dep xs k) j := nth_app_lt (by rw [dep_len]; exact hj)
theorem depZ_len (xs : List Int) (n k : Nat) (hk : k ≤ n) : (depZ xs n k).length = n := by simp [depZ, dep_len]; omega
theorem depZ_one (xs : List Int) (n : Nat) (h : 1 ≤ n) : depZ xs n 1 = List.replicate n 0 := by
  unfold depZ
  show [0] ++ _ = _
  have e : n = (n - 1) + 1 := by omega
  conv => rhs; rw [e, List.replicate_succ]
  rfl
theorem depZ_all (xs : List Int) (n : Nat) : depZ xs n n = dep xs n := by simp [depZ]

noncomputable def depR (xs ys : List Int) : List Int := if good xs ys then dep xs xs.length else []
theorem depR_len (xs ys : List Int) (hn : xs.length ≤ 1048576) : (depR xs ys).length ≤ 2000000 := by
  unfold depR; split
  · rw [dep_len]; omega
  · simp
end Go.Proofs.YtfpokpgkkjibfaaDoor
