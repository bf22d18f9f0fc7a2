/- Sums over a good tree. -/
import Derived.Test.YtfpokpgkkjibfaaDoorSums
namespace Go.Proofs.YtfpokpgkkjibfaaDoor
open Go.ChangeShapes Go.WideShapes Go.ChangeAt Go.RowKit

theorem own_one (W : World) (B g : Nat) (v : Int) (hg : g = W.heap.size) (hB : B ≤ g) : (W.alloc (.cells #[.int .i64 v] 3)).ownsRow B 3 1 (.slice (some ⟨g, 0, none⟩) 1 1) 1 [.int .i64 v] := by
  subst hg
  exact ⟨rfl, .inr ⟨W.heap.size, 1, #[.int .i64 v], rfl, hB, heap_alloc_new W _, Nat.le_refl _, by simp [maxLen], rfl, rfl⟩⟩
theorem i64s_one (M : List Int) : ∀ u ∈ i64s M, u.oneCell' = true := by intro u hu; simp [i64s] at hu; obtain ⟨a, _, rfl⟩ := hu; rfl
theorem i64s_len (M : List Int) : (i64s M).length = M.length * 1 := by simp [i64s]

def sumsL (xs ys : List Int) : List Int := gat xs ys (xs.length - 1)
theorem good_wt {xs ys : List Int} (h : good xs ys = true) (j : Nat) : 0 ≤ nth ys j ∧ nth ys j ≤ 20 := by
  by_cases hj : j < xs.length
  · have := (good_iff.1 h).2.2 j hj
    unfold wtOk at this
    split at this
    · have := of_decide_eq_true this; omega
    · have : nth ys j = 0 := by simpa using this
      omega
  · have hl := (good_len h).2.2
    rw [nth_out (by omega)]; omega
theorem good_ok {xs ys : List Int} (h : good xs ys = true) : OkL 480 ys (xs.length - 1) := by
  have hl := good_len h
  have h1 := OkL.start (L := ys) (k := xs.length - 1) (by omega)
  have h2 := asum_le (L := ys) (M := 20) (fun j => by have := good_wt h j; omega) (xs.length - 1 + 1)
  have h3 : asum ys (xs.length - 1 + 1) ≤ 480 := by omega
  exact ⟨fun j => Nat.le_trans (h1.1 j) h3, h3⟩
theorem good_up {xs ys : List Int} (h : good xs ys = true) : ∀ j, 1 ≤ j → j ≤ xs.length - 1 → ∃ p : Nat, nth xs j = p ∧ p < j := fun _ h1 h2 => up_nat (good_iff.1 h).2.1 h1 (by have := good_len h; omega)
theorem good_upL {xs ys : List Int} (h : good xs ys = true) : ∀ j, 1 ≤ j → j < xs.length → ∃ p : Nat, nth xs j = p ∧ p < j := fun _ h1 h2 => up_nat (good_iff.1 h).2.1 h1 h2
theorem good_root {xs ys : List Int} (h : good xs ys = true) : nth xs 0 = -1 := (good_iff.1 h).1.2.2
theorem sums_bd {xs ys : List Int} (h : good xs ys = true) (j : Nat) : 0 ≤ nth (sumsL xs ys) j ∧ nth (sumsL xs ys) j ≤ 480 := by
  have hl := good_len h
  have h1 := gat_ok (xs.length - 1) (good_up h) (show xs.length - 1 < ys.length by omega) (good_ok h) j
  have h2 := gat_pos (xs := xs) (xs.length - 1) (L := ys) (fun j => (good_wt h j).1) j
  have h3 := (good_wt h j).1
  unfold sumsL
  omega
theorem sums_len {xs ys : List Int} (h : good xs ys = true) : (sumsL xs ys).length = xs.length := by
  unfold sumsL; rw [gat_len]; exact (good_len h).2.2
/-- The last node is an end: its weight is 1 or more. -/
theorem last_end {xs ys : List Int} (h : good xs ys = true) : 1 ≤ nth ys (xs.length - 1) := by
  have hl := good_len h
  have := (good_iff.1 h).2.2 (xs.length - 1) (by omega)
  have hk : noKid xs xs.length (xs.length - 1) = true := by
    unfold noKid
    simp only [List.all_eq_true, List.mem_range]
    intro y hy
    simp only [bne_iff_ne, ne_eq]
    by_cases e : y = 0
    · subst e; have := (good_iff.1 h).1.2.2; omega
    · obtain ⟨p, hp, hpy⟩ := good_up h y (by omega) (by omega)
      omega
  unfold wtOk at this
  rw [hk] at this
  have := of_decide_eq_true this
  omega
theorem isum_ge {L : List Int} (h : ∀ j, 0 ≤ nth L j) (k j : Nat) (hj : j < k) : nth L j ≤ isum L k := by
  have h0 : ∀ k, 0 ≤ isum L k := by
    intro k
    induction k with
    | zero => exact Int.le_refl _
    | succ k ih => rw [isum]; have := h k; omega
  induction k with
  | zero => omega
  | succ k ih =>
    rw [isum]
    by_cases e : j = k
    · subst e; have := h0 j; omega
    · have := ih (by omega); have := h k; omega
theorem sums_root {xs ys : List Int} (h : good xs ys = true) : 1 ≤ nth (sumsL xs ys) 0 := by
  have hl := good_len h
  unfold sumsL
  rw [gat_root (xs.length - 1) (good_up h) (by omega)]
  have := isum_ge (fun j => (good_wt h j).1) (xs.length - 1 + 1) (xs.length - 1) (by omega)
  have := last_end h
  omega
end Go.Proofs.YtfpokpgkkjibfaaDoor
