/- Contract: slices.Reverse at a block of ints of the program's own. -/
import Derived.Test.YtombfbmcplefgaaApp
namespace Go.Proofs.Ytombfbmcplefgaa
open Go.ChangeShapes Go.WideShapes Go.ChangeAt Go.RowKit

/-- A list whose first k and last k have been exchanged. -/
def revK (L : List Int) (k : Nat) : List Int := (List.range L.length).map fun j => if j < k ∨ L.length ≤ j + k then nth L (L.length - 1 - j) else nth L j
theorem revK_len (L : List Int) (k : Nat) : (revK L k).length = L.length := by simp [revK]
theorem revK_nth (L : List Int) (k j : Nat) (hj : j < L.length) : nth (revK L k) j = if j < k ∨ L.length ≤ j + k then nth L (L.length - 1 - j) else nth L j := by
  simp [revK, nth, List.getD, hj]
theorem list_nth {L M : List Int} (hl : L.length = M.length) (h : ∀ j, j < L.length → nth L j = nth M j) : L = M := by
  apply List.ext_getElem hl
  intro j h1 h2
  have := h j h1
  simpa [nth, List.getD, h1, h2] using this
theorem revK_zero (L : List Int) : revK L 0 = L := by
  refine list_nth (revK_len _ _) fun j hj => ?_
  rw [revK_len] at hj
  rw [revK_nth _ _ _ hj, if_neg (by omega)]
theorem revK_all (L : List Int) (k : Nat) (h : L.length ≤ 2 * k + 1) : revK L k = L.reverse := by
  refine list_nth (by simp [revK_len]) fun j hj => ?_
  rw [revK_len] at hj
  have hr : nth L.reverse j = nth L (L.length - 1 - j) := by
    unfold nth List.getD
    rw [List.getElem?_reverse hj]
  rw [revK_nth _ _ _ hj, hr]
  by_cases e : j < k ∨ L.length ≤ j + k
  · rw [if_pos e]
  · rw [if_neg e]; congr 1; omega
theorem revK_step (L : List Int) (k : Nat) (h : 2 * k + 1 < L.length) : ((revK L k).set k (nth L (L.length - 1 - k))).set (L.length - 1 - k) (nth L k) = revK L (k + 1) := by
  refine list_nth (by simp [revK_len]) fun j hj => ?_
  simp [revK_len] at hj
  rw [nth_set _ _ _ _ (by simp [revK_len]; omega), nth_set _ _ _ _ (by simp [revK_len]; omega), revK_nth _ _ _ hj, revK_nth _ _ _ hj]
  by_cases e1 : j = L.length - 1 - k
  · rw [if_pos e1, if_pos (by omega)]; congr 1; omega
  · rw [if_neg e1]
    by_cases e2 : j = k
    · subst e2; rw [if_pos rfl, if_pos (by omega)]
    · rw [if_neg e2]
      by_cases e3 : j < k ∨ L.length ≤ j + k
      · rw [if_pos e3, if_pos (by omega)]
      · rw [if_neg e3, if_neg (by omega)]

set_option maxHeartbeats 1000000 in
set_option maxRecDepth 100000 in
theorem reverse_row (g c : Nat) (L : List Int) (w : World) (h : Row w g L) (hn : L.length ≤ 1000000) :
    Calls Try.prog 156 #[.slice (some ⟨g, 0, none⟩) L.length c] w fun e w' => e = .returned (.tuple #[]) ∧ Row w' g L.reverse ∧ KeptBut w w' g g := by
  obtain ⟨n, hn'⟩ : ∃ n, n = L.length := ⟨_, rfl⟩
  have HN : Hid (n = L.length) := hn'
  rw [← hn'] at hn ⊢
  clear hn'
  have h0 : Row w g (revK L 0) := by rw [revK_zero]; exact h
  clear h
  go_enter Try.func156, Try.ntmps156
  go_wp2
  go_loopw [2, 3] (fun i j wr => ∃ k : Nat, 2 * k ≤ n + 1 ∧ i = .int .i64 k ∧ j = .int .i64 ((n : Int) - 1 - k) ∧ Row wr g (revK L k) ∧ KeptBut w wr g g) (fun i _ _ => n - (intOf i).toNat)
  case atStart => exact ⟨0, by omega, rfl, by go_num, h0, rfl, rfl, rfl, Nat.le_refl _, fun _ _ _ _ => rfl⟩
  case round =>
    clear h0
    obtain ⟨k, hk, rfl, rfl, hrow, hkp⟩ := hrel
    by_cases hlt : 2 * k + 1 < n
    · obtain ⟨m, hm⟩ : ∃ m, n = m + k + 1 := ⟨n - k - 1, by omega⟩
      have HM := Lib.hid hm
      have hmk : k < m := by omega
      have hmn : m < n := by omega
      have hkn : k < n := by omega
      have em : ((n : Int) - 1 - k) = (m : Int) := by omega
      have em' : ((n : Int) - 1 - (k : Int)) - 1 = (n : Int) - 1 - ((k + 1 : Nat) : Int) := by omega
      have hck := hrow.cell (j := k) (by rw [revK_len, ← HN.out]; omega)
      have hcm := hrow.cell (j := m) (by rw [revK_len, ← HN.out]; omega)
      have hfk := hrow.frozen k
      have hfm := hrow.frozen m
      rw [revK_nth _ _ _ (by rw [← HN.out]; omega), if_neg (by rw [← HN.out]; omega)] at hck hcm
      have hs := revK_step L k (by rw [← HN.out]; exact hlt)
      rw [show L.length - 1 - k = m from by rw [← HN.out]; omega] at hs
      obtain ⟨a, ha⟩ : ∃ a, nth L k = a := ⟨_, rfl⟩
      obtain ⟨b, hb⟩ : ∃ b, nth L m = b := ⟨_, rfl⟩
      rw [ha] at hck hs
      rw [hb] at hcm hs
      have HS := Lib.hid hs
      have HR := Lib.hid hrow
      have HE := Lib.hid em'
      rw [em]
      clear ha hb hs hrow em em' hm
      go_wp2
      go_region
      go_wp2
      go_roundw
      case rel => exact ⟨k + 1, by omega, by go_num, by rw [show (n : Int) - 1 - ((k + 1 : Nat) : Int) = (m : Int) - 1 from by have := HM.out; omega], (by rw [← HS.out]; exact (HR.out.set (by rw [revK_len, ← HN.out]; exact hkn) b).set (by rw [List.length_set, revK_len, ← HN.out]; exact hmn) a), ((hkp.setg k _).setg m _).drew⟩
      case measure => simp [intOf]; omega
    · have hall := revK_all L k (by rw [← HN.out]; omega)
      rw [hall] at hrow
      clear hall
      go_wp2
      go_end0
      exact ⟨rfl, hrow, hkp⟩
end Go.Proofs.Ytombfbmcplefgaa
