/- Contracts of the statements' helpers on lists of ints and on trees: sizes and copies. -/
import Derived.Test.YtfpokpgkkjibfaaDoorTreeH
namespace Go.Proofs.YtfpokpgkkjibfaaDoor
open Go.ChangeShapes Go.WideShapes Go.ChangeAt Go.RowKit

theorem szIntS_yes (A : Option Addr) (n c : Nat) (left : Int) (w : World) (h0 : 0 ≤ left) (h1 : left ≤ 1048576) (hn : (n : Int) ≤ left) :
    Calls Tryd.prog 73 #[.slice A n c, .int .i64 left] w fun e w' => e = .returned (.int .i64 (left - n)) ∧ w = w' := by
  go_enter Tryd.func73, Tryd.ntmps73
  go_wp2
  go_ret
  exact ⟨rfl, rfl⟩
theorem szIntS_no (A : Option Addr) (n c : Nat) (left : Int) (w : World) (h0 : 0 ≤ left) (h1 : left ≤ 1048576) (hm : n ≤ maxLen) (hn : left < (n : Int)) :
    Calls Tryd.prog 73 #[.slice A n c, .int .i64 left] w fun e w' => e = .returned (.int .i64 (-1)) ∧ w = w' := by
  unfold maxLen at hm
  go_enter Tryd.func73, Tryd.ntmps73
  go_wp2
  go_ret
  exact ⟨rfl, rfl⟩

set_option maxHeartbeats 400000 in
theorem szTree_yes (A B : Option Addr) (n c m e : Nat) (w : World) (hn : n + m ≤ 1048576) :
    Calls Tryd.prog 42 #[.agg #[.slice A n c, .slice B m e], .int .i64 1048576] w fun e w' => e = .returned (.int .i64 (1048576 - n - m)) ∧ Below w.heap.size w w' := by
  go_enter Tryd.func42, Tryd.ntmps42
  go_wp2_with fail
  refine (szIntS_yes A n c _ _ (by omega) (by omega) (by omega)).mono ?_; rintro e w1 ⟨rfl, rfl⟩
  go_wp2_with fail
  refine (szIntS_yes B m _ _ _ (by omega) (by omega) (by omega)).mono ?_; rintro e w1 ⟨rfl, rfl⟩
  go_wp2
  go_ret
  exact ⟨rfl, by (repeat (first | with_reducible exact Below.refl _ _ | with_reducible assumption | with_reducible refine Below.alloc' ?_ ?_ _ | with_reducible refine Below.setCell' ?_ ?_ _ | with_reducible refine Below.drewN' ?_ _ | with_reducible refine Below.drew ?_ | with_reducible refine Below.transA ?_ (by assumption) ?_ | omega | (focus (simp; done)) | (focus (simp; omega))))⟩
set_option maxHeartbeats 400000 in
theorem szTree_no (A B : Option Addr) (n c m e : Nat) (w : World) (hn : n ≤ maxLen) (hm : m ≤ maxLen) (h : 1048576 < n + m) :
    Calls Tryd.prog 42 #[.agg #[.slice A n c, .slice B m e], .int .i64 1048576] w fun e w' => e = .returned (.int .i64 (-1)) ∧ Below w.heap.size w w' := by
  by_cases h1 : n ≤ 1048576
  · go_enter Tryd.func42, Tryd.ntmps42
    go_wp2_with fail
    refine (szIntS_yes A n c _ _ (by omega) (by omega) (by omega)).mono ?_; rintro e w1 ⟨rfl, rfl⟩
    go_wp2_with fail
    refine (szIntS_no B m _ _ _ (by omega) (by omega) hm (by omega)).mono ?_; rintro e w1 ⟨rfl, rfl⟩
    go_wp2
    go_ret
    exact ⟨rfl, by (repeat (first | with_reducible exact Below.refl _ _ | with_reducible assumption | with_reducible refine Below.alloc' ?_ ?_ _ | with_reducible refine Below.setCell' ?_ ?_ _ | with_reducible refine Below.drewN' ?_ _ | with_reducible refine Below.drew ?_ | with_reducible refine Below.transA ?_ (by assumption) ?_ | omega | (focus (simp; done)) | (focus (simp; omega))))⟩
  · go_enter Tryd.func42, Tryd.ntmps42
    go_wp2_with fail
    refine (szIntS_no A n c _ _ (by omega) (by omega) hn (by omega)).mono ?_; rintro e w1 ⟨rfl, rfl⟩
    go_wp2
    go_ret
    exact ⟨rfl, by (repeat (first | with_reducible exact Below.refl _ _ | with_reducible assumption | with_reducible refine Below.alloc' ?_ ?_ _ | with_reducible refine Below.setCell' ?_ ?_ _ | with_reducible refine Below.drewN' ?_ _ | with_reducible refine Below.drew ?_ | with_reducible refine Below.transA ?_ (by assumption) ?_ | omega | (focus (simp; done)) | (focus (simp; omega))))⟩

/-- The first k of a list, and zeros up to its length. -/
def fillI (xs : List Int) (k : Nat) : Array Value := (i64s (xs.take k) ++ List.replicate (xs.length - k) (Value.int .i64 0)).toArray
theorem fillI_zero (xs : List Int) : fillI xs 0 = Array.replicate xs.length (Value.int .i64 0) := by simp [fillI, i64s]
theorem fillI_full (xs : List Int) : fillI xs xs.length = (i64s xs).toArray := by simp [fillI, i64s]
theorem fillI_size (xs : List Int) (k : Nat) (hk : k ≤ xs.length) : (fillI xs k).size = xs.length := by
  simp [fillI, i64s]; omega
theorem fillI_set (xs : List Int) (k : Nat) (hk : k < xs.length) : (fillI xs k).setIfInBounds k (.int .i64 (nth xs k)) = fillI xs (k + 1) := by
  apply Array.ext
  · rw [Array.size_setIfInBounds, fillI_size _ _ (by omega), fillI_size _ _ (by omega)]
  · intro i h1 h2
    rw [Array.size_setIfInBounds, fillI_size _ _ (by omega)] at h1
    rw [Array.getElem_setIfInBounds (by rw [fillI_size _ _ (by omega)]; omega)]
    split
    · rename_i h; subst h
      simp only [fillI, List.getElem_toArray]
      rw [List.getElem_append_left (by simp [i64s]; omega)]
      simp [i64s, nth, List.getD, List.getElem?_eq_getElem hk]
    · rename_i h
      simp only [fillI, List.getElem_toArray]
      by_cases hi : i < k
      · rw [List.getElem_append_left (by simp [i64s]; omega), List.getElem_append_left (by simp [i64s]; omega)]
        simp [i64s]
      · rw [List.getElem_append_right (by simp [i64s]; omega), List.getElem_append_right (by simp [i64s]; omega)]
        simp
theorem fillI_at (xs : List Int) (k : Nat) (hk : k < xs.length) : ∃ u, (fillI xs k)[k]? = some u := ⟨_, Array.getElem?_eq_getElem (by rw [fillI_size _ _ (by omega)]; exact hk)⟩
theorem madeI (n : Nat) : madeCells #[.int .i64 0] n = Array.replicate n (Value.int .i64 0) := by
  apply Array.ext
  · simp [madeCells]
  · intro i h1 h2
    have h0 : i % 1 = 0 := Nat.mod_one i
    simp [madeCells, h0]

theorem info_int : (Tryd.prog.info? 3).map (fun i => (i.zero, i.size, i.bytes)) = some (some (.int .i64 0), 1, 8) := by kernel_rfl
theorem run_makeI (n : Nat) (hn : n ≤ 1048576) (w : World) :
    (Instr.makeSlice 32 (.int .i64 (n : Int)) (.int .i64 (n : Int))).run Tryd.prog w = .ok (.slice (some ⟨w.heap.size, 0, none⟩) n n) (w.alloc (.cells (Array.replicate n (Value.int .i64 0)) 3)) := by
  obtain ⟨i0, hi, hz0, hz1, hz2⟩ := info_parts info_int
  have h := run_make (P := Tryd.prog) w 32 3 i0 (.int .i64 0) Tryd.underlying32 hi hz0 .i64 .i64 (n : Int) (n : Int) (by omega) (Int.le_refl _) (by rw [hz2]; omega) (by omega)
  rw [h, hz1, ← madeI]
  simp [Value.cells]

set_option maxHeartbeats 1000000 in
theorem toIntS_exact (A : Option Addr) (c : Nat) (xs : List Int) (w : World) (h : IntS w A xs) (hn : xs.length ≤ 1048576) :
    Calls Tryd.prog 74 #[.slice A xs.length c] w fun e w' => e = .returned (.slice (some ⟨w.heap.size, 0, none⟩) xs.length xs.length) ∧ w' = w.alloc (.cells (i64s xs).toArray 3) := by
  have hmk := run_makeI xs.length hn
  go_enter Tryd.func74, Tryd.ntmps74
  go_wp2
  go_loopw [4] (fun i wr => ∃ k : Nat, k ≤ xs.length ∧ i = .int .i64 k ∧ wr = w.alloc (.cells (fillI xs k) 3)) (fun i _ => xs.length - (intOf i).toNat)
  case atStart => exact ⟨0, Nat.zero_le _, rfl, by rw [fillI_zero]⟩
  case round =>
    obtain ⟨k, hk, rfl, rfl⟩ := hrel
    by_cases hlt : k < xs.length
    · obtain ⟨b, o, rfl, hc⟩ := h.at_ hlt
      have hb : b < w.heap.size := World.block_lt_of_cell? w _ hc
      have hset := fillI_set xs k hlt
      obtain ⟨u, hu⟩ := fillI_at xs k hlt
      go_wp2
      go_roundw
      case rel => exact ⟨k + 1, by omega, by go_num, rfl⟩
      case measure => simp [intOf]; omega
    · have hk' : k = xs.length := by omega
      have hf : Hid (fillI xs k = (i64s xs).toArray) := by rw [hk']; exact fillI_full xs
      clear hk'
      go_wp2
      go_ret
      exact ⟨rfl, by rw [hf.out]⟩
end Go.Proofs.YtfpokpgkkjibfaaDoor
