/- FnExactChecksum: the program's Checksum and the reference's return the same, for every string. No condition. -/
import Derived.Test.YtfpokpgkkjibfaaDoorBase
namespace Go.Proofs.YtfpokpgkkjibfaaDoor
open Go.ChangeShapes Go.WideShapes Go.ChangeAt Go.RowKit
open Go.ChangeMaps (open_string shut_string)

def csum (l : List UInt8) : Int := l.foldl (fun h c => (41 * h + (c.toNat : Int) + 1) % 999979) 7
theorem csum_bd (l : List UInt8) : 0 ≤ csum l ∧ csum l < 999979 := by
  unfold csum
  suffices h : ∀ a : Int, 0 ≤ a → a < 999979 → 0 ≤ l.foldl (fun h c => (41 * h + (c.toNat : Int) + 1) % 999979) a ∧ l.foldl (fun h c => (41 * h + (c.toNat : Int) + 1) % 999979) a < 999979 from h 7 (by omega) (by omega)
  induction l with
  | nil => intro a h0 h1; exact ⟨h0, h1⟩
  | cons c l ih => intro a h0 h1; exact ih _ (by dsimp only; omega) (by dsimp only; omega)
theorem take_snoc (s : ByteArray) (k : Nat) (h : k < s.size) : s.data.toList.take (k + 1) = s.data.toList.take k ++ [s[k]] := by
  rw [List.take_succ_eq_append_getElem (by simpa using h)]; rfl
theorem csum_snoc (l : List UInt8) (c : UInt8) : csum (l ++ [c]) = (41 * csum l + (c.toNat : Int) + 1) % 999979 := by
  unfold csum; rw [List.foldl_append]; rfl

set_option maxHeartbeats 400000 in
theorem l1Sum_any (s : ByteArray) (w : World) (hs : s.size ≤ maxLen) :
    Calls Tryd.prog 80 #[.string s] w fun e w' => e = .returned (.int .i64 (csum s.data.toList)) ∧ w = w' := by
  unfold maxLen at hs
  go_enter Tryd.func80, Tryd.ntmps80
  go_wp2
  go_loop [3, 4] (fun n i => ∃ k : Nat, k ≤ s.size ∧ i = .int .i64 k ∧ n = .int .i64 (csum (s.data.toList.take k))) (fun _ i => s.size - (intOf i).toNat)
  case atStart => exact ⟨0, Nat.zero_le _, rfl, rfl⟩
  case round =>
    obtain ⟨k, hk, rfl, rfl⟩ := hrel
    have hd := csum_bd (s.data.toList.take k)
    obtain ⟨hd0, hd1⟩ := hd
    by_cases hlt : k < s.size
    · have hsn := csum_snoc (s.data.toList.take k) s[k]
      have hts := take_snoc s k hlt
      have HS : Hid (csum (s.data.toList.take (k + 1)) = (41 * csum (s.data.toList.take k) + (s[k].toNat : Int) + 1) % 999979) := by rw [hts]; exact hsn
      clear hsn hts
      have hb : s[k].toNat < 256 := s[k].toNat_lt
      go_wp2
      all_goals
        go_round
        case rel => exact ⟨k + 1, by omega, by go_num, by rw [HS.out]⟩
        case measure => simp [intOf]; omega
    · go_wp2
      go_ret
      exact ⟨ret_int (by rw [List.take_of_length_le (by simp; omega)]), rfl⟩

set_option maxHeartbeats 400000 in
theorem checksum_any (s : ByteArray) (w : World) (hs : s.size ≤ maxLen) :
    Calls Tryd.prog 58 #[.string s] w fun e w' => e = .returned (.int .i64 (csum s.data.toList)) ∧ w = w' := by
  unfold maxLen at hs
  go_enter Tryd.func58, Tryd.ntmps58
  go_wp2
  go_loop [3, 7] (fun n i => ∃ k : Nat, k ≤ s.size ∧ i = .int .i64 k ∧ n = .int .i64 (csum (s.data.toList.take k))) (fun _ i => s.size - (intOf i).toNat)
  case atStart => exact ⟨0, Nat.zero_le _, rfl, rfl⟩
  case round =>
    obtain ⟨k, hk, rfl, rfl⟩ := hrel
    have hd := csum_bd (s.data.toList.take k)
    obtain ⟨hd0, hd1⟩ := hd
    by_cases hlt : k < s.size
    · have hsn := csum_snoc (s.data.toList.take k) s[k]
      have hts := take_snoc s k hlt
      have HS : Hid (csum (s.data.toList.take (k + 1)) = (41 * csum (s.data.toList.take k) + (s[k].toNat : Int) + 1) % 999979) := by rw [hts]; exact hsn
      clear hsn hts
      have hb : s[k].toNat < 256 := s[k].toNat_lt
      go_wp2
      all_goals
        go_round
        case rel => exact ⟨k + 1, by omega, by go_num, by rw [HS.out]⟩
        case measure => simp [intOf]; omega
    · go_wp2
      go_ret
      exact ⟨ret_int (by rw [List.take_of_length_le (by simp; omega)]), rfl⟩

def ckV (s : ByteArray) : Value := if s.size ≤ 4000 then .tuple #[.int .i64 (csum s.data.toList), .bool true] else .tuple #[.int .i64 0, .bool false]

namespace fnExactChecksum
end fnExactChecksum
end Go.Proofs.YtfpokpgkkjibfaaDoor
