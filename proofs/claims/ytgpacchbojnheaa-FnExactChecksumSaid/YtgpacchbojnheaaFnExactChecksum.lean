/- FnExactChecksum: the program's Checksum and the reference's return the same, for every string. No condition. -/
import Derived.Test.YtgpacchbojnheaaBase
namespace Go.Proofs.Ytgpacchbojnheaa
open Go.ChangeShapes Go.WideShapes Go.ChangeAt Go.RowKit
open Go.ChangeMaps (open_string shut_string)

def csum (l : List UInt8) : Int := l.foldl (fun h c => (41 * h + (c.toNat : Int) + 1) % 999979) 7
theorem csum_bd (l : List UInt8) : 0 ≤ csum l ∧ csum l < 999979 := by
  unfold csum
  suffices h : ∀ a : Int, 0 ≤ a → a < 999979 → 0 ≤ l.foldl (fun h c => (41 * h + (c.toNat : Int) + 1) % 999979) a ∧ l.foldl (fun h c => (41 * h + (c.toNat : Int) + 1) % 999979) a < 999979 from h 7 (by omega) (by omega)
  induction l with
  | nil => intro a h0 h1; exact ⟨h0, h1⟩
  | cons c l ih => intro a h0 h1; exact ih _ (by dsimp only; omega) (by dsimp only; omega)
theorem take_snoc (s : ByteArray) (k : Nat) (h : k < s.size) : s.data.toList.take (k + 1) = s.data.toList.take k ++ [s[k]] := by
  rw [List.take_succ_eq_append_getElem (by simpa using h)]; rfl
theorem csum_snoc (l : List UInt8) (c : UInt8) : csum (l ++ [c]) = (41 * csum l + (c.toNat : Int) + 1) % 999979 := by
  unfold csum; rw [List.foldl_append]; rfl

set_option maxHeartbeats 400000 in
theorem l1Sum_any (s : ByteArray) (w : World) (hs : s.size ≤ maxLen) :
    Calls Try.prog 47 #[.string s] w fun e w' => e = .returned (.int .i64 (csum s.data.toList)) ∧ w = w' := by
  unfold maxLen at hs
  go_enter Try.func47, Try.ntmps47
  go_wp2
  go_loop [3, 4] (fun n i => ∃ k : Nat, k ≤ s.size ∧ i = .int .i64 k ∧ n = .int .i64 (csum (s.data.toList.take k))) (fun _ i => s.size - (intOf i).toNat)
  case atStart => exact ⟨0, Nat.zero_le _, rfl, rfl⟩
  case round =>
    obtain ⟨k, hk, rfl, rfl⟩ := hrel
    have hd := csum_bd (s.data.toList.take k)
    obtain ⟨hd0, hd1⟩ := hd
    by_cases hlt : k < s.size
    · have hsn := csum_snoc (s.data.toList.take k) s[k]
      have hts := take_snoc s k hlt
      have HS : Hid (csum (s.data.toList.take (k + 1)) = (41 * csum (s.data.toList.take k) + (s[k].toNat : Int) + 1) % 999979) := by rw [hts]; exact hsn
      clear hsn hts
      have hb : s[k].toNat < 256 := s[k].toNat_lt
      go_wp2
      all_goals
        go_round
        case rel => exact ⟨k + 1, by omega, by go_num, by rw [HS.out]⟩
        case measure => simp [intOf]; omega
    · go_wp2
      go_ret
      exact ⟨ret_int (by rw [List.take_of_length_le (by simp; omega)]), rfl⟩

set_option maxHeartbeats 400000 in
theorem checksum_any (s : ByteArray) (w : World) (hs : s.size ≤ maxLen) :
    Calls Try.prog 48 #[.string s] w fun e w' => e = .returned (.int .i64 (csum s.data.toList)) ∧ w = w' := by
  unfold maxLen at hs
  go_enter Try.func48, Try.ntmps48
  go_wp2
  go_loop [3, 7] (fun n i => ∃ k : Nat, k ≤ s.size ∧ i = .int .i64 k ∧ n = .int .i64 (csum (s.data.toList.take k))) (fun _ i => s.size - (intOf i).toNat)
  case atStart => exact ⟨0, Nat.zero_le _, rfl, rfl⟩
  case round =>
    obtain ⟨k, hk, rfl, rfl⟩ := hrel
    have hd := csum_bd (s.data.toList.take k)
    obtain ⟨hd0, hd1⟩ := hd
    by_cases hlt : k < s.size
    · have hsn := csum_snoc (s.data.toList.take k) s[k]
      have hts := take_snoc s k hlt
      have HS : Hid (csum (s.data.toList.take (k + 1)) = (41 * csum (s.data.toList.take k) + (s[k].toNat : Int) + 1) % 999979) := by rw [hts]; exact hsn
      clear hsn hts
      have hb : s[k].toNat < 256 := s[k].toNat_lt
      go_wp2
      all_goals
        go_round
        case rel => exact ⟨k + 1, by omega, by go_num, by rw [HS.out]⟩
        case measure => simp [intOf]; omega
    · go_wp2
      go_ret
      exact ⟨ret_int (by rw [List.take_of_length_le (by simp; omega)]), rfl⟩

def ckV (s : ByteArray) : Value := if s.size ≤ 4000 then .tuple #[.int .i64 (csum s.data.toList), .bool true] else .tuple #[.int .i64 0, .bool false]

theorem specChecksum_any (s : ByteArray) (w : World) (hs : s.size ≤ maxLen) :
    Calls Try.prog 17 #[.string s] w fun e w' => e = .returned (ckV s) ∧ w = w' := by
  have hs' := hs
  unfold maxLen at hs'
  unfold ckV
  by_cases h : s.size ≤ 4000
  · rw [if_pos h]
    go_enter Try.func17, Try.ntmps17
    go_wp2_with (go_at_call 47; refine (l1Sum_any s _ hs).mono ?_; rintro e w' ⟨rfl, rfl⟩)
    go_ret2
    exact ⟨rfl, rfl⟩
  · rw [if_neg h]
    go_enter Try.func17, Try.ntmps17
    go_wp2
    go_ret2
    exact ⟨rfl, rfl⟩

theorem implChecksum_any (s : ByteArray) (w : World) (hs : s.size ≤ maxLen) :
    Calls Try.prog 18 #[.string s] w fun e w' => e = .returned (ckV s) ∧ w = w' := by
  have hs' := hs
  unfold maxLen at hs'
  unfold ckV
  by_cases h : s.size ≤ 4000
  · rw [if_pos h]
    go_enter Try.func18, Try.ntmps18
    go_wp2_with (go_at_call 48; refine (checksum_any s _ hs).mono ?_; rintro e w' ⟨rfl, rfl⟩)
    go_ret2
    exact ⟨rfl, rfl⟩
  · rw [if_neg h]
    go_enter Try.func18, Try.ntmps18
    go_wp2
    go_ret2
    exact ⟨rfl, rfl⟩

theorem FnExactChecksum_walk (s : ByteArray) (w : World) (hs : s.size ≤ maxLen) :
    Calls Try.prog 5 #[.string s] w fun e w' => e = .returned (.bool true) ∧ Below w.heap.size w w' := by
  have hs' := hs
  unfold maxLen at hs'
  by_cases h : s.size ≤ 4000
  · have e1 : ckV s = .tuple #[.int .i64 (csum s.data.toList), .bool true] := if_pos h
    have h1 : s.size ≤ 1048576 := by omega
    go_enter Try.func5, Try.ntmps5
    go_wp2_with (first | (go_at_call 17; refine (specChecksum_any s _ hs).mono ?_; rintro e w' ⟨rfl, rfl⟩; rw [e1]) | (go_at_call 18; refine (implChecksum_any s _ hs).mono ?_; rintro e w' ⟨rfl, rfl⟩; rw [e1]))
    go_ret
    exact ⟨rfl, Below.refl _ _⟩
  · have e1 : ckV s = .tuple #[.int .i64 0, .bool false] := if_neg h
    by_cases h1 : s.size ≤ 1048576
    · go_enter Try.func5, Try.ntmps5
      go_wp2_with (first | (go_at_call 17; refine (specChecksum_any s _ hs).mono ?_; rintro e w' ⟨rfl, rfl⟩; rw [e1]) | (go_at_call 18; refine (implChecksum_any s _ hs).mono ?_; rintro e w' ⟨rfl, rfl⟩; rw [e1]))
      go_ret
      exact ⟨rfl, Below.refl _ _⟩
    · go_enter Try.func5, Try.ntmps5
      go_wp2
      go_ret
      exact ⟨rfl, Below.refl _ _⟩

namespace fnExactChecksum
set_option maxRecDepth 100000 in
theorem lifted (os : Os) (started : os.Started) (H : Type) (enc : TypeId × Value → H) :
    ReturnsInHanded {} Try.checked os 5 .any (Rows.fnExactChecksumSpec.pre6 enc Try.prog Try.f5 Rows.fnExactChecksumRow.domain false) (Rows.fnExactChecksumSpec.post enc Try.prog Try.f5 false true false false) := by
  refine returnsInHanded_of_change (C := Try.checked) own_ started (by kernel_rfl) Try.func5
    (ChangeSpec.witness6 (enc := enc) (C := Try.checked) false ⟨#[], #[.string ByteArray.empty], []⟩ 8 (by kernel_rfl) (by kernel_rfl) (by kernel_rfl) (by kernel_rfl)) ?_
  intro W base args ds gs before hval hW hcnd _
  have hW' := hW
  obtain ⟨p, q, hA, hV, rfl, hfz, hnd⟩ := hW
  obtain ⟨rfl, rfl⟩ := trodVars_none hV
  rw [List.append_nil] at hW'
  have hA' := hA
  rw [Try.params5] at hA hval
  obtain ⟨v0, vs0, d0, ds0, p0, q0, hargs, rfl, rfl, h0, r0⟩ := trodAll_cons hA
  obtain ⟨rfl, rfl, rfl⟩ := trodAll_nil r0
  obtain rfl : args = #[v0] := by cases args; simp_all
  obtain ⟨a0, rfl, rfl, rfl, w0⟩ := open_string Try.underlying9 (hval 0 9 v0 rfl rfl) h0
  refine (FnExactChecksum_walk a0 W w0).mono fun e W' ⟨he, hb⟩ => ?_
  exact law_done laidOut_ rfl Try.underlying4 (by kernel_rfl) rfl rfl rfl rfl hA' hW' he hb
end fnExactChecksum
theorem FnExactChecksum_holds : Rows.FnExactChecksumSaid :=
  OpenClaim.holds_of_wide 5 Try.f5 rfl rfl rfl rfl rfl rfl rfl ⟨rfl, rfl, rfl, rfl, rfl⟩ rfl rfl rfl rfl rfl (by kernel_rfl) Try.func5 (by kernel_rfl)
    (of_decide_eq_true (by kernel_rfl)) (by unfold Func.isWrapper; first | (rw [if_pos (by decide +kernel)]; kernel_rfl) | (rw [if_neg (by decide +kernel)]; exact ⟨rfl, rfl⟩))
    (fun os started H enc _ => fnExactChecksum.lifted os started H enc)
end Go.Proofs.Ytgpacchbojnheaa
