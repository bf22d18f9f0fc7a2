/- A text with its checksum: what the reference's l1Seal and AppendChecksum and the program's AppendChecksum return. -/
import Derived.Test.YtfpokpgkkjibfaaDoorFmt
import Derived.Test.YtfpokpgkkjibfaaDoorFnExactChecksum
namespace Go.Proofs.YtfpokpgkkjibfaaDoor
open Go.ChangeShapes Go.WideShapes Go.ChangeAt Go.RowKit
open Go.ChangeMaps (open_string shut_string)

def sealB (s : ByteArray) : ByteArray := s ++ ⟨#[35]⟩ ++ itoaB (csum s.data.toList)
def apOk (s : ByteArray) : Prop := s.size ≤ 4000 ∧ (35 : UInt8) ∉ s.data.toList ∧ (sealB s).size ≤ 4000
instance (s : ByteArray) : Decidable (apOk s) := by unfold apOk; infer_instance
def apV (s : ByteArray) : Value := if apOk s then .tuple #[.string (sealB s), .bool true] else .tuple #[.string ⟨#[]⟩, .bool false]
theorem itoaB_csum_size (s : ByteArray) : (itoaB (csum s.data.toList)).size ≤ 21 := by
  have := csum_bd s.data.toList
  have h := Lib.itoa_length_le (csum s.data.toList) (by omega) (by omega)
  simpa [itoaB, ByteArray.size] using h
theorem sealB_size (s : ByteArray) : (sealB s).size = s.size + 1 + (itoaB (csum s.data.toList)).size := by
  unfold sealB; rw [ByteArray.size_append, ByteArray.size_append]; rfl

theorem l1Stands_any (s : ByteArray) (c : UInt8) (w : World) (hs : s.size ≤ maxLen) :
    Calls Tryd.prog 59 #[.string s, .int .u8 c.toNat] w fun e w' => e = .returned (.bool (decide (c ∈ s.data.toList))) ∧ w = w' := by
  unfold maxLen at hs
  obtain ⟨d, hd⟩ : ∃ d, decide (c ∈ s.data.toList) = d := ⟨_, rfl⟩
  rw [hd]
  have HD := Lib.hid hd
  clear hd
  go_enter Tryd.func59, Tryd.ntmps59
  go_wp2
  go_loop [5] (fun i => ∃ k : Nat, k ≤ s.size ∧ i = .int .i64 k ∧ c ∉ s.data.toList.take k) (fun i => s.size - (intOf i).toNat)
  case atStart => exact ⟨0, Nat.zero_le _, rfl, by simp⟩
  case round =>
    obtain ⟨k, hk, rfl, hno⟩ := hrel
    by_cases hlt : k < s.size
    · have hb : s[k].toNat < 256 := s[k].toNat_lt
      have hts := take_snoc s k hlt
      by_cases hc : s[k].toNat = c.toNat
      · have hmem : c ∈ s.data.toList := by
          have : c = s[k] := (UInt8.toNat_inj.1 hc).symm
          rw [this]
          exact List.mem_of_getElem? (Lib.data_getElem? s k hlt)
        have HM : Hid (c ∈ s.data.toList) := Lib.hid hmem
        clear hmem hts
        go_wp2
        go_ret
        exact ⟨ret_bool ((decide_eq_true HM.out).symm.trans HD.out), rfl⟩
      · have HN : Hid (c ∉ s.data.toList.take (k + 1)) := by
          refine Lib.hid ?_
          rw [hts, List.mem_append, not_or]
          exact ⟨hno, fun h => hc (by rw [List.mem_singleton.1 h])⟩
        clear hts
        go_wp2
        all_goals
          go_round
          case rel => exact ⟨k + 1, by omega, by go_num, HN.out⟩
          case measure => simp [intOf]; omega
    · have HN : Hid (c ∉ s.data.toList) := by rw [List.take_of_length_le (by simp; omega)] at hno; exact Lib.hid hno
      go_wp2
      go_ret
      exact ⟨ret_bool ((decide_eq_false HN.out).symm.trans HD.out), rfl⟩

theorem l1Seal_any (s : ByteArray) (w : World) (hs : s.size ≤ 4000) :
    Calls Tryd.prog 60 #[.string s] w fun e w' => e = .returned (.string (sealB s)) ∧ ∃ k, w' = w.drewN k := by
  have hc := csum_bd s.data.toList
  have hl := itoaB_csum_size s
  have hS := Lib.hid (fun w => l1Sum_any s w (by unfold maxLen; omega))
  have hN : Hid (∀ w, Calls Tryd.prog 51 #[.int .i64 (csum s.data.toList)] w fun e w' => e = .returned (.string (itoaB (csum s.data.toList))) ∧ ∃ k, w' = w.drewN k) := Lib.hid (fun w => l1Num_any _ w (by omega) (by omega))
  unfold sealB
  generalize itoaB (csum s.data.toList) = b at *
  generalize csum s.data.toList = c at *
  go_enter Tryd.func60, Tryd.ntmps60
  go_wp2_with (first | (go_at_call 80; refine (hS.out _).mono ?_; rintro e w' ⟨rfl, rfl⟩) | (go_at_call 51; refine (hN.out _).mono ?_; rintro e w' ⟨rfl, k, rfl⟩))
  go_ret
  exact ⟨rfl, k, rfl⟩

theorem specAppend_any (s : ByteArray) (w : World) (hs : s.size ≤ maxLen) :
    Calls Tryd.prog 21 #[.string s] w fun e w' => e = .returned (apV s) ∧ ∃ k, w' = w.drewN k := by
  have hS := Lib.hid (fun w => l1Stands_any s 35 w hs)
  unfold maxLen at hs
  unfold apV
  by_cases h0 : s.size ≤ 4000
  case neg =>
    rw [if_neg (fun h => h0 h.1)]
    go_enter Tryd.func21, Tryd.ntmps21
    go_wp2
    go_ret2
    exact ⟨rfl, 0, rfl⟩
  have hN := Lib.hid (fun w => l1Seal_any s w h0)
  have hz := sealB_size s
  have hl := itoaB_csum_size s
  by_cases h1 : (35 : UInt8) ∈ s.data.toList
  · rw [if_neg (fun h => h.2.1 h1)]
    rw [decide_eq_true h1] at hS
    go_enter Tryd.func21, Tryd.ntmps21
    go_wp2_with (go_at_call 59; refine (hS.out _).mono ?_; rintro e w' ⟨rfl, rfl⟩)
    go_ret2
    exact ⟨rfl, 0, rfl⟩
  rw [decide_eq_false h1] at hS
  by_cases h2 : (sealB s).size ≤ 4000
  · rw [if_pos ⟨h0, h1, h2⟩]
    clear hz hl
    generalize sealB s = b at *
    go_enter Tryd.func21, Tryd.ntmps21
    go_wp2_with (first | (go_at_call 59; refine (hS.out _).mono ?_; rintro e w' ⟨rfl, rfl⟩) | (go_at_call 60; refine (hN.out _).mono ?_; rintro e w' ⟨rfl, k, rfl⟩))
    go_ret2
    exact ⟨rfl, _, rfl⟩
  · rw [if_neg (fun h => h2 h.2.2)]
    clear hz hl
    generalize sealB s = b at *
    go_enter Tryd.func21, Tryd.ntmps21
    go_wp2_with (first | (go_at_call 59; refine (hS.out _).mono ?_; rintro e w' ⟨rfl, rfl⟩) | (go_at_call 60; refine (hN.out _).mono ?_; rintro e w' ⟨rfl, k, rfl⟩))
    go_ret2
    exact ⟨rfl, k, rfl⟩

theorem implAppend_any (s : ByteArray) (w : World) (hs : s.size ≤ maxLen) (hT : TabE w) :
    Calls Tryd.prog 20 #[.string s] w fun e w' => e = .returned (apV s) ∧ Below w.heap.size w w' := by
  have hS := Lib.hid (fun w => Tryd.strings_Contains_one s 35 w)
  have hC := Lib.hid (fun w => checksum_any s w hs)
  unfold maxLen at hs
  unfold apV
  by_cases h0 : s.size ≤ 4000
  case neg =>
    rw [if_neg (fun h => h0 h.1)]
    go_enter Tryd.func20, Tryd.ntmps20
    go_wp2
    go_ret2
    exact ⟨rfl, Below.refl _ _⟩
  have hc := csum_bd s.data.toList
  have hN : Hid (∀ w, TabE w → Calls Tryd.prog 49 #[.int .i64 (csum s.data.toList)] w fun e w' => e = .returned (.string (itoaB (csum s.data.toList))) ∧ Below w.heap.size w w') := Lib.hid (fun w hT => itoa_any _ w (by omega) (by omega) hT)
  have hz := sealB_size s
  have hl := itoaB_csum_size s
  rw [decide_eq_decide.2 (indexByte_mem s.data.toList 35)] at hS
  by_cases h1 : (35 : UInt8) ∈ s.data.toList
  · rw [if_neg (fun h => h.2.1 h1)]
    rw [decide_eq_true h1] at hS
    clear hz hl hN hC hc
    go_enter Tryd.func20, Tryd.ntmps20
    go_wp2_with (go_at_call 57; refine (hS.out _).mono ?_; rintro e w' ⟨rfl, rfl⟩)
    go_ret2
    exact ⟨rfl, Below.refl _ _⟩
  rw [decide_eq_false h1] at hS
  have hv : apV s = if s.size + 1 + (itoaB (csum s.data.toList)).size ≤ 4000 then .tuple #[.string (s ++ ⟨#[35]⟩ ++ itoaB (csum s.data.toList)), .bool true] else .tuple #[.string ⟨#[]⟩, .bool false] := by
    by_cases h2 : s.size + 1 + (itoaB (csum s.data.toList)).size ≤ 4000
    · rw [if_pos h2]; exact if_pos ⟨h0, h1, by omega⟩
    · rw [if_neg h2]; exact if_neg fun h => h2 (by have := h.2.2; omega)
  change Calls _ _ _ _ fun e w' => e = .returned (apV s) ∧ _
  rw [hv]
  clear hv hz
  generalize itoaB (csum s.data.toList) = b at *
  generalize csum s.data.toList = c at *
  by_cases h2 : s.size + 1 + b.size ≤ 4000
  all_goals
    first | rw [if_pos h2] | rw [if_neg h2]
    have hsz : ((s ++ ⟨#[35]⟩ ++ b : ByteArray)).size = s.size + 1 + b.size := by rw [ByteArray.size_append, ByteArray.size_append]; rfl
    go_enter Tryd.func20, Tryd.ntmps20
    go_wp2_with (first | (go_at_call 57; refine (hS.out _).mono ?_; rintro e w' ⟨rfl, rfl⟩) | (go_at_call 58; refine (hC.out _).mono ?_; rintro e w' ⟨rfl, rfl⟩) | (go_at_call 49; refine (hN.out _ hT).mono ?_; rintro e w' ⟨rfl, hb⟩))
    go_ret2
    exact ⟨rfl, hb⟩
end Go.Proofs.YtfpokpgkkjibfaaDoor
