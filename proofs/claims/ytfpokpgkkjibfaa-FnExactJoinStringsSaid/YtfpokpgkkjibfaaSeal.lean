/- A text with its checksum: what the reference's l1Seal and AppendChecksum and the program's AppendChecksum return. -/
import Derived.Test.YtfpokpgkkjibfaaFmt
import Derived.Test.YtfpokpgkkjibfaaFnExactChecksum
namespace Go.Proofs.Ytfpokpgkkjibfaa
open Go.ChangeShapes Go.WideShapes Go.ChangeAt Go.RowKit
open Go.ChangeMaps (open_string shut_string)

def sealB (s : ByteArray) : ByteArray := s ++ ⟨#[35]⟩ ++ itoaB (csum s.data.toList)
def apOk (s : ByteArray) : Prop := s.size ≤ 4000 ∧ (35 : UInt8) ∉ s.data.toList ∧ (sealB s).size ≤ 4000
instance (s : ByteArray) : Decidable (apOk s) := by unfold apOk; infer_instance
def apV (s : ByteArray) : Value := if apOk s then .tuple #[.string (sealB s), .bool true] else .tuple #[.string ⟨#[]⟩, .bool false]
theorem itoaB_csum_size (s : ByteArray) : (itoaB (csum s.data.toList)).size ≤ 21 := by
  have := csum_bd s.data.toList
  have h := Lib.itoa_length_le (csum s.data.toList) (by omega) (by omega)
  simpa [itoaB, ByteArray.size] using h
theorem sealB_size (s : ByteArray) : (sealB s).size = s.size + 1 + (itoaB (csum s.data.toList)).size := by
  unfold sealB; rw [ByteArray.size_append, ByteArray.size_append]; rfl

theorem l1Stands_any (s : ByteArray) (c : UInt8) (w : World) (hs : s.size ≤ maxLen) :
    Calls Try.prog 9 #[.string s, .int .u8 c.toNat] w fun e w' => e = .returned (.bool (decide (c ∈ s.data.toList))) ∧ w = w' := by
  unfold maxLen at hs
  obtain ⟨d, hd⟩ : ∃ d, decide (c ∈ s.data.toList) = d := ⟨_, rfl⟩
  rw [hd]
  have HD := Lib.hid hd
  clear hd
  go_enter Try.func9, Try.ntmps9
  go_wp2
  go_loop [5] (fun i => ∃ k : Nat, k ≤ s.size ∧ i = .int .i64 k ∧ c ∉ s.data.toList.take k) (fun i => s.size - (intOf i).toNat)
  case atStart => exact ⟨0, Nat.zero_le _, rfl, by simp⟩
  case round =>
    obtain ⟨k, hk, rfl, hno⟩ := hrel
    by_cases hlt : k < s.size
    · have hb : s[k].toNat < 256 := s[k].toNat_lt
      have hts := take_snoc s k hlt
      by_cases hc : s[k].toNat = c.toNat
      · have hmem : c ∈ s.data.toList := by
          have : c = s[k] := (UInt8.toNat_inj.1 hc).symm
          rw [this]
          exact List.mem_of_getElem? (Lib.data_getElem? s k hlt)
        have HM : Hid (c ∈ s.data.toList) := Lib.hid hmem
        clear hmem hts
        go_wp2
        go_ret
        exact ⟨ret_bool ((decide_eq_true HM.out).symm.trans HD.out), rfl⟩
      · have HN : Hid (c ∉ s.data.toList.take (k + 1)) := by
          refine Lib.hid ?_
          rw [hts, List.mem_append, not_or]
          exact ⟨hno, fun h => hc (by rw [List.mem_singleton.1 h])⟩
        clear hts
        go_wp2
        all_goals
          go_round
          case rel => exact ⟨k + 1, by omega, by go_num, HN.out⟩
          case measure => simp [intOf]; omega
    · have HN : Hid (c ∉ s.data.toList) := by rw [List.take_of_length_le (by simp; omega)] at hno; exact Lib.hid hno
      go_wp2
      go_ret
      exact ⟨ret_bool ((decide_eq_false HN.out).symm.trans HD.out), rfl⟩

end Go.Proofs.Ytfpokpgkkjibfaa
