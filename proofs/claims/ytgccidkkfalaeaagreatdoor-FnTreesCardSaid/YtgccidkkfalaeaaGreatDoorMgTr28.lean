/- The text ahead of its checksum: what the reference's and the program's VerifyChecksum return. -/
import Derived.Test.YtgccidkkfalaeaaGreatDoorMgTr19
import Derived.Test.YtgccidkkfalaeaaGreatDoorMgTr12
namespace Go.Proofs.YtgccidkkfalaeaaGreatDoor
open Go.ChangeShapes Go.WideShapes Go.ChangeAt Go.RowKit
open Go.ChangeMaps (open_string shut_string)

def headB (s : ByteArray) : ByteArray := mkB (headL 35 s.data.toList)
def vfOk (s : ByteArray) : Prop := s.size ≤ 4000 ∧ sealB (headB s) = s
def vfV (s : ByteArray) (b : Bool) : Value := if b then .tuple #[.string (headB s), .bool true] else .tuple #[.string ⟨#[]⟩, .bool false]
theorem headB_le (s : ByteArray) : (headB s).size ≤ s.size := by
  unfold headB; rw [mkB_size]; have := head_le 35 s.data.toList; simpa using this
theorem headB_no (s : ByteArray) : (35 : UInt8) ∉ (headB s).data.toList := by unfold headB; rw [mkB_list]; exact head_not_mem _ _
theorem partsB_pos (c : UInt8) (s : ByteArray) : 0 < (partsB c s).length := by rw [countB_parts]; omega
theorem partsB_head (s : ByteArray) : (partsB 35 s)[0]? = some (headB s) := by
  obtain ⟨r, h⟩ := head_parts 35 s.data.toList
  unfold partsB
  rw [h]; rfl
/-- The program's way to say yes is the reference's. -/
theorem apOk_head (s : ByteArray) : (apOk (headB s) ∧ sealB (headB s) = s) ↔ vfOk s := by
  have h1 := headB_le s
  constructor
  · rintro ⟨⟨_, _, h⟩, e⟩
    exact ⟨by rw [e] at h; exact h, e⟩
  · rintro ⟨h, e⟩
    exact ⟨⟨by omega, headB_no s, by rw [e]; exact h⟩, e⟩

end Go.Proofs.YtgccidkkfalaeaaGreatDoor
