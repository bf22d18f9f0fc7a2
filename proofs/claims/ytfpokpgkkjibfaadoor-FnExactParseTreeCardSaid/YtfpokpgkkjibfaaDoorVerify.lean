/- The text ahead of its checksum: what the reference's and the program's VerifyChecksum return. -/
import Derived.Test.YtfpokpgkkjibfaaDoorSeal
import Derived.Test.YtfpokpgkkjibfaaDoorSplit
namespace Go.Proofs.YtfpokpgkkjibfaaDoor
open Go.ChangeShapes Go.WideShapes Go.ChangeAt Go.RowKit
open Go.ChangeMaps (open_string shut_string)

def headB (s : ByteArray) : ByteArray := mkB (headL 35 s.data.toList)
def vfOk (s : ByteArray) : Prop := s.size ≤ 4000 ∧ sealB (headB s) = s
def vfV (s : ByteArray) (b : Bool) : Value := if b then .tuple #[.string (headB s), .bool true] else .tuple #[.string ⟨#[]⟩, .bool false]
theorem headB_le (s : ByteArray) : (headB s).size ≤ s.size := by
  unfold headB; rw [mkB_size]; have := head_le 35 s.data.toList; simpa using this
theorem headB_no (s : ByteArray) : (35 : UInt8) ∉ (headB s).data.toList := by unfold headB; rw [mkB_list]; exact head_not_mem _ _
theorem partsB_pos (c : UInt8) (s : ByteArray) : 0 < (partsB c s).length := by rw [countB_parts]; omega
theorem partsB_head (s : ByteArray) : (partsB 35 s)[0]? = some (headB s) := by
  obtain ⟨r, h⟩ := head_parts 35 s.data.toList
  unfold partsB
  rw [h]; rfl
/-- The program's way to say yes is the reference's. -/
theorem apOk_head (s : ByteArray) : (apOk (headB s) ∧ sealB (headB s) = s) ↔ vfOk s := by
  have h1 := headB_le s
  constructor
  · rintro ⟨⟨_, _, h⟩, e⟩
    exact ⟨by rw [e] at h; exact h, e⟩
  · rintro ⟨h, e⟩
    exact ⟨⟨by omega, headB_no s, by rw [e]; exact h⟩, e⟩

set_option maxRecDepth 100000 in
theorem specVerify_any (s : ByteArray) (w : World) (hs : s.size ≤ 1048576) (b : Bool) (hb : b = true ↔ vfOk s) :
    Calls Tryd.prog 34 #[.string s] w fun e w' => e = .returned (vfV s b) ∧ Below w.heap.size w w' := by
  have HB := Lib.hid hb
  clear hb
  have hS := Lib.hid (fun w => l1Split_any s 35 w hs)
  by_cases h0 : s.size ≤ 4000
  case neg =>
    obtain rfl : b = false := by cases b; rfl; exact absurd (HB.out.1 rfl).1 h0
    clear HB
    go_enter Tryd.func34, Tryd.ntmps34
    go_wp2
    go_ret2
    exact ⟨rfl, Below.refl _ _⟩
  have hN := Lib.hid (fun w => l1Seal_any (headB s) w (by have := headB_le s; omega))
  have hp0 := partsB_pos 35 s
  have hph := Lib.hid (partsB_head s)
  have hcmp := bytes_eq (a := sealB (headB s)) (b := s)
  have hv : vfV s b = if b then .tuple #[.string (headB s), .bool true] else .tuple #[.string ⟨#[]⟩, .bool false] := rfl
  rw [hv]
  have hbd : decide (sealB (headB s) = s) = b := by
    cases b
    · exact decide_eq_false fun e => by have := HB.out.2 ⟨h0, e⟩; cases this
    · exact decide_eq_true (HB.out.1 rfl).2
  rw [hbd] at hcmp
  clear hbd HB hv
  generalize partsB 35 s = L at *
  generalize sealB (headB s) = t at *
  generalize headB s = q at *
  cases b
  all_goals
    go_enter Tryd.func34, Tryd.ntmps34
    go_wp2_with fail
    refine (hS.out _).mono ?_
    rintro e w1 ⟨A, c, rfl, hO, hb1⟩
    obtain ⟨g, rfl, hg, hr⟩ := hO.pos hp0
    have hc0 := hr.cell hph.out
    have hf0 := hr.frozen 0
    clear hr hO
    go_wp2_with (go_at_call 60; refine (hN.out _).mono ?_; rintro e w' ⟨rfl, k, rfl⟩)
    go_ret2
    exact ⟨rfl, Below.drewN' hb1 _⟩

set_option maxRecDepth 100000 in
theorem implVerify_any (s : ByteArray) (w : World) (hs : s.size ≤ 1048576) (b : Bool) (hb : b = true ↔ vfOk s) (hT : TabE w) (hM : MaxC w) :
    Calls Tryd.prog 22 #[.string s] w fun e w' => e = .returned (vfV s b) ∧ Below w.heap.size w w' := by
  have HB := Lib.hid (hb.trans (apOk_head s).symm)
  clear hb
  have hC : Hid (∀ w, MaxC w → Calls Tryd.prog 61 #[.string s, .string ⟨#[35]⟩] w fun e w' => ∃ u v, e = .returned (.tuple #[.string (headB s), u, v]) ∧ ∃ n, w' = w.drewN n) := by
    refine Lib.hid fun w ⟨m, hm⟩ => (Tryd.strings_Cut s ⟨#[35]⟩ m w (by omega) hm).mono ?_
    rintro e w' ⟨rfl, n, rfl⟩
    have e1 : (⟨(Lib.cut s.data.toList (⟨#[35]⟩ : ByteArray).data.toList).1.toArray⟩ : ByteArray) = headB s := by
      have : (Lib.cut s.data.toList [35]).1 = headL 35 s.data.toList := cut_head 35 s.data.toList
      show mkB _ = headB s
      unfold headB
      rw [← this]
    rw [e1]
    exact ⟨_, _, rfl, n, rfl⟩
  have hA := Lib.hid (fun w hT => implAppend_any (headB s) w (by have := headB_le s; unfold maxLen; omega) hT)
  have hcmp := bytes_eq (a := sealB (headB s)) (b := s)
  have hv : vfV s b = if b then .tuple #[.string (headB s), .bool true] else .tuple #[.string ⟨#[]⟩, .bool false] := rfl
  rw [hv]
  unfold apV at hA
  clear hv
  by_cases hok : apOk (headB s)
  · rw [if_pos hok] at hA
    have hbd : decide (sealB (headB s) = s) = b := by
      cases b
      · exact decide_eq_false fun e => by have := HB.out.2 ⟨hok, e⟩; cases this
      · exact decide_eq_true (HB.out.1 rfl).2
    rw [hbd] at hcmp
    clear hbd HB hok
    generalize sealB (headB s) = t at *
    generalize headB s = q at *
    cases b
    all_goals
      go_enter Tryd.func22, Tryd.ntmps22
      go_wp2_with (first | (go_at_call 61; refine (hC.out _ hM).mono ?_; rintro e w' ⟨u, v, rfl, n, rfl⟩; have hT1 := hT.below (drewN_below _ n)) | (go_at_call 20; refine (hA.out _ hT1).mono ?_; rintro e w' ⟨rfl, hb2⟩))
      go_ret2
      exact ⟨rfl, (drewN_below _ _).trans hb2⟩
  · rw [if_neg hok] at hA
    obtain rfl : b = false := by cases b; rfl; exact absurd (HB.out.1 rfl).1 hok
    clear HB hok hcmp
    generalize headB s = q at *
    go_enter Tryd.func22, Tryd.ntmps22
    go_wp2_with (first | (go_at_call 61; refine (hC.out _ hM).mono ?_; rintro e w' ⟨u, v, rfl, n, rfl⟩; have hT1 := hT.below (drewN_below _ n)) | (go_at_call 20; refine (hA.out _ hT1).mono ?_; rintro e w' ⟨rfl, hb2⟩))
    go_ret2
    exact ⟨rfl, (drewN_below _ _).trans hb2⟩
end Go.Proofs.YtfpokpgkkjibfaaDoor
