/- The walk of FnExactVerifyChecksum. -/
import Derived.Test.YtfpokpgkkjibfaaDoorVerify
namespace Go.Proofs.YtfpokpgkkjibfaaDoor
open Go.ChangeShapes Go.WideShapes Go.ChangeAt Go.RowKit
open Go.ChangeMaps (open_string shut_string)
open Classical in
theorem vfOk_bool (s : ByteArray) : ∃ b : Bool, b = true ↔ vfOk s := ⟨decide (vfOk s), by simp⟩
theorem FnExactVerifyChecksum_walk (s : ByteArray) (hs : s.size ≤ maxLen) (w : World) (hF : TabE w ∧ MaxC w) :
    Calls Tryd.prog 8 #[.string s] w fun e w' => e = .returned (.bool true) ∧ Below w.heap.size w w' := by
  obtain ⟨hT, hM⟩ := hF
  unfold maxLen at hs
  by_cases hbig : s.size ≤ 1048576
  · obtain ⟨b, hb⟩ := vfOk_bool s
    have H1 := Lib.hid (fun w => specVerify_any s w hbig b hb)
    have H2 := Lib.hid (fun w hT hM => implVerify_any s w hbig b hb hT hM)
    clear hb
    have hv : vfV s b = .tuple #[.string (headB s), .bool true] ∨ vfV s b = .tuple #[.string ⟨#[]⟩, .bool false] := by unfold vfV; split <;> simp
    generalize vfV s b = v at *
    generalize headB s = q at *
    rcases hv with rfl | rfl
    all_goals
      go_enter Tryd.func8, Tryd.ntmps8
      go_wp2_with (first | (go_at_call 34; refine (H1.out _).mono ?_; rintro e w1 ⟨rfl, hb1⟩; have hT1 := hT.below hb1; have hM1 := hM.below hb1) | (go_at_call 22; refine (H2.out _ hT1 hM1).mono ?_; rintro e w2 ⟨rfl, hb2⟩))
      go_ret
      exact ⟨rfl, hb1.trans (hb2.mono hb1.size)⟩
  · go_enter Tryd.func8, Tryd.ntmps8
    go_wp2
    go_ret
    exact ⟨rfl, Below.refl _ _⟩
end Go.Proofs.YtfpokpgkkjibfaaDoor
