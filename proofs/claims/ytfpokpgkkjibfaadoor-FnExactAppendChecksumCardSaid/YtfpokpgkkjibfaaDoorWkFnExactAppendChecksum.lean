/- The walk of FnExactAppendChecksum. -/
import Derived.Test.YtfpokpgkkjibfaaDoorSeal
namespace Go.Proofs.YtfpokpgkkjibfaaDoor
open Go.ChangeShapes Go.WideShapes Go.ChangeAt Go.RowKit
open Go.ChangeMaps (open_string shut_string)
theorem FnExactAppendChecksum_walk (s : ByteArray) (hs : s.size ≤ maxLen) (w : World) (hT : TabE w) :
    Calls Tryd.prog 7 #[.string s] w fun e w' => e = .returned (.bool true) ∧ Below w.heap.size w w' := by
  have H1 := Lib.hid (fun w => specAppend_any s w hs)
  have H2 := Lib.hid (fun w hT => implAppend_any s w hs hT)
  unfold maxLen at hs
  have hv : apV s = .tuple #[.string (sealB s), .bool true] ∨ apV s = .tuple #[.string ⟨#[]⟩, .bool false] := by unfold apV; split <;> simp
  generalize apV s = v at *
  generalize sealB s = b at *
  by_cases hbig : s.size ≤ 1048576
  · rcases hv with rfl | rfl
    all_goals
      go_enter Tryd.func7, Tryd.ntmps7
      go_wp2_with (first | (go_at_call 21; refine (H1.out _).mono ?_; rintro e w1 ⟨rfl, k, rfl⟩; have hT1 := hT.below (drewN_below _ k)) | (go_at_call 20; refine (H2.out _ hT1).mono ?_; rintro e w1 ⟨rfl, hb1⟩))
      go_ret
      exact ⟨rfl, (drewN_below _ _).trans hb1⟩
  · go_enter Tryd.func7, Tryd.ntmps7
    go_wp2
    go_ret
    exact ⟨rfl, Below.refl _ _⟩
end Go.Proofs.YtfpokpgkkjibfaaDoor
