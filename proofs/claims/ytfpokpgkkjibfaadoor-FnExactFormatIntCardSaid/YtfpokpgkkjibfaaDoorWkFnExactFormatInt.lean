/- The walk of FnExactFormatInt. -/
import Derived.Test.YtfpokpgkkjibfaaDoorFmt
namespace Go.Proofs.YtfpokpgkkjibfaaDoor
open Go.ChangeShapes Go.WideShapes Go.ChangeAt Go.RowKit
open Go.ChangeMaps (open_string shut_string)
theorem FnExactFormatInt_walk (n : Int) (h0 : -9223372036854775808 ≤ n ∧ n ≤ 9223372036854775807) (w : World) (hT : TabE w) :
    Calls Tryd.prog 5 #[.int .i64 n] w fun e w' => e = .returned (.bool true) ∧ Below w.heap.size w w' := by
  have H1 := Lib.hid (fun w => specFormat_any n w h0)
  have H2 := Lib.hid (fun w hT => implFormat_any n w h0 hT)
  have hv : fmtV n = .tuple #[.string (itoaB n), .bool true] ∨ fmtV n = .tuple #[.string ⟨#[]⟩, .bool false] := by unfold fmtV; split <;> simp
  generalize fmtV n = v at *
  generalize itoaB n = s at *
  rcases hv with rfl | rfl
  all_goals
    go_enter Tryd.func5, Tryd.ntmps5
    go_wp2_with (first | (go_at_call 15; refine (H1.out _).mono ?_; rintro e w1 ⟨rfl, k, rfl⟩; have hT1 := hT.below (drewN_below _ k)) | (go_at_call 14; refine (H2.out _ hT1).mono ?_; rintro e w1 ⟨rfl, hb1⟩))
    go_ret
    exact ⟨rfl, (drewN_below _ _).trans hb1⟩
end Go.Proofs.YtfpokpgkkjibfaaDoor
