/- The walk of FnExactParseInt. -/
import Derived.Test.YtfpokpgkkjibfaaDoorRead
namespace Go.Proofs.YtfpokpgkkjibfaaDoor
open Go.ChangeShapes Go.WideShapes Go.ChangeAt Go.RowKit
open Go.ChangeMaps (open_string shut_string)
theorem FnExactParseInt_walk (s : ByteArray) (hs : s.size ≤ maxLen) (w : World) (hF : TabE w ∧ SynC w ∧ MaxC w) :
    Calls Tryd.prog 11 #[.string s] w fun e w' => e = .returned (.bool true) ∧ Below w.heap.size w w' := by
  obtain ⟨hT, hC, _⟩ := hF
  unfold maxLen at hs
  by_cases hbig : s.size ≤ 1048576
  · have H1 := Lib.hid (fun w => specParse_any s w hbig)
    have H2 := Lib.hid (fun w hT hC => implParse_any s w hbig hT hC)
    have hv : ∃ n b, rdV s = .tuple #[.int .i64 n, .bool b] := by unfold rdV; cases rdL s.data.toList <;> exact ⟨_, _, rfl⟩
    generalize rdV s = v at *
    obtain ⟨n, b, rfl⟩ := hv
    go_enter Tryd.func11, Tryd.ntmps11
    go_wp2_with (first | (go_at_call 18; refine (H1.out _).mono ?_; rintro e w1 ⟨rfl, k, rfl⟩; have hT1 := hT.below (drewN_below _ k); have hC1 := hC.below (drewN_below _ k)) | (go_at_call 17; refine (H2.out _ hT1 hC1).mono ?_; rintro e w2 ⟨rfl, hb2⟩))
    go_ret
    exact ⟨rfl, (drewN_below _ _).trans hb2⟩
  · go_enter Tryd.func11, Tryd.ntmps11
    go_wp2
    go_ret
    exact ⟨rfl, Below.refl _ _⟩
end Go.Proofs.YtfpokpgkkjibfaaDoor
