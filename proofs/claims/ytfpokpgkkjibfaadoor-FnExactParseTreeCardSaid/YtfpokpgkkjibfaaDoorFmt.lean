/- FormatInt: what the reference's and the program's return. -/
import Derived.Test.YtfpokpgkkjibfaaDoorNum
namespace Go.Proofs.YtfpokpgkkjibfaaDoor
open Go.ChangeShapes Go.WideShapes Go.ChangeAt Go.RowKit
open Go.ChangeMaps (open_string shut_string)

def itoaB (n : Int) : ByteArray := ⟨(Lib.itoa n).toArray⟩
def fmtV (n : Int) : Value := if -999999 ≤ n ∧ n ≤ 999999 then .tuple #[.string (itoaB n), .bool true] else .tuple #[.string ⟨#[]⟩, .bool false]
theorem drewN_below (w : World) (k : Nat) : Below w.heap.size w (w.drewN k) := Below.drewN' (Below.refl _ _) k

theorem specFormat_any (n : Int) (w : World) (h0 : -9223372036854775808 ≤ n ∧ n ≤ 9223372036854775807) :
    Calls Tryd.prog 15 #[.int .i64 n] w fun e w' => e = .returned (fmtV n) ∧ ∃ k, w' = w.drewN k := by
  unfold fmtV
  by_cases h : -999999 ≤ n ∧ n ≤ 999999
  · rw [if_pos h]
    go_enter Tryd.func15, Tryd.ntmps15
    go_wp2_with (first | (go_at_call 50; refine (l1In_yes _ _ _ _ (by omega) (by omega)).mono ?_; rintro e w' ⟨rfl, rfl⟩) | (go_at_call 51; refine (l1Num_any n _ (by omega) (by omega)).mono ?_; rintro e w' ⟨rfl, k, rfl⟩))
    go_ret2
    exact ⟨rfl, k, rfl⟩
  · rw [if_neg h]
    go_enter Tryd.func15, Tryd.ntmps15
    go_wp2_with (go_at_call 50; refine (l1In_no _ _ _ _ (by omega)).mono ?_; rintro e w' ⟨rfl, rfl⟩)
    go_ret2
    exact ⟨rfl, 0, rfl⟩

theorem implFormat_any (n : Int) (w : World) (h0 : -9223372036854775808 ≤ n ∧ n ≤ 9223372036854775807) (hT : TabE w) :
    Calls Tryd.prog 14 #[.int .i64 n] w fun e w' => e = .returned (fmtV n) ∧ Below w.heap.size w w' := by
  unfold fmtV
  by_cases h : -999999 ≤ n ∧ n ≤ 999999
  · rw [if_pos h]
    have hI : Hid (∀ w, TabE w → Calls Tryd.prog 49 #[.int .i64 n] w fun e w' => e = .returned (.string (itoaB n)) ∧ Below w.heap.size w w') := Lib.hid (fun w hT => itoa_any n w (by omega) (by omega) hT)
    go_enter Tryd.func14, Tryd.ntmps14
    go_wp2_with (first | (go_at_call 48; refine (within_yes _ _ _ _ (by omega) (by omega)).mono ?_; rintro e w' ⟨rfl, rfl⟩) | (go_at_call 49; refine (hI.out _ hT).mono ?_; rintro e w' ⟨rfl, hb⟩))
    go_ret2
    exact ⟨rfl, hb⟩
  · rw [if_neg h]
    go_enter Tryd.func14, Tryd.ntmps14
    go_wp2_with (go_at_call 48; refine (within_no _ _ _ _ (by omega)).mono ?_; rintro e w' ⟨rfl, rfl⟩)
    go_ret2
    exact ⟨rfl, Below.refl _ _⟩
end Go.Proofs.YtfpokpgkkjibfaaDoor
