/- The walk of FnExactIsFraction. -/
import Derived.Test.YtombfbmcplefgaaFrac2
namespace Go.Proofs.Ytombfbmcplefgaa
open Go.ChangeShapes Go.WideShapes Go.ChangeAt Go.RowKit
open Go.ChangeMaps (open_string shut_string)
theorem specIsFraction_any (a b : Int) (w : World) :
    Calls Try.prog 47 #[.agg #[.int .i64 a, .int .i64 b]] w fun e w' => e = .returned (.bool (isFrac a b)) ∧ Below w.heap.size w w' := by
  have h := fun W => l2Frac_any a b W
  generalize isFrac a b = r at *
  have H := Lib.hid h
  clear h
  go_enter Try.func47, Try.ntmps47
  go_wp2_with (go_at_call 102; refine (H.out _).mono ?_; rintro e w1 ⟨rfl, hb⟩; (obtain ⟨hc, hf, hz⟩ := bcell hb; have hy := hb.size; (try simp at hz); (try simp at hy); (try simp at hc); (try simp at hf)))
  go_ret
  exact ⟨rfl, by (repeat (first | with_reducible exact Below.refl _ _ | with_reducible assumption | with_reducible refine Below.alloc' ?_ ?_ _ | with_reducible refine Below.setCell' ?_ ?_ _ | with_reducible refine Below.drewN' ?_ _ | with_reducible refine Below.drew ?_ | with_reducible refine Below.transA ?_ (by assumption) ?_ | omega | (focus (simp; done)) | (focus (simp; omega))))⟩
end Go.Proofs.Ytombfbmcplefgaa
