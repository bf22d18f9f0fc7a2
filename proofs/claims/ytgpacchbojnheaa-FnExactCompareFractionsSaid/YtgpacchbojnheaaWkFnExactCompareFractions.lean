/- The walk of FnExactCompareFractions. -/
import Derived.Test.YtgpacchbojnheaaFrac3
namespace Go.Proofs.Ytgpacchbojnheaa
open Go.ChangeShapes Go.WideShapes Go.ChangeAt Go.RowKit
open Go.ChangeMaps (open_string shut_string)
set_option maxHeartbeats 2000000 in
theorem FnExactCompareFractions_walk (a b c d : Int) (_ha : -9223372036854775808 ≤ a ∧ a ≤ 9223372036854775807) (_hb : -9223372036854775808 ≤ b ∧ b ≤ 9223372036854775807) (_hc : -9223372036854775808 ≤ c ∧ c ≤ 9223372036854775807) (_hd : -9223372036854775808 ≤ d ∧ d ≤ 9223372036854775807) (w : World) :
    Calls Try.prog 8 #[.agg #[.int .i64 a, .int .i64 b], .agg #[.int .i64 c, .int .i64 d]] w fun e w' => e = .returned (.bool true) ∧ Below w.heap.size w w' := by
  clear _ha _hb _hc _hd
  have h1 := fun W => specCompare_any a b c d W
  have h2 := fun W => implCompare_any a b c d W
  generalize (if (isFrac a b && isFrac c d) = true then cmpF a b c d else 0) = N at *
  generalize (isFrac a b && isFrac c d) = r at *
  have H1 := Lib.hid h1
  have H2 := Lib.hid h2
  clear h1 h2
  go_enter Try.func8, Try.ntmps8
  go_wp2_with fail
  go_region_held3 (fun w' => w'.cell? ⟨w.heap.size, 0, none⟩ = some (.int .i64 a) ∧ w'.cell? ⟨w.heap.size, 1, none⟩ = some (.int .i64 b) ∧ w'.cell? ⟨w.heap.size + 1, 0, none⟩ = some (.int .i64 c) ∧ w'.cell? ⟨w.heap.size + 1, 1, none⟩ = some (.int .i64 d) ∧ Below w.heap.size w w')
    (first | (simp; ((repeat (first | exact Below.refl _ _ | assumption | exact Below.mono ‹_› (by first | omega | (simp; done) | (simp; omega)) | refine Below.trans ?_ (Below.mono (by assumption) (by first | omega | (simp; done) | (simp; omega))) | refine Below.alloc ?_ (by first | omega | (simp; done) | (simp; omega)) _ | refine Below.setCell ?_ (by first | omega | (simp; done) | (simp; omega)) _ | refine Below.drewN' ?_ _ | refine Below.drew ?_)); done)) | (go_split_ands; (repeat' (refine And.intro ?_ ?_)) <;> first | assumption | exact Below.drew (by assumption)) | (go_split_ands; (repeat' (refine And.intro ?_ ?_)) <;> first | exact keep_cell hb1 (by assumption) | exact keep_below hb1 (by assumption)))
    (first | (go_at_call 20; refine (toIntA2_any _ _ _).mono ?_; rintro e w1 ⟨rfl, hb1⟩) | (go_at_call 25; refine (H1.out _).mono ?_; rintro e w1 ⟨rfl, hb1⟩))
  go_wp2_with fail
  go_region_held3 (fun w' => w'.cell? ⟨w.heap.size, 0, none⟩ = some (.int .i64 a) ∧ w'.cell? ⟨w.heap.size, 1, none⟩ = some (.int .i64 b) ∧ w'.cell? ⟨w.heap.size + 1, 0, none⟩ = some (.int .i64 c) ∧ w'.cell? ⟨w.heap.size + 1, 1, none⟩ = some (.int .i64 d) ∧ Below w.heap.size w w')
    (first | (simp; ((repeat (first | exact Below.refl _ _ | assumption | exact Below.mono ‹_› (by first | omega | (simp; done) | (simp; omega)) | refine Below.trans ?_ (Below.mono (by assumption) (by first | omega | (simp; done) | (simp; omega))) | refine Below.alloc ?_ (by first | omega | (simp; done) | (simp; omega)) _ | refine Below.setCell ?_ (by first | omega | (simp; done) | (simp; omega)) _ | refine Below.drewN' ?_ _ | refine Below.drew ?_)); done)) | (go_split_ands; (repeat' (refine And.intro ?_ ?_)) <;> first | assumption | exact Below.drew (by assumption)) | (go_split_ands; (repeat' (refine And.intro ?_ ?_)) <;> first | exact keep_cell hb1 (by assumption) | exact keep_below hb1 (by assumption)))
    (first | (go_at_call 20; refine (toIntA2_any _ _ _).mono ?_; rintro e w1 ⟨rfl, hb1⟩) | (go_at_call 26; refine (H2.out _).mono ?_; rintro e w1 ⟨rfl, hb1⟩))
  go_wp2
  go_ret
  exact ⟨rfl, by (go_split_ands; assumption)⟩
end Go.Proofs.Ytgpacchbojnheaa
