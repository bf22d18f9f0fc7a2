/- FnExactIsFraction: the program's IsFraction and the reference's return the same, for every pair of ints. No condition. -/
import Derived.Test.YtgpacchbojnheaaFrac2
namespace Go.Proofs.Ytgpacchbojnheaa
open Go.ChangeShapes Go.WideShapes Go.ChangeAt Go.RowKit
open Go.ChangeMaps (open_string shut_string)
theorem specIsFraction_any (a b : Int) (w : World) :
    Calls Try.prog 19 #[.agg #[.int .i64 a, .int .i64 b]] w fun e w' => e = .returned (.bool (isFrac a b)) ∧ Below w.heap.size w w' := by
  have h := fun W => l2Frac_any a b W
  generalize isFrac a b = r at *
  have H := Lib.hid h
  clear h
  go_enter Try.func19, Try.ntmps19
  go_wp2_with (go_at_call 49; refine (H.out _).mono ?_; rintro e w1 ⟨rfl, hb⟩; (obtain ⟨hc, hf, hz⟩ := bcell hb; have hy := hb.size; (try simp at hz); (try simp at hy); (try simp at hc); (try simp at hf)))
  go_ret
  exact ⟨rfl, by (repeat (first | exact Below.refl _ _ | assumption | exact Below.mono ‹_› (by first | omega | (simp; done) | (simp; omega)) | refine Below.trans ?_ (Below.mono (by assumption) (by first | omega | (simp; done) | (simp; omega))) | refine Below.alloc ?_ (by first | omega | (simp; done) | (simp; omega)) _ | refine Below.setCell ?_ (by first | omega | (simp; done) | (simp; omega)) _ | refine Below.drewN' ?_ _ | refine Below.drew ?_))⟩
set_option maxHeartbeats 1000000 in
theorem FnExactIsFraction_walk (a b : Int) (_ha : -9223372036854775808 ≤ a ∧ a ≤ 9223372036854775807) (_hb : -9223372036854775808 ≤ b ∧ b ≤ 9223372036854775807) (w : World) :
    Calls Try.prog 6 #[.agg #[.int .i64 a, .int .i64 b]] w fun e w' => e = .returned (.bool true) ∧ Below w.heap.size w w' := by
  clear _ha _hb
  have h1 := fun W => specIsFraction_any a b W
  have h2 := fun W => IsFraction_any a b W
  generalize isFrac a b = r at *
  have H1 := Lib.hid h1
  have H2 := Lib.hid h2
  clear h1 h2
  cases r
  all_goals
    go_enter Try.func6, Try.ntmps6
    go_wp2_with (first | (go_at_call 20; refine (toIntA2_any a b _).mono ?_; rintro e w1 ⟨rfl, hb⟩; (obtain ⟨hc, hf, hz⟩ := bcell hb; have hy := hb.size; (try simp at hz); (try simp at hy); (try simp at hc); (try simp at hf))) | (go_at_call 19; refine (H1.out _).mono ?_; rintro e w2 ⟨rfl, hb⟩; (obtain ⟨hc, hf, hz⟩ := bcell hb; have hy := hb.size; (try simp at hz); (try simp at hy); (try simp at hc); (try simp at hf))) | (go_at_call 21; refine (H2.out _).mono ?_; rintro e w3 ⟨rfl, hb⟩; (obtain ⟨hc, hf, hz⟩ := bcell hb; have hy := hb.size; (try simp at hz); (try simp at hy); (try simp at hc); (try simp at hf))))
    all_goals
      go_ret
      exact ⟨rfl, by (repeat (first | exact Below.refl _ _ | assumption | exact Below.mono ‹_› (by first | omega | (simp; done) | (simp; omega)) | refine Below.trans ?_ (Below.mono (by assumption) (by first | omega | (simp; done) | (simp; omega))) | refine Below.alloc ?_ (by first | omega | (simp; done) | (simp; omega)) _ | refine Below.setCell ?_ (by first | omega | (simp; done) | (simp; omega)) _ | refine Below.drewN' ?_ _ | refine Below.drew ?_))⟩

namespace fnExactIsFraction
set_option maxRecDepth 100000 in
theorem lifted (os : Os) (started : os.Started) (H : Type) (enc : TypeId × Value → H) :
    ReturnsInHanded {} Try.checked os 6 .any (Rows.fnExactIsFractionSpec.pre6 enc Try.prog Try.f6 Rows.fnExactIsFractionRow.domain false) (Rows.fnExactIsFractionSpec.post enc Try.prog Try.f6 false true false false) := by
  refine returnsInHanded_of_change (C := Try.checked) own_ started (by kernel_rfl) Try.func6
    (ChangeSpec.witness6 (enc := enc) (C := Try.checked) false ⟨#[], #[.agg #[.int .i64 0, .int .i64 0]], []⟩ 8 (by kernel_rfl) (by kernel_rfl) (by kernel_rfl) (by kernel_rfl)) ?_
  intro W base args ds gs before hval hW hcnd _
  have hW' := hW
  obtain ⟨p, q, hA, hV, rfl, hfz, hnd⟩ := hW
  obtain ⟨rfl, rfl⟩ := trodVars_none hV
  rw [List.append_nil] at hW'
  have hA' := hA
  rw [Try.params6] at hA hval
  obtain ⟨v0, vs0, d0, ds0, p0, q0, hargs, rfl, rfl, h0, r0⟩ := trodAll_cons hA
  obtain ⟨rfl, rfl, rfl⟩ := trodAll_nil r0
  obtain rfl : args = #[v0] := by cases args; simp_all
  obtain ⟨a0, b0, rfl, w0, u0⟩ := open_A2 (hval 0 27 v0 rfl rfl) h0
  refine (FnExactIsFraction_walk a0 b0 w0 u0 W).mono fun e W' ⟨he, hb⟩ => ?_
  exact law_done laidOut_ rfl Try.underlying4 (by kernel_rfl) rfl rfl rfl rfl hA' hW' he hb
end fnExactIsFraction
theorem FnExactIsFraction_holds : Rows.FnExactIsFractionSaid :=
  OpenClaim.holds_of_wide 6 Try.f6 rfl rfl rfl rfl rfl rfl rfl ⟨rfl, rfl, rfl, rfl, rfl⟩ rfl rfl rfl rfl rfl (by kernel_rfl) Try.func6 (by kernel_rfl)
    (of_decide_eq_true (by kernel_rfl)) (by unfold Func.isWrapper; first | (rw [if_pos (by decide +kernel)]; kernel_rfl) | (rw [if_neg (by decide +kernel)]; exact ⟨rfl, rfl⟩))
    (fun os started H enc _ => fnExactIsFraction.lifted os started H enc)
end Go.Proofs.Ytgpacchbojnheaa
