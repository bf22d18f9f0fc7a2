/- FnExactFractionOf: the program's FractionOf and the reference's return the same, for all ints. No condition. -/
import Derived.Test.YtgpacchbojnheaaFrac2
namespace Go.Proofs.Ytgpacchbojnheaa
open Go.ChangeShapes Go.WideShapes Go.ChangeAt Go.RowKit
open Go.ChangeMaps (open_string shut_string)
set_option maxHeartbeats 1000000 in
theorem FnExactFractionOf_walk (a b : Int) (ha : -9223372036854775808 ≤ a ∧ a ≤ 9223372036854775807) (hb : -9223372036854775808 ≤ b ∧ b ≤ 9223372036854775807) (w : World) :
    Calls Try.prog 7 #[.int .i64 a, .int .i64 b] w fun e w' => e = .returned (.bool true) ∧ Below w.heap.size w w' := by
  have h1 := fun W => specFractionOf_any a b W ha hb
  have h2 := fun W => implFractionOf_any a b W ha hb
  generalize foN a b = N at *
  generalize foM a b = M at *
  generalize foOk a b = r at *
  unfold FracV at h1 h2
  have H1 := Lib.hid h1
  have H2 := Lib.hid h2
  clear h1 h2 ha hb
  cases r
  all_goals
    go_enter Try.func7, Try.ntmps7
    go_wp2_with (first | (go_at_call 22; refine (H1.out _).mono ?_; rintro e w2 ⟨rfl, hb⟩; (obtain ⟨hc, hf, hz⟩ := bcell hb; have hy := hb.size; (try simp at hz); (try simp at hy); (try simp at hc); (try simp at hf))) | (go_at_call 23; refine (H2.out _).mono ?_; rintro e w3 ⟨rfl, hb⟩; (obtain ⟨hc, hf, hz⟩ := bcell hb; have hy := hb.size; (try simp at hz); (try simp at hy); (try simp at hc); (try simp at hf))) | (go_at_call 24; refine (eqIntA2_yes N M _).mono ?_; rintro e w4 ⟨rfl, hb⟩; (obtain ⟨hc, hf, hz⟩ := bcell hb; have hy := hb.size; (try simp at hz); (try simp at hy); (try simp at hc); (try simp at hf))))
    all_goals
      go_ret
      exact ⟨rfl, by (repeat (first | exact Below.refl _ _ | assumption | exact Below.mono ‹_› (by first | omega | (simp; done) | (simp; omega)) | refine Below.trans ?_ (Below.mono (by assumption) (by first | omega | (simp; done) | (simp; omega))) | refine Below.alloc ?_ (by first | omega | (simp; done) | (simp; omega)) _ | refine Below.setCell ?_ (by first | omega | (simp; done) | (simp; omega)) _ | refine Below.drewN' ?_ _ | refine Below.drew ?_))⟩

namespace fnExactFractionOf
set_option maxRecDepth 100000 in
theorem lifted (os : Os) (started : os.Started) (H : Type) (enc : TypeId × Value → H) :
    ReturnsInHanded {} Try.checked os 7 .any (Rows.fnExactFractionOfSpec.pre6 enc Try.prog Try.f7 Rows.fnExactFractionOfRow.domain false) (Rows.fnExactFractionOfSpec.post enc Try.prog Try.f7 false true false false) := by
  refine returnsInHanded_of_change (C := Try.checked) own_ started (by kernel_rfl) Try.func7
    (ChangeSpec.witness6 (enc := enc) (C := Try.checked) false ⟨#[], #[.int .i64 0, .int .i64 0], []⟩ 8 (by kernel_rfl) (by kernel_rfl) (by kernel_rfl) (by kernel_rfl)) ?_
  intro W base args ds gs before hval hW hcnd _
  have hW' := hW
  obtain ⟨p, q, hA, hV, rfl, hfz, hnd⟩ := hW
  obtain ⟨rfl, rfl⟩ := trodVars_none hV
  rw [List.append_nil] at hW'
  have hA' := hA
  rw [Try.params7] at hA hval
  obtain ⟨v0, vs0, d0, ds0, p0, q0, hargs, rfl, rfl, h0, r0⟩ := trodAll_cons hA
  obtain ⟨v1, vs1, d1, ds1, p1, q1, rfl, rfl, rfl, h1, r1⟩ := trodAll_cons r0
  obtain ⟨rfl, rfl, rfl⟩ := trodAll_nil r1
  obtain rfl : args = #[v0, v1] := by cases args; simp_all
  obtain ⟨a0, rfl, rfl, rfl, w0⟩ := open_int Try.underlying3 (hval 0 3 v0 rfl rfl) h0
  obtain ⟨a1, rfl, rfl, rfl, w1⟩ := open_int Try.underlying3 (hval 1 3 v1 rfl rfl) h1
  refine (FnExactFractionOf_walk a0 a1 (bd_i64 w0) (bd_i64 w1) W).mono fun e W' ⟨he, hb⟩ => ?_
  exact law_done laidOut_ rfl Try.underlying4 (by kernel_rfl) rfl rfl rfl rfl hA' hW' he hb
end fnExactFractionOf
theorem FnExactFractionOf_holds : Rows.FnExactFractionOfSaid :=
  OpenClaim.holds_of_wide 7 Try.f7 rfl rfl rfl rfl rfl rfl rfl ⟨rfl, rfl, rfl, rfl, rfl⟩ rfl rfl rfl rfl rfl (by kernel_rfl) Try.func7 (by kernel_rfl)
    (of_decide_eq_true (by kernel_rfl)) (by unfold Func.isWrapper; first | (rw [if_pos (by decide +kernel)]; kernel_rfl) | (rw [if_neg (by decide +kernel)]; exact ⟨rfl, rfl⟩))
    (fun os started H enc _ => fnExactFractionOf.lifted os started H enc)
end Go.Proofs.Ytgpacchbojnheaa
