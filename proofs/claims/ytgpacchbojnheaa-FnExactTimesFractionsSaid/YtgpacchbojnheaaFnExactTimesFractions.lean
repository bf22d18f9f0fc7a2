/- FnExactTimesFractions: the program's TimesFractions and the reference's return the same, for all pairs of pairs of ints. No condition. -/
import Derived.Test.YtgpacchbojnheaaWkFnExactTimesFractions
namespace Go.Proofs.Ytgpacchbojnheaa
open Go.ChangeShapes Go.WideShapes Go.ChangeAt Go.RowKit
open Go.ChangeMaps (open_string shut_string)
namespace fnExactTimesFractions
set_option maxRecDepth 100000 in
theorem lifted (os : Os) (started : os.Started) (H : Type) (enc : TypeId × Value → H) :
    ReturnsInHanded {} Try.checked os 10 .any (Rows.fnExactTimesFractionsSpec.pre6 enc Try.prog Try.f10 Rows.fnExactTimesFractionsRow.domain false) (Rows.fnExactTimesFractionsSpec.post enc Try.prog Try.f10 false true false false) := by
  refine returnsInHanded_of_change (C := Try.checked) own_ started (by kernel_rfl) Try.func10
    (ChangeSpec.witness6 (enc := enc) (C := Try.checked) false ⟨#[], #[.agg #[.int .i64 0, .int .i64 0], .agg #[.int .i64 0, .int .i64 0]], []⟩ 8 (by kernel_rfl) (by kernel_rfl) (by kernel_rfl) (by kernel_rfl)) ?_
  intro W base args ds gs before hval hW hcnd _
  have hW' := hW
  obtain ⟨p, q, hA, hV, rfl, hfz, hnd⟩ := hW
  obtain ⟨rfl, rfl⟩ := trodVars_none hV
  rw [List.append_nil] at hW'
  have hA' := hA
  rw [Try.params10] at hA hval
  obtain ⟨v0, vs0, d0, ds0, p0, q0, hargs, rfl, rfl, h0, r0⟩ := trodAll_cons hA
  obtain ⟨v1, vs1, d1, ds1, p1, q1, rfl, rfl, rfl, h1, r1⟩ := trodAll_cons r0
  obtain ⟨rfl, rfl, rfl⟩ := trodAll_nil r1
  obtain rfl : args = #[v0, v1] := by cases args; simp_all
  obtain ⟨a0, b0, rfl, w0, u0⟩ := open_A2 (hval 0 27 v0 rfl rfl) h0
  obtain ⟨a1, b1, rfl, w1, u1⟩ := open_A2 (hval 1 27 v1 rfl rfl) h1
  refine (FnExactTimesFractions_walk a0 b0 a1 b1 w0 u0 w1 u1 W).mono fun e W' ⟨he, hb⟩ => ?_
  exact law_done laidOut_ rfl Try.underlying4 (by kernel_rfl) rfl rfl rfl rfl hA' hW' he hb
end fnExactTimesFractions
theorem FnExactTimesFractions_holds : Rows.FnExactTimesFractionsSaid :=
  OpenClaim.holds_of_wide 10 Try.f10 rfl rfl rfl rfl rfl rfl rfl ⟨rfl, rfl, rfl, rfl, rfl⟩ rfl rfl rfl rfl rfl (by kernel_rfl) Try.func10 (by kernel_rfl)
    (of_decide_eq_true (by kernel_rfl)) (by unfold Func.isWrapper; first | (rw [if_pos (by decide +kernel)]; kernel_rfl) | (rw [if_neg (by decide +kernel)]; exact ⟨rfl, rfl⟩))
    (fun os started H enc _ => fnExactTimesFractions.lifted os started H enc)
end Go.Proofs.Ytgpacchbojnheaa
