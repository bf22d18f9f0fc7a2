/- Contracts of the functions that add and multiply fractions. -/
import Derived.Test.YtombfbmcplefgaaFrac3
import Derived.StillTailTactics
namespace Go.Proofs.Ytombfbmcplefgaa
open Go.ChangeShapes Go.WideShapes Go.ChangeAt Go.RowKit

theorem frac_ne {a b c d : Int} (h : isFrac a b = true) (k : isFrac c d = true) : 1 ≤ b * d ∧ b * d ≤ 1000000000000 := by
  have h1 := frac_bd h
  have h2 := frac_bd k
  have h3 := mul_bd (a := b) (d := d) (A := 1000000) (D := 1000000) (by omega) (by omega)
  have h4 : 1 * 1 ≤ b * d := Int.mul_le_mul (by omega) (by omega) (by omega) (by omega)
  omega

set_option maxHeartbeats 1000000 in
theorem implAdd_any (a b c d : Int) (w : World) :
    Calls Try.prog 35 #[.agg #[.int .i64 a, .int .i64 b], .agg #[.int .i64 c, .int .i64 d]] w fun e w' => e = .returned (FracV (if isFrac a b && isFrac c d then lowN (a * d + c * b) (b * d) else 0) (if isFrac a b && isFrac c d then lowM (a * d + c * b) (b * d) else 0) (isFrac a b && isFrac c d && lowOk (a * d + c * b) (b * d))) ∧ Below w.heap.size w w' := by
  cases hr : (isFrac a b && isFrac c d)
  · have HR := Lib.hid hr
    clear hr
    go_enter Try.func35, Try.ntmps35
    go_wp2_with fail
    refine (areFractions_r HR.out _ _ ?_ ?_ ?_ ?_ ?_).mono ?_
    · rw [cell_new _ _ _ _ _ (by simp)]; rfl
    · rw [cell_new _ _ _ _ _ (by simp)]; rfl
    · rw [cell_new _ _ _ _ _ (by simp)]; rfl
    · rw [cell_new _ _ _ _ _ (by simp)]; rfl
    · simp
    rintro e w1 ⟨rfl, hb1⟩; (obtain ⟨hc1, hf1, hz1⟩ := bcell hb1; have hy1 := hb1.size; (try simp at hz1); (try simp at hy1); (try simp at hc1); (try simp at hf1))
    go_wp2
    refine bodyPost_ret (v := .tuple #[.agg #[.int .i64 0, .int .i64 0], .bool false]) (by simp (maxDischargeDepth := 9) [results, Try.results35, go_sem, *]) rfl ⟨by simp [FracV], ?_⟩
    (repeat (first | with_reducible exact Below.refl _ _ | with_reducible assumption | with_reducible refine Below.alloc' ?_ ?_ _ | with_reducible refine Below.setCell' ?_ ?_ _ | with_reducible refine Below.drewN' ?_ _ | with_reducible refine Below.drew ?_ | with_reducible refine Below.transA ?_ (by assumption) ?_ | omega | (focus (simp; done)) | (focus (simp; omega))))
  · have hr' := hr
    simp only [Bool.and_eq_true] at hr'
    have p1 := frac_mul hr'.1 hr'.2
    have p2 := frac_mul hr'.2 hr'.1
    have p3 := frac_ne hr'.1 hr'.2
    obtain ⟨x, hx⟩ : ∃ x, a * d = x := ⟨_, rfl⟩
    obtain ⟨y, hy⟩ : ∃ y, c * b = y := ⟨_, rfl⟩
    obtain ⟨q, hq⟩ : ∃ q, b * d = q := ⟨_, rfl⟩
    rw [hx] at p1 ⊢
    rw [hy] at p2 ⊢
    rw [hq] at p3 ⊢
    have hwx : IntKind.i64.wrap (a * d) = x := by rw [hx]; exact IntWalk.i64_in _ (by omega)
    have hwy : IntKind.i64.wrap (c * b) = y := by rw [hy]; exact IntWalk.i64_in _ (by omega)
    have hwq : IntKind.i64.wrap (b * d) = q := by rw [hq]; exact IntWalk.i64_in _ (by omega)
    have HL := Lib.hid (fun W => lowest_any (x + y) q W (by omega) (by omega) (by omega))
    have HR := Lib.hid hr
    obtain ⟨p10, p11⟩ := p1
    obtain ⟨p20, p21⟩ := p2
    clear hr hr' hx hy hq p3
    generalize lowN (x + y) q = N at *
    generalize lowM (x + y) q = M at *
    generalize lowOk (x + y) q = O at *
    go_enter Try.func35, Try.ntmps35
    go_wp2_with fail
    refine (areFractions_r HR.out _ _ ?_ ?_ ?_ ?_ ?_).mono ?_
    · rw [cell_new _ _ _ _ _ (by simp)]; rfl
    · rw [cell_new _ _ _ _ _ (by simp)]; rfl
    · rw [cell_new _ _ _ _ _ (by simp)]; rfl
    · rw [cell_new _ _ _ _ _ (by simp)]; rfl
    · simp
    rintro e w1 ⟨rfl, hb1⟩; (obtain ⟨hc1, hf1, hz1⟩ := bcell hb1; have hy1 := hb1.size; (try simp at hz1); (try simp at hy1); (try simp at hc1); (try simp at hf1))
    go_wp2_with fail
    refine (HL.out _).mono ?_; rintro e w2 ⟨rfl, hb2⟩; (replace hb2 := hb1.trans (hb2.mono hb1.size); clear hc1 hf1 hz1 hy1 hb1; (obtain ⟨hc2, hf2, hz2⟩ := bcell hb2; have hy2 := hb2.size; (try simp at hz2); (try simp at hy2); (try simp at hc2); (try simp at hf2)))
    go_wp2
    refine bodyPost_ret (v := .tuple #[.agg #[.int .i64 N, .int .i64 M], .bool O]) (by simp (maxDischargeDepth := 9) [results, Try.results35, go_sem, *]) rfl ⟨by simp [FracV], ?_⟩
    (repeat (first | with_reducible exact Below.refl _ _ | with_reducible assumption | with_reducible refine Below.alloc' ?_ ?_ _ | with_reducible refine Below.setCell' ?_ ?_ _ | with_reducible refine Below.drewN' ?_ _ | with_reducible refine Below.drew ?_ | with_reducible refine Below.transA ?_ (by assumption) ?_ | omega | (focus (simp; done)) | (focus (simp; omega))))

set_option maxHeartbeats 1000000 in
theorem implTimes_any (a b c d : Int) (w : World) :
    Calls Try.prog 37 #[.agg #[.int .i64 a, .int .i64 b], .agg #[.int .i64 c, .int .i64 d]] w fun e w' => e = .returned (FracV (if isFrac a b && isFrac c d then lowN (a * c) (b * d) else 0) (if isFrac a b && isFrac c d then lowM (a * c) (b * d) else 0) (isFrac a b && isFrac c d && lowOk (a * c) (b * d))) ∧ Below w.heap.size w w' := by
  cases hr : (isFrac a b && isFrac c d)
  · have HR := Lib.hid hr
    clear hr
    go_enter Try.func37, Try.ntmps37
    go_wp2_with fail
    refine (areFractions_r HR.out _ _ ?_ ?_ ?_ ?_ ?_).mono ?_
    · rw [cell_new _ _ _ _ _ (by simp)]; rfl
    · rw [cell_new _ _ _ _ _ (by simp)]; rfl
    · rw [cell_new _ _ _ _ _ (by simp)]; rfl
    · rw [cell_new _ _ _ _ _ (by simp)]; rfl
    · simp
    rintro e w1 ⟨rfl, hb1⟩; (obtain ⟨hc1, hf1, hz1⟩ := bcell hb1; have hy1 := hb1.size; (try simp at hz1); (try simp at hy1); (try simp at hc1); (try simp at hf1))
    go_wp2
    refine bodyPost_ret (v := .tuple #[.agg #[.int .i64 0, .int .i64 0], .bool false]) (by simp (maxDischargeDepth := 9) [results, Try.results37, go_sem, *]) rfl ⟨by simp [FracV], ?_⟩
    (repeat (first | with_reducible exact Below.refl _ _ | with_reducible assumption | with_reducible refine Below.alloc' ?_ ?_ _ | with_reducible refine Below.setCell' ?_ ?_ _ | with_reducible refine Below.drewN' ?_ _ | with_reducible refine Below.drew ?_ | with_reducible refine Below.transA ?_ (by assumption) ?_ | omega | (focus (simp; done)) | (focus (simp; omega))))
  · have hr' := hr
    simp only [Bool.and_eq_true] at hr'
    have b1 := frac_bd hr'.1
    have b2 := frac_bd hr'.2
    have p1 := mul_bd (a := a) (d := c) (A := 1000000000) (D := 1000000000) (by omega) (by omega)
    have p3 := frac_ne hr'.1 hr'.2
    obtain ⟨x, hx⟩ : ∃ x, a * c = x := ⟨_, rfl⟩
    obtain ⟨q, hq⟩ : ∃ q, b * d = q := ⟨_, rfl⟩
    rw [hx] at p1 ⊢
    rw [hq] at p3 ⊢
    have hwx : IntKind.i64.wrap (a * c) = x := by rw [hx]; exact IntWalk.i64_in _ (by omega)
    have hwq : IntKind.i64.wrap (b * d) = q := by rw [hq]; exact IntWalk.i64_in _ (by omega)
    have HL := Lib.hid (fun W => lowest_any x q W (by omega) (by omega) (by omega))
    have HR := Lib.hid hr
    clear hr hr' hx hq p3 p1 b1 b2
    generalize lowN x q = N at *
    generalize lowM x q = M at *
    generalize lowOk x q = O at *
    go_enter Try.func37, Try.ntmps37
    go_wp2_with fail
    refine (areFractions_r HR.out _ _ ?_ ?_ ?_ ?_ ?_).mono ?_
    · rw [cell_new _ _ _ _ _ (by simp)]; rfl
    · rw [cell_new _ _ _ _ _ (by simp)]; rfl
    · rw [cell_new _ _ _ _ _ (by simp)]; rfl
    · rw [cell_new _ _ _ _ _ (by simp)]; rfl
    · simp
    rintro e w1 ⟨rfl, hb1⟩; (obtain ⟨hc1, hf1, hz1⟩ := bcell hb1; have hy1 := hb1.size; (try simp at hz1); (try simp at hy1); (try simp at hc1); (try simp at hf1))
    go_wp2_with fail
    refine (HL.out _).mono ?_; rintro e w2 ⟨rfl, hb2⟩; (replace hb2 := hb1.trans (hb2.mono hb1.size); clear hc1 hf1 hz1 hy1 hb1; (obtain ⟨hc2, hf2, hz2⟩ := bcell hb2; have hy2 := hb2.size; (try simp at hz2); (try simp at hy2); (try simp at hc2); (try simp at hf2)))
    go_wp2
    refine bodyPost_ret (v := .tuple #[.agg #[.int .i64 N, .int .i64 M], .bool O]) (by simp (maxDischargeDepth := 9) [results, Try.results37, go_sem, *]) rfl ⟨by simp [FracV], ?_⟩
    (repeat (first | with_reducible exact Below.refl _ _ | with_reducible assumption | with_reducible refine Below.alloc' ?_ ?_ _ | with_reducible refine Below.setCell' ?_ ?_ _ | with_reducible refine Below.drewN' ?_ _ | with_reducible refine Below.drew ?_ | with_reducible refine Below.transA ?_ (by assumption) ?_ | omega | (focus (simp; done)) | (focus (simp; omega))))
end Go.Proofs.Ytombfbmcplefgaa
