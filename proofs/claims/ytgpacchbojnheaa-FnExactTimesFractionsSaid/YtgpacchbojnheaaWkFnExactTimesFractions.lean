/- The walk of FnExactTimesFractions. -/
import Derived.Test.YtgpacchbojnheaaS4
namespace Go.Proofs.Ytgpacchbojnheaa
open Go.ChangeShapes Go.WideShapes Go.ChangeAt Go.RowKit
open Go.ChangeMaps (open_string shut_string)
set_option maxHeartbeats 4000000 in
set_option maxRecDepth 100000 in
theorem FnExactTimesFractions_walk (a b c d : Int) (_ha : -9223372036854775808 ≤ a ∧ a ≤ 9223372036854775807) (_hb : -9223372036854775808 ≤ b ∧ b ≤ 9223372036854775807) (_hc : -9223372036854775808 ≤ c ∧ c ≤ 9223372036854775807) (_hd : -9223372036854775808 ≤ d ∧ d ≤ 9223372036854775807) (w : World) :
    Calls Try.prog 10 #[.agg #[.int .i64 a, .int .i64 b], .agg #[.int .i64 c, .int .i64 d]] w fun e w' => e = .returned (.bool true) ∧ Below w.heap.size w w' := by
  clear _ha _hb _hc _hd
  have h1 := fun W => specTimes_any a b c d W
  have h2 := fun W => implTimes_any a b c d W
  generalize (if (isFrac a b && isFrac c d) = true then lowN (a * c) (b * d) else 0) = N at *
  generalize (if (isFrac a b && isFrac c d) = true then lowM (a * c) (b * d) else 0) = M at *
  generalize (isFrac a b && isFrac c d && lowOk (a * c) (b * d)) = r at *
  unfold FracV at h1 h2
  have H1 := Lib.hid h1
  have H2 := Lib.hid h2
  clear h1 h2
  go_enter Try.func10, Try.ntmps10
  go_upto_region 1 with (fail)
  go_cut [5, 6] (fun s5 s6 wx => ∃ g : Nat, s5 = .pointer (some ⟨g, 0, none⟩) ∧ s6 = .bool r ∧ wx.cell? ⟨g, 0, none⟩ = some (.int .i64 N) ∧ wx.cell? ⟨g, 1, none⟩ = some (.int .i64 M) ∧ S4 w w a b c d wx)
  case first =>
    go_region_held3 (fun w' => w'.cell? ⟨w.heap.size, 0, none⟩ = some (.int .i64 a) ∧ w'.cell? ⟨w.heap.size, 1, none⟩ = some (.int .i64 b) ∧ w'.cell? ⟨w.heap.size + 1, 0, none⟩ = some (.int .i64 c) ∧ w'.cell? ⟨w.heap.size + 1, 1, none⟩ = some (.int .i64 d) ∧ S4 w w a b c d w')
      (((try go_split_ands); refine S4.all ?_; (repeat (first | with_reducible assumption | with_reducible exact S4.base _ _ _ _ _ | with_reducible refine S4.drew ?_ | with_reducible refine S4.alloc ?_ _ | with_reducible refine S4.set ?_ ?_ ?_ _ _ | omega | (focus (simp; done)) | (focus (simp; omega)))); done))
      (first | (go_at_call 20; refine (toIntA2_exact _ _ _).mono ?_; rintro e w1 ⟨rfl, rfl⟩) | (go_at_call 29; refine (H1.out _).mono ?_; rintro e w1 ⟨rfl, hb1⟩; (have ks := S4.call (by first | (go_split_ands; with_reducible assumption) | (repeat (first | with_reducible exact S4.base _ _ _ _ _ | with_reducible refine S4.drew ?_ | with_reducible refine S4.alloc ?_ _))) hb1); (have ksl := ks.lt); (have ksu := ks.lu); (obtain ⟨hc1, hf1, hz1⟩ := bcell hb1; have hy1 := hb1.size; (try simp at hz1); (try simp at hy1); (try simp at hc1); (try simp at hf1))))
    all_goals
      go_wp2_with fail
      go_meet
      go_split_ands
      exact ⟨_, rfl, rfl, by (first | (rw [cell_new _ _ _ _ _ (by simp)]; rfl) | (simp (maxDischargeDepth := 9) [*, go_sem]; done)), by (first | (rw [cell_new _ _ _ _ _ (by simp)]; rfl) | (simp (maxDischargeDepth := 9) [*, go_sem]; done)), by assumption⟩
  case rest =>
    obtain ⟨g, rfl, rfl, hg0, hg1, hs⟩ := hcut
    have hs' := hs.re
    obtain ⟨q0, q1, q2, q3, q4⟩ := hs'.all
    have hsl := hs'.lt
    clear hs
    go_upto_region 2 with (fail)
    go_cut [7, 8] (fun s7 s8 wx => ∃ g7 : Nat, s7 = .pointer (some ⟨g7, 0, none⟩) ∧ s8 = .bool r ∧ wx.cell? ⟨g7, 0, none⟩ = some (.int .i64 N) ∧ wx.cell? ⟨g7, 1, none⟩ = some (.int .i64 M) ∧ S4 w wc a b c d wx)
    case first =>
      go_region_held3 (fun w' => w'.cell? ⟨w.heap.size, 0, none⟩ = some (.int .i64 a) ∧ w'.cell? ⟨w.heap.size, 1, none⟩ = some (.int .i64 b) ∧ w'.cell? ⟨w.heap.size + 1, 0, none⟩ = some (.int .i64 c) ∧ w'.cell? ⟨w.heap.size + 1, 1, none⟩ = some (.int .i64 d) ∧ S4 w wc a b c d w')
        (((try go_split_ands); refine S4.all ?_; (repeat (first | with_reducible assumption | with_reducible exact S4.base _ _ _ _ _ | with_reducible refine S4.drew ?_ | with_reducible refine S4.alloc ?_ _ | with_reducible refine S4.set ?_ ?_ ?_ _ _ | omega | (focus (simp; done)) | (focus (simp; omega)))); done))
        (first | (go_at_call 20; refine (toIntA2_exact _ _ _).mono ?_; rintro e w1 ⟨rfl, rfl⟩) | (go_at_call 30; refine (H2.out _).mono ?_; rintro e w1 ⟨rfl, hb1⟩; (have ks := S4.call (by first | (go_split_ands; with_reducible assumption) | (repeat (first | with_reducible exact S4.base _ _ _ _ _ | with_reducible refine S4.drew ?_ | with_reducible refine S4.alloc ?_ _))) hb1); (have ksl := ks.lt); (have ksu := ks.lu); (obtain ⟨hc1, hf1, hz1⟩ := bcell hb1; have hy1 := hb1.size; (try simp at hz1); (try simp at hy1); (try simp at hc1); (try simp at hf1))))
      all_goals
        go_wp2_with fail
        go_meet
        go_split_ands
        exact ⟨_, rfl, rfl, by (first | (rw [cell_new _ _ _ _ _ (by simp)]; rfl) | (simp (maxDischargeDepth := 9) [*, go_sem]; done)), by (first | (rw [cell_new _ _ _ _ _ (by simp)]; rfl) | (simp (maxDischargeDepth := 9) [*, go_sem]; done)), by assumption⟩
    case rest =>
      obtain ⟨g7, rfl, rfl, hg2, hg3, hs2⟩ := hcut
      have hb := hs2.2.2.2.2.2.1
      have k0 := keep_cell hs2.2.2.2.2.2.2 hg0
      have k1 := keep_cell hs2.2.2.2.2.2.2 hg1
      clear hs2 hs' q0 q1 q2 q3 q4 hg0 hg1
      cases r
      all_goals
        go_wp2_with (go_at_call 24; refine (eqIntA2_yes N M _).mono ?_; rintro e w4 ⟨rfl, hb4⟩)
        go_ret
        exact ⟨rfl, keep_below hb4 hb⟩
end Go.Proofs.Ytgpacchbojnheaa
