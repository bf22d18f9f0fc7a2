/- The walk of FnExactParseTree. -/
import Derived.Test.YtfpokpgkkjibfaaDoorParI
import Derived.Deep.DeepCutAuto
import Derived.StillTailTactics
namespace Go.Proofs.YtfpokpgkkjibfaaDoor
open Go.ChangeShapes Go.WideShapes Go.ChangeAt Go.RowKit
open Go.ChangeMaps (open_string shut_string)
set_option maxHeartbeats 4000000 in
set_option maxRecDepth 100000 in
theorem FnExactParseTree_walk (s : ByteArray) (hs : s.size ≤ maxLen) (w : World) (hF : TabE w ∧ SynC w ∧ MaxC w) :
    Calls Tryd.prog 4 #[.string s] w fun e w' => e = .returned (.bool true) ∧ Below w.heap.size w w' := by
  unfold maxLen at hs
  by_cases hbs : s.size ≤ 1048576
  case neg =>
    go_enter Tryd.func4, Tryd.ntmps4
    go_wp2
    go_ret
    exact ⟨rfl, Below.refl _ _⟩
  obtain ⟨hT, hC, hM⟩ := hF
  obtain ⟨b, hb⟩ : ∃ b : Bool, b = true ↔ ptOk s := by classical exact ⟨decide (ptOk s), by simp⟩
  have H1 := Lib.hid (fun W => specParseTree_any s W hbs b hb)
  have H2 := Lib.hid (fun W (h : Below w.heap.size w W) => implParseTree_any s W hbs b hb (hT.below h) (hC.below h) (hM.below h))
  have hXn : (prPick b (ptX s)).length ≤ 24 := by
    cases b with
    | false => simp [prPick]
    | true => have := (good_len (hb.1 rfl).2.1).2.1; exact this
  have hYn : (prPick b (ptY s)).length ≤ 24 := by
    cases b with
    | false => simp [prPick]
    | true => have := good_len (hb.1 rfl).2.1; show (ptY s).length ≤ 24; omega
  generalize prPick b (ptX s) = X at *
  generalize prPick b (ptY s) = Y at *
  clear hb hT hC hM
  go_enter Tryd.func4, Tryd.ntmps4
  go_wp2_with fail
  refine (H1.out _).mono ?_
  rintro e1 w1 ⟨A1, c1, B1, d1, rfl, hA1, hB1, hap1, hb1⟩
  replace hb1 : Below w.heap.size w w1 := hb1
  go_upto_region 4 with (fail)
  obtain ⟨w2, hw2⟩ : ∃ W, W = w1.alloc (.cells #[.slice A1 X.length c1, .slice B1 Y.length d1] 34) := ⟨_, rfl⟩
  have h3 : BlkT w2 w1.heap.size (.slice A1 X.length c1) (.slice B1 Y.length d1) := by rw [hw2]; exact BlkT.new w1 _ _ rfl
  have hbA : Below w1.heap.size w1 w2 := by rw [hw2]; exact (Below.refl _ _).alloc (Nat.le_refl _) _
  have hw := keep_below hbA hb1
  replace hA1 := hA1.below hbA
  replace hB1 := hB1.below hbA
  have hg3 := h3.lt
  rw [← hw2]
  clear hw2 hbA hb1
  generalize w1.heap.size = g3 at *
  go_wp2_with fail
  refine (H2.out _ hw).mono ?_
  rintro e1 w4 ⟨A2, c2, B2, d2, rfl, hA2, hB2, hap2, hb⟩
  have hwz2 : w.heap.size ≤ w2.heap.size := hw.size
  have hwz4 : w2.heap.size ≤ w4.heap.size := hb.size
  have hx1 := own_apartA hA2 hA1 (Nat.le_refl _)
  have hx2 := own_apartA hA2 hB1 (Nat.le_refl _)
  have hx3 := own_apartA hB2 hA1 (Nat.le_refl _)
  have hx4 := own_apartA hB2 hB1 (Nat.le_refl _)
  have hf1 := own_farA hA2 hg3
  have hf2 := own_farA hB2 hg3
  have hf3 : A2 ≠ some ⟨w4.heap.size, 0, none⟩ := own_ltA hA2 (Nat.le_refl _)
  have hf4 : B2 ≠ some ⟨w4.heap.size, 0, none⟩ := own_ltA hB2 (Nat.le_refl _)
  replace h3 := h3.below hb
  replace hA1 := hA1.below hb
  replace hB1 := hB1.below hb
  replace hw := keep_below hb hw
  clear hb hap1
  go_upto_region 5 with (fail)
  obtain ⟨w5, hw5⟩ : ∃ W, W = w4.alloc (.cells #[.slice A2 X.length c2, .slice B2 Y.length d2] 34) := ⟨_, rfl⟩
  have h5 : BlkT w5 w4.heap.size (.slice A2 X.length c2) (.slice B2 Y.length d2) := by rw [hw5]; exact BlkT.new w4 _ _ rfl
  have hb : Below w4.heap.size w4 w5 := by rw [hw5]; exact (Below.refl _ _).alloc (Nat.le_refl _) _
  rw [← hw5]
  replace h3 := h3.below hb
  replace hA1 := hA1.below hb
  replace hB1 := hB1.below hb
  replace hA2 := hA2.below hb
  replace hB2 := hB2.below hb
  replace hw := keep_below hb hw
  clear hw5 hb
  generalize w4.heap.size = g5 at *
  have t0 := h5.c0
  have t1 := h5.c1
  have t2 := h3.c0
  have t3 := h3.c1
  have hXm : X.length ≤ maxLen := by unfold maxLen; omega
  have hYm : Y.length ≤ maxLen := by unfold maxLen; omega
  go_wp2_with fail
  refine (eqTree_same A2 B2 A1 B1 _ _ _ _ X Y _ hA2.ints hB2.ints hA1.ints hB1.ints hXm hYm).mono ?_
  rintro e1 w6 ⟨rfl, hb⟩
  replace h3 := h3.below hb
  replace h5 := h5.below hb
  replace hA1 := hA1.below hb
  replace hB1 := hB1.below hb
  replace hA2 := hA2.below hb
  replace hB2 := hB2.below hb
  replace hw := keep_below hb hw
  clear hb t0 t1 t2 t3
  have t0 := h5.c0
  have t1 := h5.c1
  have hB6 : w2.heap.size ≤ w6.heap.size := Nat.le_trans hwz4 (Nat.le_of_lt h5.lt)
  go_wp2_with fail
  refine (markTree_own A2 B2 c2 d2 X Y _ w2.heap.size hB6 hA2 hB2 hap2 (by omega) (by omega)).mono ?_
  rintro e1 w7 ⟨rfl, hm1, hm2, wm, hk1, hk2⟩
  replace h3 := hk1.blk hk2 h3 hf1 hf2
  replace h5 := hk1.blk hk2 h5 hf3 hf4
  replace hA1 := hk2.own (hk1.own hA1 hx1) hx3
  replace hB1 := hk2.own (hk1.own hB1 hx2) hx4
  replace hw := hk2.below (hk1.below hw (fun g hg => own_farA hA2 (by omega))) (fun g hg => own_farA hB2 (by omega))
  clear hA2 hB2 hk1 hk2 hap2 hx1 hx2 hx3 hx4 hf1 hf2 hf3 hf4 t0 t1 hB6
  have t0 := h5.c0
  have t1 := h5.c1
  go_wp2_with fail
  refine (heldTree_any A2 B2 c2 d2 X.length Y.length _ hm1.ints hm2.ints (by omega) (by omega)).mono ?_
  rintro e1 w8 ⟨rfl, hb⟩
  replace h3 := h3.below hb
  replace h5 := h5.below hb
  replace hA1 := hA1.below hb
  replace hB1 := hB1.below hb
  replace hm1 := hm1.below hb
  replace hm2 := hm2.below hb
  replace hw := keep_below hb hw
  clear hb t0 t1
  go_wp2_with fail
  refine (H2.out _ hw).mono ?_
  rintro e1 w9 ⟨A3, c3, B3, d3, rfl, hA3, hB3, _, hb⟩
  replace h3 := h3.below hb
  replace h5 := h5.below hb
  replace hA1 := hA1.below hb
  replace hB1 := hB1.below hb
  replace hm1 := hm1.below hb
  replace hm2 := hm2.below hb
  replace hw := keep_below hb hw
  clear hb
  go_upto_region 16 with (fail)
  obtain ⟨wA, hwA⟩ : ∃ W, W = w9.alloc (.cells #[.slice A3 X.length c3, .slice B3 Y.length d3] 34) := ⟨_, rfl⟩
  have h9 : BlkT wA w9.heap.size (.slice A3 X.length c3) (.slice B3 Y.length d3) := by rw [hwA]; exact BlkT.new w9 _ _ rfl
  have hb : Below w9.heap.size w9 wA := by rw [hwA]; exact (Below.refl _ _).alloc (Nat.le_refl _) _
  rw [← hwA]
  replace h3 := h3.below hb
  replace h5 := h5.below hb
  replace hA1 := hA1.below hb
  replace hB1 := hB1.below hb
  replace hm1 := hm1.below hb
  replace hm2 := hm2.below hb
  replace hA3 := hA3.below hb
  replace hB3 := hB3.below hb
  replace hw := keep_below hb hw
  clear hwA hb
  generalize w9.heap.size = g9 at *
  have t0 := h9.c0
  have t1 := h9.c1
  have t2 := h3.c0
  have t3 := h3.c1
  go_wp2_with fail
  refine (eqTree_same A3 B3 A1 B1 _ _ _ _ X Y _ hA3.ints hB3.ints hA1.ints hB1.ints hXm hYm).mono ?_
  rintro e1 wB ⟨rfl, hb⟩
  replace h5 := h5.below hb
  replace hm1 := hm1.below hb
  replace hm2 := hm2.below hb
  replace hw := keep_below hb hw
  clear hb t0 t1 t2 t3 hA1 hB1 hA3 hB3 h3 h9
  have t0 := h5.c0
  have t1 := h5.c1
  go_wp2_with fail
  refine (heldTree_any A2 B2 c2 d2 X.length Y.length _ hm1.ints hm2.ints (by omega) (by omega)).mono ?_
  rintro e1 wC ⟨rfl, hb⟩
  replace hw := keep_below hb hw
  clear hb
  go_wp2
  go_ret
  exact ⟨rfl, hw⟩
end Go.Proofs.YtfpokpgkkjibfaaDoor
