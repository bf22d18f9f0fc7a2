/- The walk of FnExactPruneTree. -/
import Derived.Test.YtombfbmcplefgaaMgPr12
import Derived.Test.YtombfbmcplefgaaMgPr13
import Derived.Test.YtombfbmcplefgaaMgPr5
namespace Go.Proofs.Ytombfbmcplefgaa
open Go.ChangeShapes Go.WideShapes Go.ChangeAt Go.RowKit
open Go.ChangeMaps (open_string shut_string)
set_option maxHeartbeats 8000000 in
set_option maxRecDepth 100000 in
theorem FnExactPruneTree_walk (A : Option Addr) (n c : Nat) (xs : List Int) (B : Option Addr) (m e : Nat) (ys : List Int) (d1 : Int) (w : World) (hP : xs.length = n ∧ n ≤ c ∧ c ≤ maxLen ∧ Bd xs ∧ IntS w A xs) (hQ : ys.length = m ∧ m ≤ e ∧ e ≤ maxLen ∧ Bd ys ∧ IntS w B ys) (hd1 : -9223372036854775808 ≤ d1 ∧ d1 ≤ 9223372036854775807) :
    Calls Try.prog 4 #[.agg #[.slice A n c, .slice B m e], .int .i64 d1] w fun e1 w' => e1 = .returned (.bool true) ∧ Below w.heap.size w w' := by
  obtain ⟨rfl, hnc, hc, hx, hA⟩ := hP
  obtain ⟨rfl, hme, he, hy, hB⟩ := hQ
  by_cases hs : xs.length + ys.length ≤ 1048576
  case neg =>
    have HZ := Lib.hid (fun W => szTree_no A B xs.length c ys.length e W (by omega) (by omega) (by omega))
    clear hA hB hx hy 
    go_enter Try.func4, Try.ntmps4
    go_wp2_with fail
    refine (HZ.out _).mono ?_
    rintro e1 w1 ⟨rfl, hb1⟩
    go_wp2
    go_ret
    exact ⟨rfl, by (repeat (first | with_reducible exact Below.refl _ _ | with_reducible assumption | with_reducible refine Below.alloc' ?_ ?_ _ | with_reducible refine Below.setCell' ?_ ?_ _ | with_reducible refine Below.drewN' ?_ _ | with_reducible refine Below.drew ?_ | with_reducible refine Below.transA ?_ (by assumption) ?_ | omega | (focus (simp; done)) | (focus (simp; omega))))⟩
  case pos =>
    have hn : xs.length ≤ 1048576 := by omega
    have hm : ys.length ≤ 1048576 := by omega
    have H1 := Lib.hid (fun W P Q cp ce (h : IntS W P xs) (k : IntS W Q ys) => specPruneTree_any P Q cp ce xs ys d1 W h k hx hy hd1 hn hm)
    have H2 := Lib.hid (fun W P Q cp ce (h : IntS W P xs) (k : IntS W Q ys) => implPruneTree_any P Q cp ce xs ys d1 W h k hx hy hd1 hn hm)
    have hn' : xs.length ≤ maxLen := by unfold maxLen; omega
    have hm' : ys.length ≤ maxLen := by unfold maxLen; omega
    have hl : ¬ ((1048576 : Int) - xs.length - ys.length < 0) := by omega
    have hX : (prRP xs ys d1).length ≤ 1048576 := prRP_len _ _ _ hn
    have hY : (prRW xs ys d1).length ≤ 1048576 := prRW_len _ _ _ hn
    generalize prRP xs ys d1 = X at *
    generalize prRW xs ys d1 = Y at *
    generalize prOk xs ys d1 = r at *
    have hX' : X.length ≤ maxLen := by unfold maxLen; omega
    have hY' : Y.length ≤ maxLen := by unfold maxLen; omega
    clear hx hy
    go_enter Try.func4, Try.ntmps4
    go_wp2_with fail
    refine (szTree_yes A B _ c _ e _ hs).mono ?_
    rintro e1 w1 ⟨rfl, hb1⟩
    have hw : Below w.heap.size w w1 := by (repeat (first | with_reducible exact Below.refl _ _ | with_reducible assumption | with_reducible refine Below.alloc' ?_ ?_ _ | with_reducible refine Below.setCell' ?_ ?_ _ | with_reducible refine Below.drewN' ?_ _ | with_reducible refine Below.drew ?_ | with_reducible refine Below.transA ?_ (by assumption) ?_ | omega | (focus (simp; done)) | (focus (simp; omega))))
    have hx0 : w1.cell? ⟨w.heap.size, 0, none⟩ = some (.slice A xs.length c) := keep_cell hb1 (cell_new _ _ _ _ _ rfl)
    have hx1 : w1.cell? ⟨w.heap.size, 1, none⟩ = some (.slice B ys.length e) := keep_cell hb1 (cell_new _ _ _ _ _ rfl)
    clear hb1
    go_wp2_with fail
    refine (toTree_any A B c e xs ys _ (hA.below hw) (hB.below hw) hn hm).mono ?_
    rintro e1 wl1 ⟨rfl, hp, hq, hb⟩
    replace hx0 := keep_cell hb hx0
    replace hx1 := keep_cell hb hx1
    replace hw := keep_below hb hw
    clear hb
    go_wp2_with fail
    refine (H1.out _ _ _ _ _ hp.ints hq.ints).mono ?_
    rintro e1 wl2 ⟨A1, c1, B1, e1', rfl, hA1, hB1, _, hb⟩
    replace hx0 := keep_cell hb hx0
    replace hx1 := keep_cell hb hx1
    replace hw := keep_below hb hw
    clear hb
    clear hp hq
    have hU1 := hA1.upper
    have hV1 := hB1.upper
    have hs3 : w.heap.size < wl2.heap.size := World.block_lt_of_cell? _ _ hx0
    go_upto_region 6 with (fail)
    have hg3 := hs3
    clear hs3
    obtain ⟨wb3, hwn⟩ : ∃ W, W = wl2.alloc (.cells #[.slice A1 X.length c1, .slice B1 Y.length e1'] 28) := ⟨_, rfl⟩
    have hW0 : BlkT wb3 wl2.heap.size (.slice A1 X.length c1) (.slice B1 Y.length e1') := by rw [hwn]; exact BlkT.new wl2 _ _ rfl
    have hbA : Below wl2.heap.size wl2 wb3 := by rw [hwn]; exact (Below.refl _ _).alloc (Nat.le_refl _) _
    replace hA1 := hA1.below hbA
    replace hB1 := hB1.below hbA
    replace hU1 := hU1.below hbA
    replace hV1 := hV1.below hbA
    replace hx0 := keep_cell hbA hx0
    replace hx1 := keep_cell hbA hx1
    replace hw := keep_below hbA hw
    (try rw [← hwn])
    clear hwn hbA
    generalize wl2.heap.size = g3 at hW0 hU1 hV1 hg3 ⊢
    have hg4 := hW0.lt
    go_wp2_with fail
    refine (toTree_any A B c e xs ys _ (hA.below hw) (hB.below hw) hn hm).mono ?_
    rintro e1 wl4 ⟨rfl, hp, hq, hb⟩
    replace hA1 := hA1.below hb
    replace hB1 := hB1.below hb
    replace hU1 := hU1.below hb
    replace hV1 := hV1.below hb
    replace hW0 := hW0.below hb
    replace hx0 := keep_cell hb hx0
    replace hx1 := keep_cell hb hx1
    replace hw := keep_below hb hw
    clear hb
    have hpl : g3 < wb3.heap.size + 1 + 1 + 1 := by omega
    have hql : g3 < wb3.heap.size + 1 + 1 + 1 + 1 := by omega
    have hpq : wb3.heap.size + 1 + 1 + 1 ≠ wb3.heap.size + 1 + 1 + 1 + 1 := by omega
    generalize wb3.heap.size + 1 + 1 + 1 + 1 = gq at hq hql hpq ⊢
    generalize wb3.heap.size + 1 + 1 + 1 = gp at hp hpl hpq ⊢
    have hpx := hp.lt
    have hqx := hq.lt
    go_upto_region 7 with (fail)
    obtain ⟨wb5, hwn⟩ : ∃ W, W = wl4.alloc (.cells #[.slice (some ⟨gp, 0, none⟩) xs.length xs.length, .slice (some ⟨gq, 0, none⟩) ys.length ys.length] 28) := ⟨_, rfl⟩
    have hX0 : BlkT wb5 wl4.heap.size (.slice (some ⟨gp, 0, none⟩) xs.length xs.length) (.slice (some ⟨gq, 0, none⟩) ys.length ys.length) := by rw [hwn]; exact BlkT.new wl4 _ _ rfl
    have hbA : Below wl4.heap.size wl4 wb5 := by rw [hwn]; exact (Below.refl _ _).alloc (Nat.le_refl _) _
    replace hA1 := hA1.below hbA
    replace hB1 := hB1.below hbA
    replace hU1 := hU1.below hbA
    replace hV1 := hV1.below hbA
    replace hW0 := hW0.below hbA
    replace hp := hp.below hbA
    replace hq := hq.below hbA
    replace hx0 := keep_cell hbA hx0
    replace hx1 := keep_cell hbA hx1
    replace hw := keep_below hbA hw
    (try rw [← hwn])
    clear hwn hbA
    generalize wl4.heap.size = gx at hX0 hpx hqx ⊢
    have hA1' := hA1
    have hB1' := hB1
    have hgx := hX0.lt
    have tt60 := hX0.c0
    have tt61 := hX0.c1
    go_wp2_with fail
    refine (H2.out _ _ _ _ _ hp.ints hq.ints).mono ?_
    rintro e1 wl7 ⟨A2, c2, B2, e2, rfl, hA2, hB2, hap2, hb⟩
    have hb67 := hb.size
    replace hA1 := hA1.below hb
    replace hB1 := hB1.below hb
    replace hU1 := hU1.below hb
    replace hV1 := hV1.below hb
    replace hW0 := hW0.below hb
    replace hp := hp.below hb
    replace hq := hq.below hb
    replace hX0 := hX0.below hb
    replace hx0 := keep_cell hb hx0
    replace hx1 := keep_cell hb hx1
    replace hw := keep_below hb hw
    clear hb tt60 tt61
    generalize hBe : wb5.heap.size = B6 at hA2 hB2 hgx hb67
    have HBe := Lib.hid hBe
    clear hBe
    go_upto_region 8 with (fail)
    have hf3 : A2 ≠ some ⟨wl7.heap.size, 0, none⟩ := own_ltA hA2 (Nat.le_refl _)
    have hf4 : B2 ≠ some ⟨wl7.heap.size, 0, none⟩ := own_ltA hB2 (Nat.le_refl _)
    obtain ⟨wb8, hwn⟩ : ∃ W, W = wl7.alloc (.cells #[.slice A2 X.length c2, .slice B2 Y.length e2] 28) := ⟨_, rfl⟩
    have hG0 : BlkT wb8 wl7.heap.size (.slice A2 X.length c2) (.slice B2 Y.length e2) := by rw [hwn]; exact BlkT.new wl7 _ _ rfl
    have hbA : Below wl7.heap.size wl7 wb8 := by rw [hwn]; exact (Below.refl _ _).alloc (Nat.le_refl _) _
    replace hA1 := hA1.below hbA
    replace hB1 := hB1.below hbA
    replace hU1 := hU1.below hbA
    replace hV1 := hV1.below hbA
    replace hW0 := hW0.below hbA
    replace hp := hp.below hbA
    replace hq := hq.below hbA
    replace hX0 := hX0.below hbA
    replace hA2 := hA2.below hbA
    replace hB2 := hB2.below hbA
    replace hx0 := keep_cell hbA hx0
    replace hx1 := keep_cell hbA hx1
    replace hw := keep_below hbA hw
    (try rw [← hwn])
    clear hwn hbA
    generalize wl7.heap.size = g5 at hG0 hb67 hf3 hf4 ⊢
    have hg5 := hG0.lt
    have tt90 := hG0.c0
    have tt91 := hG0.c1
    have tt100 := hW0.c0
    have tt101 := hW0.c1
    go_wp2_with fail
    refine (eqTree_same A2 B2 A1 B1 _ _ _ _ X Y _ hA2.ints hB2.ints hA1.ints hB1.ints hX' hY').mono ?_
    rintro e1 wl11 ⟨rfl, hb⟩
    replace hA1 := hA1.below hb
    replace hB1 := hB1.below hb
    replace hU1 := hU1.below hb
    replace hV1 := hV1.below hb
    replace hW0 := hW0.below hb
    replace hp := hp.below hb
    replace hq := hq.below hb
    replace hX0 := hX0.below hb
    replace hA2 := hA2.below hb
    replace hB2 := hB2.below hb
    replace hG0 := hG0.below hb
    replace hx0 := keep_cell hb hx0
    replace hx1 := keep_cell hb hx1
    replace hw := keep_below hb hw
    clear hb tt90 tt91 tt100 tt101
    go_upto_region 10 with (fail)
    have hy0 := hX0.c0
    have hy1 := hX0.c1
    have hAx := hA.below hw
    have hBx := hB.below hw
    go_region_held3 (fun w' => w'.cell? ⟨w.heap.size, 0, none⟩ = some (.slice A xs.length c) ∧ w'.cell? ⟨w.heap.size, 1, none⟩ = some (.slice B ys.length e) ∧ w'.cell? ⟨gx, 0, none⟩ = some (.slice (some ⟨gp, 0, none⟩) xs.length xs.length) ∧ w'.cell? ⟨gx, 1, none⟩ = some (.slice (some ⟨gq, 0, none⟩) ys.length ys.length) ∧ Below wl11.heap.size wl11 w')
      (first | exact ⟨hx0, hx1, hy0, hy1, Below.drew (Below.refl _ _)⟩ | (go_split_ands; exact ⟨keep_cell hb1 (by assumption), keep_cell hb1 (by assumption), keep_cell hb1 (by assumption), keep_cell hb1 (by assumption), keep_below hb1 (by assumption)⟩))
      (first | (go_at_call 13; refine (toTree_any A B c e xs ys _ hAx.drew hBx.drew hn hm).mono ?_; rintro e1 w66 ⟨rfl, hp66, hq66, hb1⟩) | (go_at_call 17; refine (eqTree_same _ _ _ _ _ _ _ _ xs ys _ (by go_split_ands; exact hp.ints.below (by assumption)) (by go_split_ands; exact hq.ints.below (by assumption)) hp66.ints hq66.ints hn' hm').mono ?_; rintro e1 w77 ⟨rfl, hb1⟩))
    go_split_ands
    rename_i hb
    replace hA1 := hA1.below hb
    replace hB1 := hB1.below hb
    replace hU1 := hU1.below hb
    replace hV1 := hV1.below hb
    replace hW0 := hW0.below hb
    replace hp := hp.below hb
    replace hq := hq.below hb
    replace hX0 := hX0.below hb
    replace hA2 := hA2.below hb
    replace hB2 := hB2.below hb
    replace hG0 := hG0.below hb
    replace hx0 := keep_cell hb hx0
    replace hx1 := keep_cell hb hx1
    replace hw := keep_below hb hw
    clear hb hy0 hy1 hAx hBx
    have tt120 := hX0.c0
    have tt121 := hX0.c1
    go_wp2_with fail
    refine (markTree_any _ _ _ _ xs ys _ hp hq hpq hn hm).mono ?_
    rintro e1 wk ⟨rfl, hk⟩
    replace hA1 := own_kept_up hA1 hU1 hk (by omega) (by omega)
    replace hB1 := own_kept_up hB1 hV1 hk (by omega) (by omega)
    replace hA2 := hk.own hA2 (by omega) (by omega)
    replace hB2 := hk.own hB2 (by omega) (by omega)
    replace hW0 : BlkT wk g3 (.slice A1 X.length c1) (.slice B1 Y.length e1') := (hk.block _ hW0.lt (by omega) (by omega)).trans hW0
    replace hG0 : BlkT wk g5 (.slice A2 X.length c2) (.slice B2 Y.length e2) := (hk.block _ hG0.lt (by omega) (by omega)).trans hG0
    replace hx0 := hk.cell hx0 (by simp; omega) (by simp; omega)
    replace hx1 := hk.cell hx1 (by simp; omega) (by simp; omega)
    replace hw := hk.below hw (by omega) (by omega)
    clear hk hp hq hU1 hV1 hX0 tt120 tt121
    have tt130 := hG0.c0
    have tt131 := hG0.c1
    have tt140 := hW0.c0
    have tt141 := hW0.c1
    go_wp2_with fail
    refine (eqTree_same A2 B2 A1 B1 _ _ _ _ X Y _ hA2.ints hB2.ints hA1.ints hB1.ints hX' hY').mono ?_
    rintro e1 wl15 ⟨rfl, hb⟩
    replace hA1 := hA1.below hb
    replace hB1 := hB1.below hb
    replace hW0 := hW0.below hb
    replace hA2 := hA2.below hb
    replace hB2 := hB2.below hb
    replace hG0 := hG0.below hb
    replace hx0 := keep_cell hb hx0
    replace hx1 := keep_cell hb hx1
    replace hw := keep_below hb hw
    clear hb tt130 tt131 tt140 tt141
    have tt160 := hG0.c0
    have tt161 := hG0.c1
    have hB6 : B6 ≤ wl15.heap.size := by have := hG0.lt; omega
    have ap1 := own_apartA hA2 hA1' (Nat.le_of_eq HBe.out)
    have ap2 := own_apartA hA2 hB1' (Nat.le_of_eq HBe.out)
    have ap3 := own_apartA hB2 hA1' (Nat.le_of_eq HBe.out)
    have ap4 := own_apartA hB2 hB1' (Nat.le_of_eq HBe.out)
    have hf1 : A2 ≠ some ⟨g3, 0, none⟩ := own_farA hA2 (by omega)
    have hf2 : B2 ≠ some ⟨g3, 0, none⟩ := own_farA hB2 (by omega)
    go_wp2_with fail
    refine (markTree_own A2 B2 c2 e2 X Y _ B6 hB6 hA2 hB2 hap2 hX hY).mono ?_
    rintro e1 wm ⟨rfl, hm1, hm2, wv, hk1, hk2⟩
    replace hW0 := hk1.blk hk2 hW0 hf1 hf2
    replace hG0 := hk1.blk hk2 hG0 hf3 hf4
    replace hA1 := hk2.own (hk1.own hA1 ap1) ap3
    replace hB1 := hk2.own (hk1.own hB1 ap2) ap4
    replace hx0 := hk2.cell (hk1.cell hx0 (own_farA hA2 (by simp; omega))) (own_farA hB2 (by simp; omega))
    replace hx1 := hk2.cell (hk1.cell hx1 (own_farA hA2 (by simp; omega))) (own_farA hB2 (by simp; omega))
    replace hw := hk2.below (hk1.below hw (fun g hg => own_farA hA2 (by omega))) (fun g hg => own_farA hB2 (by omega))
    clear hA2 hB2 hk1 hk2 hap2 ap1 ap2 ap3 ap4 hf1 hf2 hf3 hf4 hB6 tt160 tt161
    have tt170 := hG0.c0
    have tt171 := hG0.c1
    go_wp2_with fail
    refine (heldTree_any A2 B2 c2 e2 X.length Y.length _ hm1.ints hm2.ints hX hY).mono ?_
    rintro e1 wl18 ⟨rfl, hb⟩
    replace hA1 := hA1.below hb
    replace hB1 := hB1.below hb
    replace hW0 := hW0.below hb
    replace hm1 := hm1.below hb
    replace hm2 := hm2.below hb
    replace hG0 := hG0.below hb
    replace hx0 := keep_cell hb hx0
    replace hx1 := keep_cell hb hx1
    replace hw := keep_below hb hw
    clear hb tt170 tt171
    go_wp2_with fail
    refine (toTree_any A B c e xs ys _ (hA.below hw) (hB.below hw) hn hm).mono ?_
    rintro e1 wl19 ⟨rfl, hp, hq, hb⟩
    replace hA1 := hA1.below hb
    replace hB1 := hB1.below hb
    replace hW0 := hW0.below hb
    replace hm1 := hm1.below hb
    replace hm2 := hm2.below hb
    replace hG0 := hG0.below hb
    replace hx0 := keep_cell hb hx0
    replace hx1 := keep_cell hb hx1
    replace hw := keep_below hb hw
    clear hb
    go_wp2_with fail
    refine (H2.out _ _ _ _ _ hp.ints hq.ints).mono ?_
    rintro e1 wl20 ⟨A3, c3, B3, e3, rfl, hA3, hB3, _, hb⟩
    replace hA1 := hA1.below hb
    replace hB1 := hB1.below hb
    replace hW0 := hW0.below hb
    replace hm1 := hm1.below hb
    replace hm2 := hm2.below hb
    replace hG0 := hG0.below hb
    replace hx0 := keep_cell hb hx0
    replace hx1 := keep_cell hb hx1
    replace hw := keep_below hb hw
    clear hb
    clear hp hq
    go_upto_region 25 with (fail)
    obtain ⟨wb21, hwn⟩ : ∃ W, W = wl20.alloc (.cells #[.slice A3 X.length c3, .slice B3 Y.length e3] 28) := ⟨_, rfl⟩
    have hH0 : BlkT wb21 wl20.heap.size (.slice A3 X.length c3) (.slice B3 Y.length e3) := by rw [hwn]; exact BlkT.new wl20 _ _ rfl
    have hbA : Below wl20.heap.size wl20 wb21 := by rw [hwn]; exact (Below.refl _ _).alloc (Nat.le_refl _) _
    replace hA1 := hA1.below hbA
    replace hB1 := hB1.below hbA
    replace hW0 := hW0.below hbA
    replace hm1 := hm1.below hbA
    replace hm2 := hm2.below hbA
    replace hG0 := hG0.below hbA
    replace hA3 := hA3.below hbA
    replace hB3 := hB3.below hbA
    replace hx0 := keep_cell hbA hx0
    replace hx1 := keep_cell hbA hx1
    replace hw := keep_below hbA hw
    (try rw [← hwn])
    clear hwn hbA
    generalize wl20.heap.size = g9 at hH0  ⊢
    have tt220 := hH0.c0
    have tt221 := hH0.c1
    have tt230 := hW0.c0
    have tt231 := hW0.c1
    go_wp2_with fail
    refine (eqTree_same A3 B3 A1 B1 _ _ _ _ X Y _ hA3.ints hB3.ints hA1.ints hB1.ints hX' hY').mono ?_
    rintro e1 wl24 ⟨rfl, hb⟩
    replace hm1 := hm1.below hb
    replace hm2 := hm2.below hb
    replace hG0 := hG0.below hb
    replace hx0 := keep_cell hb hx0
    replace hx1 := keep_cell hb hx1
    replace hw := keep_below hb hw
    clear hb tt220 tt221 tt230 tt231
    clear hA3 hB3 hH0 hW0 hA1 hB1
    have tt250 := hG0.c0
    have tt251 := hG0.c1
    go_wp2_with fail
    refine (heldTree_any A2 B2 c2 e2 X.length Y.length _ hm1.ints hm2.ints hX hY).mono ?_
    rintro e1 wl26 ⟨rfl, hb⟩
    replace hm1 := hm1.below hb
    replace hm2 := hm2.below hb
    replace hG0 := hG0.below hb
    replace hx0 := keep_cell hb hx0
    replace hx1 := keep_cell hb hx1
    replace hw := keep_below hb hw
    clear hb tt250 tt251
    go_wp2
    go_ret
    exact ⟨rfl, hw⟩
end Go.Proofs.Ytombfbmcplefgaa
