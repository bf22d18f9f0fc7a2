/- The walk of FnExactStoppedMean. -/
import Derived.Test.YtkbjocndkopjiaaSMean
namespace Go.Proofs.Ytkbjocndkopjiaa
open Go.ChangeShapes Go.WideShapes Go.ChangeAt Go.RowKit
open Go.ChangeMaps (open_string shut_string)
set_option maxHeartbeats 8000000 in
set_option maxRecDepth 100000 in
theorem FnExactStoppedMean_walk (A : Option Addr) (n c : Nat) (xs : List Int) (B : Option Addr) (m e : Nat) (ys : List Int) (A1 : Option Addr) (n1 c1 : Nat) (zs1 : List Int) (A2 : Option Addr) (n2 c2 : Nat) (zs2 : List Int) (w : World) (hP : xs.length = n ∧ n ≤ c ∧ c ≤ maxLen ∧ Bd xs ∧ IntS w A xs) (hQ : ys.length = m ∧ m ≤ e ∧ e ≤ maxLen ∧ Bd ys ∧ IntS w B ys) (hL1 : zs1.length = n1 ∧ n1 ≤ c1 ∧ c1 ≤ maxLen ∧ Bd zs1 ∧ IntS w A1 zs1) (hL2 : zs2.length = n2 ∧ n2 ≤ c2 ∧ c2 ≤ maxLen ∧ Bd zs2 ∧ IntS w A2 zs2) :
    Calls Try.prog 7 #[.agg #[.slice A n c, .slice B m e], .slice A1 n1 c1, .slice A2 n2 c2] w fun e1 w' => e1 = .returned (.bool true) ∧ Below w.heap.size w w' := by
  obtain ⟨rfl, hnc, hc, hx, hA⟩ := hP
  obtain ⟨rfl, hme, he, hy, hB⟩ := hQ
  obtain ⟨rfl, hnc1, hc1, bz1, hA1⟩ := hL1
  obtain ⟨rfl, hnc2, hc2, bz2, hA2⟩ := hL2
  by_cases hz1 : zs1.length ≤ 1048576
  case neg =>
    unfold maxLen at *
    clear hA hB hx hy hA1 bz1 hA2 bz2
    go_enter Try.func7, Try.ntmps7
    go_wp2
    go_ret
    exact ⟨rfl, by (repeat (first | with_reducible exact Below.refl _ _ | with_reducible assumption | with_reducible refine Below.alloc' ?_ ?_ _ | with_reducible refine Below.setCell' ?_ ?_ _ | with_reducible refine Below.drewN' ?_ _ | with_reducible refine Below.drew ?_ | with_reducible refine Below.transA ?_ (by assumption) ?_ | omega | (focus (simp; done)) | (focus (simp; omega))))⟩
  have hzi1 : (zs1.length : Int) ≤ 1048576 := by omega
  by_cases hz2 : zs2.length ≤ 1048576
  case neg =>
    unfold maxLen at *
    clear hA hB hx hy hA1 bz1 hA2 bz2
    go_enter Try.func7, Try.ntmps7
    go_wp2
    go_ret
    exact ⟨rfl, by (repeat (first | with_reducible exact Below.refl _ _ | with_reducible assumption | with_reducible refine Below.alloc' ?_ ?_ _ | with_reducible refine Below.setCell' ?_ ?_ _ | with_reducible refine Below.drewN' ?_ _ | with_reducible refine Below.drew ?_ | with_reducible refine Below.transA ?_ (by assumption) ?_ | omega | (focus (simp; done)) | (focus (simp; omega))))⟩
  have hzi2 : (zs2.length : Int) ≤ 1048576 := by omega
  by_cases hs : xs.length + ys.length ≤ 1048576
  case neg =>
    have HZ := Lib.hid (fun W => szTree_no A B xs.length c ys.length e W (by omega) (by omega) (by omega))
    clear hA hB hx hy hA1 bz1 hA2 bz2
    go_enter Try.func7, Try.ntmps7
    go_wp2_with fail
    refine (HZ.out _).mono ?_
    rintro e1 w1 ⟨rfl, hb1⟩
    go_wp2
    go_ret
    exact ⟨rfl, by (repeat (first | with_reducible exact Below.refl _ _ | with_reducible assumption | with_reducible refine Below.alloc' ?_ ?_ _ | with_reducible refine Below.setCell' ?_ ?_ _ | with_reducible refine Below.drewN' ?_ _ | with_reducible refine Below.drew ?_ | with_reducible refine Below.transA ?_ (by assumption) ?_ | omega | (focus (simp; done)) | (focus (simp; omega))))⟩
  case pos =>
    have hn : xs.length ≤ 1048576 := by omega
    have hm : ys.length ≤ 1048576 := by omega
    have H1 := Lib.hid (fun W P Q cp ce P1 cp1 P2 cp2 (h : IntS W P xs) (k : IntS W Q ys) (z1 : IntS W P1 zs1) (z2 : IntS W P2 zs2) => specStoppedMean_any P Q cp ce xs ys P1 cp1 zs1 P2 cp2 zs2 W h k z1 z2 hx hy bz1 bz2 hn hm hz1 hz2)
    have H2 := Lib.hid (fun W P Q cp ce P1 cp1 P2 cp2 (h : IntS W P xs) (k : IntS W Q ys) (z1 : IntS W P1 zs1) (z2 : IntS W P2 zs2) => implStoppedMean_any P Q cp ce xs ys P1 cp1 zs1 P2 cp2 zs2 W h k z1 z2 hx hy bz1 bz2 hn hm hz1 hz2)
    have hn' : xs.length ≤ maxLen := by unfold maxLen; omega
    have hm' : ys.length ≤ maxLen := by unfold maxLen; omega
    have hz1' : zs1.length ≤ maxLen := by unfold maxLen; omega
    have hz2' : zs2.length ≤ maxLen := by unfold maxLen; omega
    have hl : ¬ ((1048576 : Int) - xs.length - ys.length < 0) := by omega
    generalize smN xs ys zs1 zs2 = N at *
    generalize smM xs ys zs1 zs2 = M at *
    generalize smOk xs ys zs1 zs2 = r at *
    clear hx hy bz1 bz2 
    go_enter Try.func7, Try.ntmps7
    go_wp2_with fail
    refine (szTree_yes A B _ c _ e _ hs).mono ?_
    rintro e1 w1 ⟨rfl, hb1⟩
    have hw : Below w.heap.size w w1 := by (repeat (first | with_reducible exact Below.refl _ _ | with_reducible assumption | with_reducible refine Below.alloc' ?_ ?_ _ | with_reducible refine Below.setCell' ?_ ?_ _ | with_reducible refine Below.drewN' ?_ _ | with_reducible refine Below.drew ?_ | with_reducible refine Below.transA ?_ (by assumption) ?_ | omega | (focus (simp; done)) | (focus (simp; omega))))
    have hx0 : w1.cell? ⟨w.heap.size, 0, none⟩ = some (.slice A xs.length c) := keep_cell hb1 (cell_new _ _ _ _ _ rfl)
    have hx1 : w1.cell? ⟨w.heap.size, 1, none⟩ = some (.slice B ys.length e) := keep_cell hb1 (cell_new _ _ _ _ _ rfl)
    have hzw := World.block_lt_of_cell? _ _ hx0
    replace hzw : w.heap.size < w1.heap.size := hzw
    clear hb1
    go_wp2_with fail
    refine (toTree_any A B c e xs ys _ (hA.below hw) (hB.below hw) hn hm).mono ?_
    rintro e1 w2 ⟨rfl, hp2, hq2, hb2⟩
    replace hx0 := keep_cell hb2 hx0
    replace hx1 := keep_cell hb2 hx1
    replace hw := keep_below hb2 hw
    have zz2 := hb2.size
    clear hb2
    go_wp2_with fail
    refine (toIntS_any A1 c1 zs1 _ (hA1.below hw) hz1).mono ?_
    rintro e1 w3 ⟨rfl, hr3, hb3⟩
    (try simp only [World.size_alloc] at hr3)
    replace hx0 := keep_cell hb3 hx0
    replace hx1 := keep_cell hb3 hx1
    replace hp2 := hp2.below hb3
    replace hq2 := hq2.below hb3
    replace hw := keep_below hb3 hw
    have zz3 := hb3.size
    clear hb3
    go_wp2_with fail
    refine (toIntS_any A2 c2 zs2 _ (hA2.below hw) hz2).mono ?_
    rintro e1 w4 ⟨rfl, hr4, hb4⟩
    (try simp only [World.size_alloc] at hr4)
    replace hx0 := keep_cell hb4 hx0
    replace hx1 := keep_cell hb4 hx1
    replace hp2 := hp2.below hb4
    replace hq2 := hq2.below hb4
    replace hr3 := hr3.below hb4
    replace hw := keep_below hb4 hw
    have zz4 := hb4.size
    clear hb4
    go_wp2_with fail
    refine (H1.out _ _ _ _ _ _ _ _ _ hp2.ints hq2.ints hr3.ints hr4.ints).mono ?_
    rintro e1 w5 ⟨rfl, hb5⟩
    replace hx0 := keep_cell hb5 hx0
    replace hx1 := keep_cell hb5 hx1
    replace hp2 := hp2.below hb5
    replace hq2 := hq2.below hb5
    replace hr3 := hr3.below hb5
    replace hr4 := hr4.below hb5
    replace hw := keep_below hb5 hw
    have zz5 := hb5.size
    clear hb5
    clear hp2
    clear hq2
    clear hr3
    clear hr4
    have hzS := World.block_lt_of_cell? _ _ hx0
    replace hzS : w.heap.size < w5.heap.size := hzS
    go_wp2_with fail
    refine (toTree_any A B c e xs ys _ (hA.below (keep_below_alloc hw _)) (hB.below (keep_below_alloc hw _)) hn hm).mono ?_
    rintro e1 w6 ⟨rfl, hp6, hq6, hb6⟩
    simp only [World.size_alloc] at hp6 hq6
    have hv0 := keep_cell hb6 (cell_new _ _ _ 0 _ rfl)
    have hv1 := keep_cell hb6 (cell_new _ _ _ 1 _ rfl)
    simp at hv0 hv1
    replace hb6 := below_alloc hb6
    have hpl := hp6.lt
    have hql := hq6.lt
    replace hx0 := keep_cell hb6 hx0
    replace hx1 := keep_cell hb6 hx1
    replace hw := keep_below hb6 hw
    have zz6 := hb6.size
    clear hb6
    go_wp2_with fail
    refine (toIntS_any A1 c1 zs1 _ (hA1.below (keep_below_alloc hw _)) hz1).mono ?_
    rintro e1 w7 ⟨rfl, hr7, hb7⟩
    (try simp only [World.size_alloc] at hr7)
    have hy0 := keep_cell hb7 (cell_new _ _ _ 0 _ rfl)
    have hy1 := keep_cell hb7 (cell_new _ _ _ 1 _ rfl)
    simp at hy0 hy1
    replace hb7 := below_alloc hb7
    replace hx0 := keep_cell hb7 hx0
    replace hx1 := keep_cell hb7 hx1
    replace hv0 := keep_cell hb7 hv0
    replace hv1 := keep_cell hb7 hv1
    replace hp6 := hp6.below hb7
    replace hq6 := hq6.below hb7
    replace hw := keep_below hb7 hw
    have zz7 := hb7.size
    clear hb7
    have zl7 := hr7.lt
    go_wp2_with fail
    refine (toIntS_any A2 c2 zs2 _ (hA2.below hw) hz2).mono ?_
    rintro e1 w8 ⟨rfl, hr8, hb8⟩
    (try simp only [World.size_alloc] at hr8)
    replace hx0 := keep_cell hb8 hx0
    replace hx1 := keep_cell hb8 hx1
    replace hv0 := keep_cell hb8 hv0
    replace hv1 := keep_cell hb8 hv1
    replace hy0 := keep_cell hb8 hy0
    replace hy1 := keep_cell hb8 hy1
    replace hp6 := hp6.below hb8
    replace hq6 := hq6.below hb8
    replace hr7 := hr7.below hb8
    replace hw := keep_below hb8 hw
    have zz8 := hb8.size
    clear hb8
    have zl8 := hr8.lt
    go_wp2_with fail
    refine (H2.out _ _ _ _ _ _ _ _ _ hp6.ints hq6.ints hr7.ints hr8.ints).mono ?_
    rintro e1 w9 ⟨rfl, hb9⟩
    replace hx0 := keep_cell hb9 hx0
    replace hx1 := keep_cell hb9 hx1
    replace hv0 := keep_cell hb9 hv0
    replace hv1 := keep_cell hb9 hv1
    replace hy0 := keep_cell hb9 hy0
    replace hy1 := keep_cell hb9 hy1
    replace hp6 := hp6.below hb9
    replace hq6 := hq6.below hb9
    replace hr7 := hr7.below hb9
    replace hr8 := hr8.below hb9
    replace hw := keep_below hb9 hw
    have zz9 := hb9.size
    clear hb9
    have hzG := World.block_lt_of_cell? _ _ hx0
    replace hzG : w.heap.size < w9.heap.size := hzG
    have hzv := World.block_lt_of_cell? _ _ hv0
    replace hzv : w5.heap.size < w9.heap.size := hzv
    go_wp2_with fail
    refine (eqIntA2_yes N M _).mono ?_
    rintro e1 w10 ⟨rfl, hb10⟩
    replace hb10 := below_alloc hb10
    replace hx0 := keep_cell hb10 hx0
    replace hx1 := keep_cell hb10 hx1
    replace hv0 := keep_cell hb10 hv0
    replace hv1 := keep_cell hb10 hv1
    replace hy0 := keep_cell hb10 hy0
    replace hy1 := keep_cell hb10 hy1
    replace hp6 := hp6.below hb10
    replace hq6 := hq6.below hb10
    replace hr7 := hr7.below hb10
    replace hr8 := hr8.below hb10
    replace hw := keep_below hb10 hw
    have zz10 := hb10.size
    clear hb10
    go_wp2_with fail
    have hAx := hA.below hw
    have hBx := hB.below hw
    go_region_held3 (fun w' => w'.cell? ⟨w.heap.size, 0, none⟩ = some (.slice A xs.length c) ∧ w'.cell? ⟨w.heap.size, 1, none⟩ = some (.slice B ys.length e) ∧ w'.cell? ⟨w6.heap.size, 0, none⟩ = some (.slice (some ⟨w5.heap.size + 1 + 1 + 1 + 1, 0, none⟩) xs.length xs.length) ∧ w'.cell? ⟨w6.heap.size, 1, none⟩ = some (.slice (some ⟨w5.heap.size + 1 + 1 + 1 + 1 + 1, 0, none⟩) ys.length ys.length) ∧ Below w10.heap.size w10 w')
      (first | exact ⟨hx0, hx1, hy0, hy1, Below.drew (Below.refl _ _)⟩ | (go_split_ands; exact ⟨keep_cell hb1 (by assumption), keep_cell hb1 (by assumption), keep_cell hb1 (by assumption), keep_cell hb1 (by assumption), keep_below hb1 (by assumption)⟩))
      (first | (go_at_call 14; refine (toTree_any A B c e xs ys _ hAx.drew hBx.drew hn hm).mono ?_; rintro e1 w66 ⟨rfl, hp66, hq66, hb1⟩) | (go_at_call 18; refine (eqTree_same _ _ _ _ _ _ _ _ xs ys _ (by go_split_ands; exact hp6.ints.below (by assumption)) (by go_split_ands; exact hq6.ints.below (by assumption)) hp66.ints hq66.ints hn' hm').mono ?_; rintro e1 w77 ⟨rfl, hb1⟩))
    go_split_ands
    rename_i hbR
    replace hw := keep_below hbR hw
    replace hx0 := keep_cell hbR hx0
    replace hx1 := keep_cell hbR hx1
    replace hv0 := keep_cell hbR hv0
    replace hv1 := keep_cell hbR hv1
    replace hy0 := keep_cell hbR hy0
    replace hy1 := keep_cell hbR hy1
    replace hp6 := hp6.below hbR
    replace hq6 := hq6.below hbR
    replace hr7 := hr7.below hbR
    replace hr8 := hr8.below hbR
    have zz11 := hbR.size
    clear hbR
    go_wp2_with fail
    refine (toIntS_any A1 c1 zs1 _ (hA1.below hw) hz1).mono ?_
    rintro e1 w12 ⟨rfl, hr12, hb12⟩
    (try simp only [World.size_alloc] at hr12)
    have hI := hr12.ints
    replace hx0 := keep_cell hb12 hx0
    replace hx1 := keep_cell hb12 hx1
    replace hv0 := keep_cell hb12 hv0
    replace hv1 := keep_cell hb12 hv1
    replace hy0 := keep_cell hb12 hy0
    replace hy1 := keep_cell hb12 hy1
    replace hp6 := hp6.below hb12
    replace hq6 := hq6.below hb12
    replace hr7 := hr7.below hb12
    replace hr8 := hr8.below hb12
    replace hw := keep_below hb12 hw
    have zz12 := hb12.size
    clear hb12
    go_wp2_with fail
    refine (eqIntS_same _ _ _ _ zs1 _ hr7.ints hr12.ints hz1').mono ?_
    rintro e1 w13 ⟨rfl, nq, hww⟩
    have hb13 := below_of_drewN hww
    clear hww hI
    replace hx0 := keep_cell hb13 hx0
    replace hx1 := keep_cell hb13 hx1
    replace hv0 := keep_cell hb13 hv0
    replace hv1 := keep_cell hb13 hv1
    replace hy0 := keep_cell hb13 hy0
    replace hy1 := keep_cell hb13 hy1
    replace hp6 := hp6.below hb13
    replace hq6 := hq6.below hb13
    replace hr7 := hr7.below hb13
    replace hr8 := hr8.below hb13
    replace hw := keep_below hb13 hw
    have zz13 := hb13.size
    clear hb13
    go_wp2_with fail
    refine (toIntS_any A2 c2 zs2 _ (hA2.below hw) hz2).mono ?_
    rintro e1 w14 ⟨rfl, hr14, hb14⟩
    (try simp only [World.size_alloc] at hr14)
    have hI := hr14.ints
    replace hx0 := keep_cell hb14 hx0
    replace hx1 := keep_cell hb14 hx1
    replace hv0 := keep_cell hb14 hv0
    replace hv1 := keep_cell hb14 hv1
    replace hy0 := keep_cell hb14 hy0
    replace hy1 := keep_cell hb14 hy1
    replace hp6 := hp6.below hb14
    replace hq6 := hq6.below hb14
    replace hr7 := hr7.below hb14
    replace hr8 := hr8.below hb14
    replace hw := keep_below hb14 hw
    have zz14 := hb14.size
    clear hb14
    go_wp2_with fail
    refine (eqIntS_same _ _ _ _ zs2 _ hr8.ints hr14.ints hz2').mono ?_
    rintro e1 w15 ⟨rfl, nq, hww⟩
    have hb15 := below_of_drewN hww
    clear hww hI
    replace hx0 := keep_cell hb15 hx0
    replace hx1 := keep_cell hb15 hx1
    replace hv0 := keep_cell hb15 hv0
    replace hv1 := keep_cell hb15 hv1
    replace hy0 := keep_cell hb15 hy0
    replace hy1 := keep_cell hb15 hy1
    replace hp6 := hp6.below hb15
    replace hq6 := hq6.below hb15
    replace hr7 := hr7.below hb15
    replace hr8 := hr8.below hb15
    replace hw := keep_below hb15 hw
    have zz15 := hb15.size
    clear hb15
    go_wp2
    go_ret
    exact ⟨rfl, hw⟩
end Go.Proofs.Ytkbjocndkopjiaa
