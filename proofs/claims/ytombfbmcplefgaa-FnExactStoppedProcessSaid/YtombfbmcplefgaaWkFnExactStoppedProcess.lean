/- The walk of FnExactStoppedProcess. -/
import Derived.Test.YtombfbmcplefgaaSProc
namespace Go.Proofs.Ytombfbmcplefgaa
open Go.ChangeShapes Go.WideShapes Go.ChangeAt Go.RowKit
open Go.ChangeMaps (open_string shut_string)
set_option maxHeartbeats 8000000 in
set_option maxRecDepth 100000 in
theorem FnExactStoppedProcess_walk (A : Option Addr) (n c : Nat) (xs : List Int) (B : Option Addr) (m e : Nat) (ys : List Int) (A1 : Option Addr) (n1 c1 : Nat) (zs1 : List Int) (A2 : Option Addr) (n2 c2 : Nat) (zs2 : List Int) (w : World) (hP : xs.length = n ∧ n ≤ c ∧ c ≤ maxLen ∧ Bd xs ∧ IntS w A xs) (hQ : ys.length = m ∧ m ≤ e ∧ e ≤ maxLen ∧ Bd ys ∧ IntS w B ys) (hL1 : zs1.length = n1 ∧ n1 ≤ c1 ∧ c1 ≤ maxLen ∧ Bd zs1 ∧ IntS w A1 zs1) (hL2 : zs2.length = n2 ∧ n2 ≤ c2 ∧ c2 ≤ maxLen ∧ Bd zs2 ∧ IntS w A2 zs2) :
    Calls Try.prog 6 #[.agg #[.slice A n c, .slice B m e], .slice A1 n1 c1, .slice A2 n2 c2] w fun e1 w' => e1 = .returned (.bool true) ∧ Below w.heap.size w w' := by
  obtain ⟨rfl, hnc, hc, hx, hA⟩ := hP
  obtain ⟨rfl, hme, he, hy, hB⟩ := hQ
  obtain ⟨rfl, hnc1, hc1, bz1, hA1⟩ := hL1
  obtain ⟨rfl, hnc2, hc2, bz2, hA2⟩ := hL2
  by_cases hz1 : zs1.length ≤ 1048576
  case neg =>
    unfold maxLen at *
    clear hA hB hx hy hA1 bz1 hA2 bz2
    go_enter Try.func6, Try.ntmps6
    go_wp2
    go_ret
    exact ⟨rfl, by (repeat (first | with_reducible exact Below.refl _ _ | with_reducible assumption | with_reducible refine Below.alloc' ?_ ?_ _ | with_reducible refine Below.setCell' ?_ ?_ _ | with_reducible refine Below.drewN' ?_ _ | with_reducible refine Below.drew ?_ | with_reducible refine Below.transA ?_ (by assumption) ?_ | omega | (focus (simp; done)) | (focus (simp; omega))))⟩
  have hzi1 : (zs1.length : Int) ≤ 1048576 := by omega
  by_cases hz2 : zs2.length ≤ 1048576
  case neg =>
    unfold maxLen at *
    clear hA hB hx hy hA1 bz1 hA2 bz2
    go_enter Try.func6, Try.ntmps6
    go_wp2
    go_ret
    exact ⟨rfl, by (repeat (first | with_reducible exact Below.refl _ _ | with_reducible assumption | with_reducible refine Below.alloc' ?_ ?_ _ | with_reducible refine Below.setCell' ?_ ?_ _ | with_reducible refine Below.drewN' ?_ _ | with_reducible refine Below.drew ?_ | with_reducible refine Below.transA ?_ (by assumption) ?_ | omega | (focus (simp; done)) | (focus (simp; omega))))⟩
  have hzi2 : (zs2.length : Int) ≤ 1048576 := by omega
  by_cases hs : xs.length + ys.length ≤ 1048576
  case neg =>
    have HZ := Lib.hid (fun W => szTree_no A B xs.length c ys.length e W (by omega) (by omega) (by omega))
    clear hA hB hx hy hA1 bz1 hA2 bz2
    go_enter Try.func6, Try.ntmps6
    go_wp2_with fail
    refine (HZ.out _).mono ?_
    rintro e1 w1 ⟨rfl, hb1⟩
    go_wp2
    go_ret
    exact ⟨rfl, by (repeat (first | with_reducible exact Below.refl _ _ | with_reducible assumption | with_reducible refine Below.alloc' ?_ ?_ _ | with_reducible refine Below.setCell' ?_ ?_ _ | with_reducible refine Below.drewN' ?_ _ | with_reducible refine Below.drew ?_ | with_reducible refine Below.transA ?_ (by assumption) ?_ | omega | (focus (simp; done)) | (focus (simp; omega))))⟩
  case pos =>
    have hn : xs.length ≤ 1048576 := by omega
    have hm : ys.length ≤ 1048576 := by omega
    have H1 := Lib.hid (fun W P Q cp ce P1 cp1 P2 cp2 (h : IntS W P xs) (k : IntS W Q ys) (z1 : IntS W P1 zs1) (z2 : IntS W P2 zs2) => specStoppedProcess_any P Q cp ce xs ys P1 cp1 zs1 P2 cp2 zs2 W h k z1 z2 hx hy bz1 bz2 hn hm hz1 hz2)
    have H2 := Lib.hid (fun W P Q cp ce P1 cp1 P2 cp2 (h : IntS W P xs) (k : IntS W Q ys) (z1 : IntS W P1 zs1) (z2 : IntS W P2 zs2) => implStoppedProcess_any P Q cp ce xs ys P1 cp1 zs1 P2 cp2 zs2 W h k z1 z2 hx hy bz1 bz2 hn hm hz1 hz2)
    have hn' : xs.length ≤ maxLen := by unfold maxLen; omega
    have hm' : ys.length ≤ maxLen := by unfold maxLen; omega
    have hz1' : zs1.length ≤ maxLen := by unfold maxLen; omega
    have hz2' : zs2.length ≤ maxLen := by unfold maxLen; omega
    have hl : ¬ ((1048576 : Int) - xs.length - ys.length < 0) := by omega
    have hR : (spR xs ys zs1 zs2).length ≤ 2000000 := spR_len _ _ _ _ hn
    generalize spR xs ys zs1 zs2 = R at *
    generalize smOk xs ys zs1 zs2 = r at *
    have hR' : R.length ≤ maxLen := by unfold maxLen; omega
    clear hx hy bz1 bz2 
    go_enter Try.func6, Try.ntmps6
    go_wp2_with fail
    refine (szTree_yes A B _ c _ e _ hs).mono ?_
    rintro e1 w1 ⟨rfl, hb1⟩
    have hw : Below w.heap.size w w1 := by (repeat (first | with_reducible exact Below.refl _ _ | with_reducible assumption | with_reducible refine Below.alloc' ?_ ?_ _ | with_reducible refine Below.setCell' ?_ ?_ _ | with_reducible refine Below.drewN' ?_ _ | with_reducible refine Below.drew ?_ | with_reducible refine Below.transA ?_ (by assumption) ?_ | omega | (focus (simp; done)) | (focus (simp; omega))))
    have hx0 : w1.cell? ⟨w.heap.size, 0, none⟩ = some (.slice A xs.length c) := keep_cell hb1 (cell_new _ _ _ _ _ rfl)
    have hx1 : w1.cell? ⟨w.heap.size, 1, none⟩ = some (.slice B ys.length e) := keep_cell hb1 (cell_new _ _ _ _ _ rfl)
    have hzw := World.block_lt_of_cell? _ _ hx0
    replace hzw : w.heap.size < w1.heap.size := hzw
    clear hb1
    go_wp2_with fail
    refine (toTree_any A B c e xs ys _ (hA.below hw) (hB.below hw) hn hm).mono ?_
    rintro e1 w2 ⟨rfl, hp2, hq2, hb2⟩
    replace hx0 := keep_cell hb2 hx0
    replace hx1 := keep_cell hb2 hx1
    replace hw := keep_below hb2 hw
    have zz2 := hb2.size
    clear hb2
    go_wp2_with fail
    refine (toIntS_any A1 c1 zs1 _ (hA1.below hw) hz1).mono ?_
    rintro e1 w3 ⟨rfl, hr3, hb3⟩
    (try simp only [World.size_alloc] at hr3)
    replace hx0 := keep_cell hb3 hx0
    replace hx1 := keep_cell hb3 hx1
    replace hp2 := hp2.below hb3
    replace hq2 := hq2.below hb3
    replace hw := keep_below hb3 hw
    have zz3 := hb3.size
    clear hb3
    go_wp2_with fail
    refine (toIntS_any A2 c2 zs2 _ (hA2.below hw) hz2).mono ?_
    rintro e1 w4 ⟨rfl, hr4, hb4⟩
    (try simp only [World.size_alloc] at hr4)
    replace hx0 := keep_cell hb4 hx0
    replace hx1 := keep_cell hb4 hx1
    replace hp2 := hp2.below hb4
    replace hq2 := hq2.below hb4
    replace hr3 := hr3.below hb4
    replace hw := keep_below hb4 hw
    have zz4 := hb4.size
    clear hb4
    go_wp2_with fail
    refine (H1.out _ _ _ _ _ _ _ _ _ hp2.ints hq2.ints hr3.ints hr4.ints).mono ?_
    rintro e1 w5 ⟨G5, cg5, rfl, ho5, hb5⟩
    (try simp only [World.size_alloc] at ho5)
    replace hx0 := keep_cell hb5 hx0
    replace hx1 := keep_cell hb5 hx1
    replace hp2 := hp2.below hb5
    replace hq2 := hq2.below hb5
    replace hr3 := hr3.below hb5
    replace hr4 := hr4.below hb5
    replace hw := keep_below hb5 hw
    have zz5 := hb5.size
    clear hb5
    clear hp2
    clear hq2
    clear hr3
    clear hr4
    have hu5 := ho5.upper
    clear ho5
    go_wp2_with fail
    refine (toTree_any A B c e xs ys _ (hA.below hw) (hB.below hw) hn hm).mono ?_
    rintro e1 w6 ⟨rfl, hp6, hq6, hb6⟩
    have hpl := hp6.lt
    have hql := hq6.lt
    replace hx0 := keep_cell hb6 hx0
    replace hx1 := keep_cell hb6 hx1
    replace hu5 := hu5.below hb6
    replace hw := keep_below hb6 hw
    have zz6 := hb6.size
    clear hb6
    go_wp2_with fail
    refine (toIntS_any A1 c1 zs1 _ (hA1.below (keep_below_alloc hw _)) hz1).mono ?_
    rintro e1 w7 ⟨rfl, hr7, hb7⟩
    (try simp only [World.size_alloc] at hr7)
    have hy0 := keep_cell hb7 (cell_new _ _ _ 0 _ rfl)
    have hy1 := keep_cell hb7 (cell_new _ _ _ 1 _ rfl)
    simp at hy0 hy1
    replace hb7 := below_alloc hb7
    replace hx0 := keep_cell hb7 hx0
    replace hx1 := keep_cell hb7 hx1
    replace hp6 := hp6.below hb7
    replace hq6 := hq6.below hb7
    replace hu5 := hu5.below hb7
    replace hw := keep_below hb7 hw
    have zz7 := hb7.size
    clear hb7
    have zl7 := hr7.lt
    go_wp2_with fail
    refine (toIntS_any A2 c2 zs2 _ (hA2.below hw) hz2).mono ?_
    rintro e1 w8 ⟨rfl, hr8, hb8⟩
    (try simp only [World.size_alloc] at hr8)
    replace hx0 := keep_cell hb8 hx0
    replace hx1 := keep_cell hb8 hx1
    replace hy0 := keep_cell hb8 hy0
    replace hy1 := keep_cell hb8 hy1
    replace hp6 := hp6.below hb8
    replace hq6 := hq6.below hb8
    replace hr7 := hr7.below hb8
    replace hu5 := hu5.below hb8
    replace hw := keep_below hb8 hw
    have zz8 := hb8.size
    clear hb8
    have zl8 := hr8.lt
    go_wp2_with fail
    refine (H2.out _ _ _ _ _ _ _ _ _ hp6.ints hq6.ints hr7.ints hr8.ints).mono ?_
    rintro e1 w9 ⟨G9, cg9, rfl, ho9, hb9⟩
    (try simp only [World.size_alloc] at ho9)
    replace hx0 := keep_cell hb9 hx0
    replace hx1 := keep_cell hb9 hx1
    replace hy0 := keep_cell hb9 hy0
    replace hy1 := keep_cell hb9 hy1
    replace hp6 := hp6.below hb9
    replace hq6 := hq6.below hb9
    replace hr7 := hr7.below hb9
    replace hr8 := hr8.below hb9
    replace hu5 := hu5.below hb9
    replace hw := keep_below hb9 hw
    have zz9 := hb9.size
    clear hb9
    go_wp2_with fail
    refine (eqIntS_same _ _ _ _ R _ ho9.ints hu5.ints hR').mono ?_
    rintro e1 w10 ⟨rfl, nq, hww⟩
    have hb10 := below_of_drewN hww
    clear hww
    replace hx0 := keep_cell hb10 hx0
    replace hx1 := keep_cell hb10 hx1
    replace hy0 := keep_cell hb10 hy0
    replace hy1 := keep_cell hb10 hy1
    replace hp6 := hp6.below hb10
    replace hq6 := hq6.below hb10
    replace hr7 := hr7.below hb10
    replace hr8 := hr8.below hb10
    replace hu5 := hu5.below hb10
    replace ho9 := ho9.below hb10
    replace hw := keep_below hb10 hw
    have zz10 := hb10.size
    clear hb10
    go_wp2_with fail
    have hAx := hA.below hw
    have hBx := hB.below hw
    go_region_held3 (fun w' => w'.cell? ⟨w.heap.size, 0, none⟩ = some (.slice A xs.length c) ∧ w'.cell? ⟨w.heap.size, 1, none⟩ = some (.slice B ys.length e) ∧ w'.cell? ⟨w6.heap.size, 0, none⟩ = some (.slice (some ⟨w5.heap.size + 1 + 1 + 1, 0, none⟩) xs.length xs.length) ∧ w'.cell? ⟨w6.heap.size, 1, none⟩ = some (.slice (some ⟨w5.heap.size + 1 + 1 + 1 + 1, 0, none⟩) ys.length ys.length) ∧ Below w10.heap.size w10 w')
      (first | exact ⟨hx0, hx1, hy0, hy1, Below.drew (Below.refl _ _)⟩ | (go_split_ands; exact ⟨keep_cell hb1 (by assumption), keep_cell hb1 (by assumption), keep_cell hb1 (by assumption), keep_cell hb1 (by assumption), keep_below hb1 (by assumption)⟩))
      (first | (go_at_call 13; refine (toTree_any A B c e xs ys _ hAx.drew hBx.drew hn hm).mono ?_; rintro e1 w66 ⟨rfl, hp66, hq66, hb1⟩) | (go_at_call 17; refine (eqTree_same _ _ _ _ _ _ _ _ xs ys _ (by go_split_ands; exact hp6.ints.below (by assumption)) (by go_split_ands; exact hq6.ints.below (by assumption)) hp66.ints hq66.ints hn' hm').mono ?_; rintro e1 w77 ⟨rfl, hb1⟩))
    go_split_ands
    rename_i hbR
    replace hw := keep_below hbR hw
    replace hx0 := keep_cell hbR hx0
    replace hx1 := keep_cell hbR hx1
    replace hy0 := keep_cell hbR hy0
    replace hy1 := keep_cell hbR hy1
    replace hp6 := hp6.below hbR
    replace hq6 := hq6.below hbR
    replace hr7 := hr7.below hbR
    replace hr8 := hr8.below hbR
    replace hu5 := hu5.below hbR
    replace ho9 := ho9.below hbR
    have zz11 := hbR.size
    clear hbR
    go_wp2_with fail
    refine (toIntS_any A1 c1 zs1 _ (hA1.below hw) hz1).mono ?_
    rintro e1 w12 ⟨rfl, hr12, hb12⟩
    (try simp only [World.size_alloc] at hr12)
    have hI := hr12.ints
    replace hx0 := keep_cell hb12 hx0
    replace hx1 := keep_cell hb12 hx1
    replace hy0 := keep_cell hb12 hy0
    replace hy1 := keep_cell hb12 hy1
    replace hp6 := hp6.below hb12
    replace hq6 := hq6.below hb12
    replace hr7 := hr7.below hb12
    replace hr8 := hr8.below hb12
    replace hu5 := hu5.below hb12
    replace ho9 := ho9.below hb12
    replace hw := keep_below hb12 hw
    have zz12 := hb12.size
    clear hb12
    go_wp2_with fail
    refine (eqIntS_same _ _ _ _ zs1 _ hr7.ints hr12.ints hz1').mono ?_
    rintro e1 w13 ⟨rfl, nq, hww⟩
    have hb13 := below_of_drewN hww
    clear hww hI
    replace hx0 := keep_cell hb13 hx0
    replace hx1 := keep_cell hb13 hx1
    replace hy0 := keep_cell hb13 hy0
    replace hy1 := keep_cell hb13 hy1
    replace hp6 := hp6.below hb13
    replace hq6 := hq6.below hb13
    replace hr7 := hr7.below hb13
    replace hr8 := hr8.below hb13
    replace hu5 := hu5.below hb13
    replace ho9 := ho9.below hb13
    replace hw := keep_below hb13 hw
    have zz13 := hb13.size
    clear hb13
    go_wp2_with fail
    refine (toIntS_any A2 c2 zs2 _ (hA2.below hw) hz2).mono ?_
    rintro e1 w14 ⟨rfl, hr14, hb14⟩
    (try simp only [World.size_alloc] at hr14)
    have hI := hr14.ints
    replace hx0 := keep_cell hb14 hx0
    replace hx1 := keep_cell hb14 hx1
    replace hy0 := keep_cell hb14 hy0
    replace hy1 := keep_cell hb14 hy1
    replace hp6 := hp6.below hb14
    replace hq6 := hq6.below hb14
    replace hr7 := hr7.below hb14
    replace hr8 := hr8.below hb14
    replace hu5 := hu5.below hb14
    replace ho9 := ho9.below hb14
    replace hw := keep_below hb14 hw
    have zz14 := hb14.size
    clear hb14
    go_wp2_with fail
    refine (eqIntS_same _ _ _ _ zs2 _ hr8.ints hr14.ints hz2').mono ?_
    rintro e1 w15 ⟨rfl, nq, hww⟩
    have hb15 := below_of_drewN hww
    clear hww hI
    replace hx0 := keep_cell hb15 hx0
    replace hx1 := keep_cell hb15 hx1
    replace hy0 := keep_cell hb15 hy0
    replace hy1 := keep_cell hb15 hy1
    replace hp6 := hp6.below hb15
    replace hq6 := hq6.below hb15
    replace hr7 := hr7.below hb15
    replace hr8 := hr8.below hb15
    replace hu5 := hu5.below hb15
    replace ho9 := ho9.below hb15
    replace hw := keep_below hb15 hw
    have zz15 := hb15.size
    clear hb15
    go_wp2_with fail
    refine (markTree_any _ _ _ _ xs ys _ hp6 hq6 (by omega) hn hm).mono ?_
    rintro e1 w16 ⟨rfl, hk16⟩
    clear hy0 hy1 hAx hBx
    clear hp6 hq6
    have hlhr7 := hr7.lt
    have hlhr8 := hr8.lt
    replace hw := hk16.below hw (by omega) (by omega)
    replace hx0 := hk16.cell hx0 (by simp; omega) (by simp; omega)
    replace hx1 := hk16.cell hx1 (by simp; omega) (by simp; omega)
    replace hr7 := hk16.row hr7 (by omega) (by omega)
    replace hr8 := hk16.row hr8 (by omega) (by omega)
    replace ho9 := hk16.own ho9 (by omega) (by omega)
    replace hu5 := hk16.ownU hu5 (by omega) (by omega)
    have zz16 := hk16.size
    clear hk16
    go_wp2_with fail
    refine (markIntS_row _ _ zs1 _ _ hr7 (by omega) (by omega) (by omega)).mono ?_
    rintro e1 w17 ⟨rfl, _, hg17⟩
    have hk17 := kept_of_grown hg17
    clear hg17 hr7
    replace hw := hk17.below hw (by omega) (by omega)
    replace hx0 := hk17.cell hx0 (by simp; omega) (by simp; omega)
    replace hx1 := hk17.cell hx1 (by simp; omega) (by simp; omega)
    replace hr8 := hk17.row hr8 (by omega) (by omega)
    replace ho9 := hk17.own ho9 (by omega) (by omega)
    replace hu5 := hk17.ownU hu5 (by omega) (by omega)
    have zz17 := hk17.size
    clear hk17
    go_wp2_with fail
    refine (markIntS_row _ _ zs2 _ _ hr8 (by omega) (by omega) (by omega)).mono ?_
    rintro e1 w18 ⟨rfl, _, hg18⟩
    have hk18 := kept_of_grown hg18
    clear hg18 hr8
    replace hw := hk18.below hw (by omega) (by omega)
    replace hx0 := hk18.cell hx0 (by simp; omega) (by simp; omega)
    replace hx1 := hk18.cell hx1 (by simp; omega) (by simp; omega)
    replace ho9 := hk18.own ho9 (by omega) (by omega)
    replace hu5 := hk18.ownU hu5 (by omega) (by omega)
    have zz18 := hk18.size
    clear hk18
    go_wp2_with fail
    refine (eqIntS_same _ _ _ _ R _ ho9.ints hu5.ints hR').mono ?_
    rintro e1 w19 ⟨rfl, nq, hww⟩
    have hb19 := below_of_drewN hww
    clear hww
    replace hx0 := keep_cell hb19 hx0
    replace hx1 := keep_cell hb19 hx1
    replace ho9 := ho9.below hb19
    replace hu5 := hu5.below hb19
    replace hw := keep_below hb19 hw
    have zz19 := hb19.size
    clear hb19
    go_wp2_with fail
    refine (markIntS_own _ _ R 1 _ _ ho9 (by omega) (by omega) (by omega)).mono ?_
    rintro e1 w20 ⟨rfl, ho20, gg, hgg, hk20⟩
    clear ho9
    replace hw := hk20.below hw (by omega) (by omega)
    replace hx0 := hk20.cell hx0 (by simp; omega) (by simp; omega)
    replace hx1 := hk20.cell hx1 (by simp; omega) (by simp; omega)
    replace hu5 := hk20.ownU hu5 (by omega) (by omega)
    have zz20 := hk20.size
    clear hk20
    go_wp2_with fail
    refine (heldIntS_any _ _ R.length 1 _ ho20.ints (by omega) (by omega) (by omega)).mono ?_
    rintro e1 wq ⟨rfl, rfl⟩
    go_wp2_with fail
    refine (toTree_any A B c e xs ys _ (hA.below hw) (hB.below hw) hn hm).mono ?_
    rintro e1 w21 ⟨rfl, hp21, hq21, hb21⟩
    replace hx0 := keep_cell hb21 hx0
    replace hx1 := keep_cell hb21 hx1
    replace ho20 := ho20.below hb21
    replace hu5 := hu5.below hb21
    replace hw := keep_below hb21 hw
    have zz21 := hb21.size
    clear hb21
    go_wp2_with fail
    refine (toIntS_any A1 c1 zs1 _ (hA1.below hw) hz1).mono ?_
    rintro e1 w22 ⟨rfl, hr22, hb22⟩
    (try simp only [World.size_alloc] at hr22)
    replace hx0 := keep_cell hb22 hx0
    replace hx1 := keep_cell hb22 hx1
    replace hp21 := hp21.below hb22
    replace hq21 := hq21.below hb22
    replace ho20 := ho20.below hb22
    replace hu5 := hu5.below hb22
    replace hw := keep_below hb22 hw
    have zz22 := hb22.size
    clear hb22
    go_wp2_with fail
    refine (toIntS_any A2 c2 zs2 _ (hA2.below hw) hz2).mono ?_
    rintro e1 w23 ⟨rfl, hr23, hb23⟩
    (try simp only [World.size_alloc] at hr23)
    replace hx0 := keep_cell hb23 hx0
    replace hx1 := keep_cell hb23 hx1
    replace hp21 := hp21.below hb23
    replace hq21 := hq21.below hb23
    replace hr22 := hr22.below hb23
    replace ho20 := ho20.below hb23
    replace hu5 := hu5.below hb23
    replace hw := keep_below hb23 hw
    have zz23 := hb23.size
    clear hb23
    go_wp2_with fail
    refine (H2.out _ _ _ _ _ _ _ _ _ hp21.ints hq21.ints hr22.ints hr23.ints).mono ?_
    rintro e1 w24 ⟨G24, cg24, rfl, ho24, hb24⟩
    (try simp only [World.size_alloc] at ho24)
    clear hp21
    clear hq21
    clear hr22
    clear hr23
    replace hx0 := keep_cell hb24 hx0
    replace hx1 := keep_cell hb24 hx1
    replace ho20 := ho20.below hb24
    replace hu5 := hu5.below hb24
    replace hw := keep_below hb24 hw
    have zz24 := hb24.size
    clear hb24
    go_wp2_with fail
    refine (eqIntS_same _ _ _ _ R _ ho24.ints hu5.ints hR').mono ?_
    rintro e1 w25 ⟨rfl, nq, hww⟩
    have hb25 := below_of_drewN hww
    clear hww
    replace hx0 := keep_cell hb25 hx0
    replace hx1 := keep_cell hb25 hx1
    replace ho20 := ho20.below hb25
    replace hu5 := hu5.below hb25
    replace ho24 := ho24.below hb25
    replace hw := keep_below hb25 hw
    have zz25 := hb25.size
    clear hb25
    go_wp2_with fail
    refine (heldIntS_any _ _ R.length 1 _ ho20.ints (by omega) (by omega) (by omega)).mono ?_
    rintro e1 wq ⟨rfl, rfl⟩
    go_wp2
    go_ret
    exact ⟨rfl, hw⟩
end Go.Proofs.Ytombfbmcplefgaa
