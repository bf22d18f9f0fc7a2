/- The walk of FnExactDoobParts. -/
import Derived.Test.YtombfbmcplefgaaDoob
namespace Go.Proofs.Ytombfbmcplefgaa
open Go.ChangeShapes Go.WideShapes Go.ChangeAt Go.RowKit
open Go.ChangeMaps (open_string shut_string)
set_option maxHeartbeats 8000000 in
set_option maxRecDepth 100000 in
theorem FnExactDoobParts_walk (A : Option Addr) (n c : Nat) (xs : List Int) (B : Option Addr) (m e : Nat) (ys : List Int) (A1 : Option Addr) (n1 c1 : Nat) (zs1 : List Int) (w : World) (hP : xs.length = n ∧ n ≤ c ∧ c ≤ maxLen ∧ Bd xs ∧ IntS w A xs) (hQ : ys.length = m ∧ m ≤ e ∧ e ≤ maxLen ∧ Bd ys ∧ IntS w B ys) (hL1 : zs1.length = n1 ∧ n1 ≤ c1 ∧ c1 ≤ maxLen ∧ Bd zs1 ∧ IntS w A1 zs1) :
    Calls Try.prog 7 #[.agg #[.slice A n c, .slice B m e], .slice A1 n1 c1] w fun e1 w' => e1 = .returned (.bool true) ∧ Below w.heap.size w w' := by
  obtain ⟨rfl, hnc, hc, hx, hA⟩ := hP
  obtain ⟨rfl, hme, he, hy, hB⟩ := hQ
  obtain ⟨rfl, hnc1, hc1, bz1, hA1⟩ := hL1
  by_cases hz1 : zs1.length ≤ 1048576
  case neg =>
    unfold maxLen at *
    clear hA hB hx hy hA1 bz1
    go_enter Try.func7, Try.ntmps7
    go_wp2
    go_ret
    exact ⟨rfl, by (repeat (first | with_reducible exact Below.refl _ _ | with_reducible assumption | with_reducible refine Below.alloc' ?_ ?_ _ | with_reducible refine Below.setCell' ?_ ?_ _ | with_reducible refine Below.drewN' ?_ _ | with_reducible refine Below.drew ?_ | with_reducible refine Below.transA ?_ (by assumption) ?_ | omega | (focus (simp; done)) | (focus (simp; omega))))⟩
  have hzi1 : (zs1.length : Int) ≤ 1048576 := by omega
  by_cases hs : xs.length + ys.length ≤ 1048576
  case neg =>
    have HZ := Lib.hid (fun W => szTree_no A B xs.length c ys.length e W (by omega) (by omega) (by omega))
    clear hA hB hx hy hA1 bz1
    go_enter Try.func7, Try.ntmps7
    go_wp2_with fail
    refine (HZ.out _).mono ?_
    rintro e1 w1 ⟨rfl, hb1⟩
    go_wp2
    go_ret
    exact ⟨rfl, by (repeat (first | with_reducible exact Below.refl _ _ | with_reducible assumption | with_reducible refine Below.alloc' ?_ ?_ _ | with_reducible refine Below.setCell' ?_ ?_ _ | with_reducible refine Below.drewN' ?_ _ | with_reducible refine Below.drew ?_ | with_reducible refine Below.transA ?_ (by assumption) ?_ | omega | (focus (simp; done)) | (focus (simp; omega))))⟩
  case pos =>
    have hn : xs.length ≤ 1048576 := by omega
    have hm : ys.length ≤ 1048576 := by omega
    have H1 := Lib.hid (fun W P Q cp ce P1 cp1 (h : IntS W P xs) (k : IntS W Q ys) (z1 : IntS W P1 zs1) => specDoobParts_any P Q cp ce xs ys P1 cp1 zs1 W h k z1 hx hy bz1 hn hm hz1)
    have H2 := Lib.hid (fun W P Q cp ce P1 cp1 (h : IntS W P xs) (k : IntS W Q ys) (z1 : IntS W P1 zs1) => implDoobParts_any P Q cp ce xs ys P1 cp1 zs1 W h k z1 hx hy bz1 hn hm hz1)
    have hn' : xs.length ≤ maxLen := by unfold maxLen; omega
    have hm' : ys.length ≤ maxLen := by unfold maxLen; omega
    have hz1' : zs1.length ≤ maxLen := by unfold maxLen; omega
    have hl : ¬ ((1048576 : Int) - xs.length - ys.length < 0) := by omega
    have hR : (dbRF xs ys zs1).length ≤ 2000000 := dbRF_len _ _ _ hn
    have hR2 : (dbRK xs ys zs1).length ≤ 2000000 := dbRK_len _ _ _ hn
    generalize dbRF xs ys zs1 = R at *
    generalize dbRK xs ys zs1 = R2 at *
    generalize dbOk xs ys zs1 = r at *
    have hR' : R.length ≤ maxLen := by unfold maxLen; omega
    have hR2' : R2.length ≤ maxLen := by unfold maxLen; omega
    clear hx hy bz1 
    go_enter Try.func7, Try.ntmps7
    go_wp2_with fail
    refine (szTree_yes A B _ c _ e _ hs).mono ?_
    rintro e1 w1 ⟨rfl, hb1⟩
    have hw : Below w.heap.size w w1 := by (repeat (first | with_reducible exact Below.refl _ _ | with_reducible assumption | with_reducible refine Below.alloc' ?_ ?_ _ | with_reducible refine Below.setCell' ?_ ?_ _ | with_reducible refine Below.drewN' ?_ _ | with_reducible refine Below.drew ?_ | with_reducible refine Below.transA ?_ (by assumption) ?_ | omega | (focus (simp; done)) | (focus (simp; omega))))
    have hx0 : w1.cell? ⟨w.heap.size, 0, none⟩ = some (.slice A xs.length c) := keep_cell hb1 (cell_new _ _ _ _ _ rfl)
    have hx1 : w1.cell? ⟨w.heap.size, 1, none⟩ = some (.slice B ys.length e) := keep_cell hb1 (cell_new _ _ _ _ _ rfl)
    have hzw := World.block_lt_of_cell? _ _ hx0
    replace hzw : w.heap.size < w1.heap.size := hzw
    clear hb1
    go_wp2_with fail
    refine (toTree_any A B c e xs ys _ (hA.below hw) (hB.below hw) hn hm).mono ?_
    rintro e1 w2 ⟨rfl, hp2, hq2, hb2⟩
    replace hx0 := keep_cell hb2 hx0
    replace hx1 := keep_cell hb2 hx1
    replace hw := keep_below hb2 hw
    have zz2 := hb2.size
    clear hb2
    go_wp2_with fail
    refine (toIntS_any A1 c1 zs1 _ (hA1.below hw) hz1).mono ?_
    rintro e1 w3 ⟨rfl, hr3, hb3⟩
    (try simp only [World.size_alloc] at hr3)
    replace hx0 := keep_cell hb3 hx0
    replace hx1 := keep_cell hb3 hx1
    replace hp2 := hp2.below hb3
    replace hq2 := hq2.below hb3
    replace hw := keep_below hb3 hw
    have zz3 := hb3.size
    clear hb3
    go_wp2_with fail
    refine (H1.out _ _ _ _ _ _ _ hp2.ints hq2.ints hr3.ints).mono ?_
    rintro e1 w4 ⟨G4, cg4, G4b, cg4b, rfl, ho4, ho4b, hd4, hb4⟩
    (try simp only [World.size_alloc] at ho4)
    (try simp only [World.size_alloc] at ho4b)
    replace hx0 := keep_cell hb4 hx0
    replace hx1 := keep_cell hb4 hx1
    replace hp2 := hp2.below hb4
    replace hq2 := hq2.below hb4
    replace hr3 := hr3.below hb4
    replace hw := keep_below hb4 hw
    have zz4 := hb4.size
    clear hb4
    clear hp2
    clear hq2
    clear hr3
    have hu4 := ho4.upper
    have hu4b := ho4b.upper
    clear ho4
    clear ho4b
    go_wp2_with fail
    refine (toTree_any A B c e xs ys _ (hA.below hw) (hB.below hw) hn hm).mono ?_
    rintro e1 w5 ⟨rfl, hp5, hq5, hb5⟩
    have hpl := hp5.lt
    have hql := hq5.lt
    replace hx0 := keep_cell hb5 hx0
    replace hx1 := keep_cell hb5 hx1
    replace hu4 := hu4.below hb5
    replace hu4b := hu4b.below hb5
    replace hw := keep_below hb5 hw
    have zz5 := hb5.size
    clear hb5
    go_wp2_with fail
    refine (toIntS_any A1 c1 zs1 _ (hA1.below (keep_below_alloc hw _)) hz1).mono ?_
    rintro e1 w6 ⟨rfl, hr6, hb6⟩
    (try simp only [World.size_alloc] at hr6)
    have hy0 := keep_cell hb6 (cell_new _ _ _ 0 _ rfl)
    have hy1 := keep_cell hb6 (cell_new _ _ _ 1 _ rfl)
    simp at hy0 hy1
    replace hb6 := below_alloc hb6
    replace hx0 := keep_cell hb6 hx0
    replace hx1 := keep_cell hb6 hx1
    replace hp5 := hp5.below hb6
    replace hq5 := hq5.below hb6
    replace hu4 := hu4.below hb6
    replace hu4b := hu4b.below hb6
    replace hw := keep_below hb6 hw
    have zz6 := hb6.size
    clear hb6
    have zl6 := hr6.lt
    go_wp2_with fail
    refine (H2.out _ _ _ _ _ _ _ hp5.ints hq5.ints hr6.ints).mono ?_
    rintro e1 w7 ⟨G7, cg7, G7b, cg7b, rfl, ho7, ho7b, hd7, hb7⟩
    (try simp only [World.size_alloc] at ho7)
    (try simp only [World.size_alloc] at ho7b)
    replace hx0 := keep_cell hb7 hx0
    replace hx1 := keep_cell hb7 hx1
    replace hy0 := keep_cell hb7 hy0
    replace hy1 := keep_cell hb7 hy1
    replace hp5 := hp5.below hb7
    replace hq5 := hq5.below hb7
    replace hr6 := hr6.below hb7
    replace hu4 := hu4.below hb7
    replace hu4b := hu4b.below hb7
    replace hw := keep_below hb7 hw
    have zz7 := hb7.size
    clear hb7
    go_wp2_with fail
    refine (eqIntA2S_same _ _ _ _ R _ ho7.prs hu4.prs hR').mono ?_
    rintro e1 w8 ⟨rfl, hb8⟩
    replace hx0 := keep_cell hb8 hx0
    replace hx1 := keep_cell hb8 hx1
    replace hy0 := keep_cell hb8 hy0
    replace hy1 := keep_cell hb8 hy1
    replace hp5 := hp5.below hb8
    replace hq5 := hq5.below hb8
    replace hr6 := hr6.below hb8
    replace hu4 := hu4.below hb8
    replace hu4b := hu4b.below hb8
    replace ho7 := ho7.below hb8
    replace ho7b := ho7b.below hb8
    replace hw := keep_below hb8 hw
    have zz8 := hb8.size
    clear hb8
    go_wp2_with fail
    refine (eqIntA2S_same _ _ _ _ R2 _ ho7b.prs hu4b.prs hR2').mono ?_
    rintro e1 w8b ⟨rfl, hb8b⟩
    replace hx0 := keep_cell hb8b hx0
    replace hx1 := keep_cell hb8b hx1
    replace hy0 := keep_cell hb8b hy0
    replace hy1 := keep_cell hb8b hy1
    replace hp5 := hp5.below hb8b
    replace hq5 := hq5.below hb8b
    replace hr6 := hr6.below hb8b
    replace hu4 := hu4.below hb8b
    replace hu4b := hu4b.below hb8b
    replace ho7 := ho7.below hb8b
    replace ho7b := ho7b.below hb8b
    replace hw := keep_below hb8b hw
    have zz8b := hb8b.size
    clear hb8b
    go_wp2_with fail
    have hAx := hA.below hw
    have hBx := hB.below hw
    go_region_held3 (fun w' => w'.cell? ⟨w.heap.size, 0, none⟩ = some (.slice A xs.length c) ∧ w'.cell? ⟨w.heap.size, 1, none⟩ = some (.slice B ys.length e) ∧ w'.cell? ⟨w5.heap.size, 0, none⟩ = some (.slice (some ⟨w4.heap.size + 1 + 1 + 1, 0, none⟩) xs.length xs.length) ∧ w'.cell? ⟨w5.heap.size, 1, none⟩ = some (.slice (some ⟨w4.heap.size + 1 + 1 + 1 + 1, 0, none⟩) ys.length ys.length) ∧ Below w8b.heap.size w8b w')
      (first | exact ⟨hx0, hx1, hy0, hy1, Below.drew (Below.refl _ _)⟩ | (go_split_ands; exact ⟨keep_cell hb1 (by assumption), keep_cell hb1 (by assumption), keep_cell hb1 (by assumption), keep_cell hb1 (by assumption), keep_below hb1 (by assumption)⟩))
      (first | (go_at_call 13; refine (toTree_any A B c e xs ys _ hAx.drew hBx.drew hn hm).mono ?_; rintro e1 w66 ⟨rfl, hp66, hq66, hb1⟩) | (go_at_call 17; refine (eqTree_same _ _ _ _ _ _ _ _ xs ys _ (by go_split_ands; exact hp5.ints.below (by assumption)) (by go_split_ands; exact hq5.ints.below (by assumption)) hp66.ints hq66.ints hn' hm').mono ?_; rintro e1 w77 ⟨rfl, hb1⟩))
    go_split_ands
    rename_i hbR
    replace hw := keep_below hbR hw
    replace hx0 := keep_cell hbR hx0
    replace hx1 := keep_cell hbR hx1
    replace hy0 := keep_cell hbR hy0
    replace hy1 := keep_cell hbR hy1
    replace hp5 := hp5.below hbR
    replace hq5 := hq5.below hbR
    replace hr6 := hr6.below hbR
    replace hu4 := hu4.below hbR
    replace hu4b := hu4b.below hbR
    replace ho7 := ho7.below hbR
    replace ho7b := ho7b.below hbR
    have zz9 := hbR.size
    clear hbR
    go_wp2_with fail
    refine (toIntS_any A1 c1 zs1 _ (hA1.below hw) hz1).mono ?_
    rintro e1 w10 ⟨rfl, hr10, hb10⟩
    (try simp only [World.size_alloc] at hr10)
    have hI := hr10.ints
    replace hx0 := keep_cell hb10 hx0
    replace hx1 := keep_cell hb10 hx1
    replace hy0 := keep_cell hb10 hy0
    replace hy1 := keep_cell hb10 hy1
    replace hp5 := hp5.below hb10
    replace hq5 := hq5.below hb10
    replace hr6 := hr6.below hb10
    replace hu4 := hu4.below hb10
    replace hu4b := hu4b.below hb10
    replace ho7 := ho7.below hb10
    replace ho7b := ho7b.below hb10
    replace hw := keep_below hb10 hw
    have zz10 := hb10.size
    clear hb10
    go_wp2_with fail
    refine (eqIntS_same _ _ _ _ zs1 _ hr6.ints hr10.ints hz1').mono ?_
    rintro e1 w11 ⟨rfl, nq, hww⟩
    have hb11 := below_of_drewN hww
    clear hww hI
    replace hx0 := keep_cell hb11 hx0
    replace hx1 := keep_cell hb11 hx1
    replace hy0 := keep_cell hb11 hy0
    replace hy1 := keep_cell hb11 hy1
    replace hp5 := hp5.below hb11
    replace hq5 := hq5.below hb11
    replace hr6 := hr6.below hb11
    replace hu4 := hu4.below hb11
    replace hu4b := hu4b.below hb11
    replace ho7 := ho7.below hb11
    replace ho7b := ho7b.below hb11
    replace hw := keep_below hb11 hw
    have zz11 := hb11.size
    clear hb11
    go_wp2_with fail
    refine (markTree_any _ _ _ _ xs ys _ hp5 hq5 (by omega) hn hm).mono ?_
    rintro e1 w12 ⟨rfl, hk12⟩
    clear hy0 hy1 hAx hBx
    clear hp5 hq5
    have hlhr6 := hr6.lt
    replace hw := hk12.below hw (by omega) (by omega)
    replace hx0 := hk12.cell hx0 (by simp; omega) (by simp; omega)
    replace hx1 := hk12.cell hx1 (by simp; omega) (by simp; omega)
    replace hr6 := hk12.row hr6 (by omega) (by omega)
    replace ho7 := hk12.own2 ho7 (by omega) (by omega)
    replace ho7b := hk12.own2 ho7b (by omega) (by omega)
    replace hu4 := hk12.ownU2 hu4 (by omega) (by omega)
    replace hu4b := hk12.ownU2 hu4b (by omega) (by omega)
    have zz12 := hk12.size
    clear hk12
    go_wp2_with fail
    refine (markIntS_row _ _ zs1 _ _ hr6 (by omega) (by omega) (by omega)).mono ?_
    rintro e1 w13 ⟨rfl, _, hg13⟩
    have hk13 := kept_of_grown hg13
    clear hg13 hr6
    replace hw := hk13.below hw (by omega) (by omega)
    replace hx0 := hk13.cell hx0 (by simp; omega) (by simp; omega)
    replace hx1 := hk13.cell hx1 (by simp; omega) (by simp; omega)
    replace ho7 := hk13.own2 ho7 (by omega) (by omega)
    replace ho7b := hk13.own2 ho7b (by omega) (by omega)
    replace hu4 := hk13.ownU2 hu4 (by omega) (by omega)
    replace hu4b := hk13.ownU2 hu4b (by omega) (by omega)
    have zz13 := hk13.size
    clear hk13
    go_wp2_with fail
    refine (eqIntA2S_same _ _ _ _ R _ ho7.prs hu4.prs hR').mono ?_
    rintro e1 w14 ⟨rfl, hb14⟩
    replace hx0 := keep_cell hb14 hx0
    replace hx1 := keep_cell hb14 hx1
    replace ho7 := ho7.below hb14
    replace ho7b := ho7b.below hb14
    replace hu4 := hu4.below hb14
    replace hu4b := hu4b.below hb14
    replace hw := keep_below hb14 hw
    have zz14 := hb14.size
    clear hb14
    go_wp2_with fail
    refine (eqIntA2S_same _ _ _ _ R2 _ ho7b.prs hu4b.prs hR2').mono ?_
    rintro e1 w14b ⟨rfl, hb14b⟩
    replace hx0 := keep_cell hb14b hx0
    replace hx1 := keep_cell hb14b hx1
    replace ho7 := ho7.below hb14b
    replace ho7b := ho7b.below hb14b
    replace hu4 := hu4.below hb14b
    replace hu4b := hu4b.below hb14b
    replace hw := keep_below hb14b hw
    have zz14b := hb14b.size
    clear hb14b
    go_wp2_with fail
    refine (markIntA2S_ap _ _ _ R R2 1 _ _ ho7 ho7b hd7 (by omega) (by omega) (by omega)).mono ?_
    rintro e1 w15 ⟨rfl, ho15x, ho15y, gg, hgg, hk15⟩
    clear ho7 ho7b
    replace hw := hk15.below hw (by omega) (by omega)
    replace hx0 := hk15.cell hx0 (by simp; omega) (by simp; omega)
    replace hx1 := hk15.cell hx1 (by simp; omega) (by simp; omega)
    replace hu4 := hk15.ownU2 hu4 (by omega) (by omega)
    replace hu4b := hk15.ownU2 hu4b (by omega) (by omega)
    have zz15 := hk15.size
    clear hk15
    go_wp2_with fail
    refine (markIntA2S_ap _ _ _ R2 (pmarks 1 R.length) _ _ _ ho15y ho15x (fun g g' e1 e2 e => hd7 g' g e2 e1 e.symm) (by omega) (by omega) (by omega)).mono ?_
    rintro e1 w15b ⟨rfl, ho15b, ho15, gg2, hgg2, hk15b⟩
    clear ho15x ho15y
    replace hw := hk15b.below hw (by omega) (by omega)
    replace hx0 := hk15b.cell hx0 (by simp; omega) (by simp; omega)
    replace hx1 := hk15b.cell hx1 (by simp; omega) (by simp; omega)
    replace hu4 := hk15b.ownU2 hu4 (by omega) (by omega)
    replace hu4b := hk15b.ownU2 hu4b (by omega) (by omega)
    have zz15b := hk15b.size
    clear hk15b
    go_wp2_with fail
    refine (heldIntA2S_any _ _ R.length 1 _ ho15.prs (by omega) (by omega) (by omega)).mono ?_
    rintro e1 wq ⟨rfl, rfl⟩
    go_wp2_with fail
    refine (heldIntA2S_any _ _ R2.length _ _ ho15b.prs (by omega) (by omega) (by omega)).mono ?_
    rintro e1 wq ⟨rfl, rfl⟩
    go_wp2_with fail
    refine (toTree_any A B c e xs ys _ (hA.below hw) (hB.below hw) hn hm).mono ?_
    rintro e1 w16 ⟨rfl, hp16, hq16, hb16⟩
    replace hx0 := keep_cell hb16 hx0
    replace hx1 := keep_cell hb16 hx1
    replace ho15 := ho15.below hb16
    replace ho15b := ho15b.below hb16
    replace hu4 := hu4.below hb16
    replace hu4b := hu4b.below hb16
    replace hw := keep_below hb16 hw
    have zz16 := hb16.size
    clear hb16
    go_wp2_with fail
    refine (toIntS_any A1 c1 zs1 _ (hA1.below hw) hz1).mono ?_
    rintro e1 w17 ⟨rfl, hr17, hb17⟩
    (try simp only [World.size_alloc] at hr17)
    replace hx0 := keep_cell hb17 hx0
    replace hx1 := keep_cell hb17 hx1
    replace hp16 := hp16.below hb17
    replace hq16 := hq16.below hb17
    replace ho15 := ho15.below hb17
    replace ho15b := ho15b.below hb17
    replace hu4 := hu4.below hb17
    replace hu4b := hu4b.below hb17
    replace hw := keep_below hb17 hw
    have zz17 := hb17.size
    clear hb17
    go_wp2_with fail
    refine (H2.out _ _ _ _ _ _ _ hp16.ints hq16.ints hr17.ints).mono ?_
    rintro e1 w18 ⟨G18, cg18, G18b, cg18b, rfl, ho18, ho18b, hd18, hb18⟩
    (try simp only [World.size_alloc] at ho18)
    (try simp only [World.size_alloc] at ho18b)
    clear hp16
    clear hq16
    clear hr17
    replace hx0 := keep_cell hb18 hx0
    replace hx1 := keep_cell hb18 hx1
    replace ho15 := ho15.below hb18
    replace ho15b := ho15b.below hb18
    replace hu4 := hu4.below hb18
    replace hu4b := hu4b.below hb18
    replace hw := keep_below hb18 hw
    have zz18 := hb18.size
    clear hb18
    go_wp2_with fail
    refine (eqIntA2S_same _ _ _ _ R _ ho18.prs hu4.prs hR').mono ?_
    rintro e1 w19 ⟨rfl, hb19⟩
    replace hx0 := keep_cell hb19 hx0
    replace hx1 := keep_cell hb19 hx1
    replace ho15 := ho15.below hb19
    replace ho15b := ho15b.below hb19
    replace hu4 := hu4.below hb19
    replace hu4b := hu4b.below hb19
    replace ho18 := ho18.below hb19
    replace ho18b := ho18b.below hb19
    replace hw := keep_below hb19 hw
    have zz19 := hb19.size
    clear hb19
    go_wp2_with fail
    refine (eqIntA2S_same _ _ _ _ R2 _ ho18b.prs hu4b.prs hR2').mono ?_
    rintro e1 w19b ⟨rfl, hb19b⟩
    replace hx0 := keep_cell hb19b hx0
    replace hx1 := keep_cell hb19b hx1
    replace ho15 := ho15.below hb19b
    replace ho15b := ho15b.below hb19b
    replace hu4 := hu4.below hb19b
    replace hu4b := hu4b.below hb19b
    replace ho18 := ho18.below hb19b
    replace ho18b := ho18b.below hb19b
    replace hw := keep_below hb19b hw
    have zz19b := hb19b.size
    clear hb19b
    go_wp2_with fail
    refine (heldIntA2S_any _ _ R.length 1 _ ho15.prs (by omega) (by omega) (by omega)).mono ?_
    rintro e1 wq ⟨rfl, rfl⟩
    go_wp2_with fail
    refine (heldIntA2S_any _ _ R2.length _ _ ho15b.prs (by omega) (by omega) (by omega)).mono ?_
    rintro e1 wq ⟨rfl, rfl⟩
    go_wp2
    go_ret
    exact ⟨rfl, hw⟩
end Go.Proofs.Ytombfbmcplefgaa
