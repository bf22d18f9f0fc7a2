/- The walk of FnExactWayTo. -/
import Derived.Test.YtkghljcahbkfdaaWay2
namespace Go.Proofs.Ytkghljcahbkfdaa
open Go.ChangeShapes Go.WideShapes Go.ChangeAt Go.RowKit
open Go.ChangeMaps (open_string shut_string)
set_option maxHeartbeats 8000000 in
set_option maxRecDepth 100000 in
theorem FnExactWayTo_walk (A : Option Addr) (n c : Nat) (xs : List Int) (B : Option Addr) (m e : Nat) (ys : List Int) (d1 : Int) (w : World) (hP : xs.length = n ∧ n ≤ c ∧ c ≤ maxLen ∧ Bd xs ∧ IntS w A xs) (hQ : ys.length = m ∧ m ≤ e ∧ e ≤ maxLen ∧ Bd ys ∧ IntS w B ys) (hd1 : -9223372036854775808 ≤ d1 ∧ d1 ≤ 9223372036854775807) :
    Calls Try.prog 6 #[.agg #[.slice A n c, .slice B m e], .int .i64 d1] w fun e1 w' => e1 = .returned (.bool true) ∧ Below w.heap.size w w' := by
  obtain ⟨rfl, hnc, hc, hx, hA⟩ := hP
  obtain ⟨rfl, hme, he, hy, hB⟩ := hQ
  by_cases hs : xs.length + ys.length ≤ 1048576
  case neg =>
    have HZ := Lib.hid (fun W => szTree_no A B xs.length c ys.length e W (by omega) (by omega) (by omega))
    clear hA hB hx hy 
    go_enter Try.func6, Try.ntmps6
    go_wp2_with fail
    refine (HZ.out _).mono ?_
    rintro e1 w1 ⟨rfl, hb1⟩
    go_wp2
    go_ret
    exact ⟨rfl, by (repeat (first | with_reducible exact Below.refl _ _ | with_reducible assumption | with_reducible refine Below.alloc' ?_ ?_ _ | with_reducible refine Below.setCell' ?_ ?_ _ | with_reducible refine Below.drewN' ?_ _ | with_reducible refine Below.drew ?_ | with_reducible refine Below.transA ?_ (by assumption) ?_ | omega | (focus (simp; done)) | (focus (simp; omega))))⟩
  case pos =>
    have hn : xs.length ≤ 1048576 := by omega
    have hm : ys.length ≤ 1048576 := by omega
    have H1 := Lib.hid (fun W P Q cp ce (h : IntS W P xs) (k : IntS W Q ys) => specWayTo_any P Q cp ce xs ys d1 W h k hx hy hd1 hn hm)
    have H2 := Lib.hid (fun W P Q cp ce (h : IntS W P xs) (k : IntS W Q ys) => implWayTo_any P Q cp ce xs ys d1 W h k hx hy hd1 hn hm)
    have hn' : xs.length ≤ maxLen := by unfold maxLen; omega
    have hm' : ys.length ≤ maxLen := by unfold maxLen; omega
    have hl : ¬ ((1048576 : Int) - xs.length - ys.length < 0) := by omega
    have hR : (wayR xs ys d1).length ≤ 2000000 := wayR_len _ _ _ hn
    generalize wayR xs ys d1 = R at *
    generalize wayROk xs ys d1 = r at *
    have hR' : R.length ≤ maxLen := by unfold maxLen; omega
    clear hx hy  
    go_enter Try.func6, Try.ntmps6
    go_wp2_with fail
    refine (szTree_yes A B _ c _ e _ hs).mono ?_
    rintro e1 w1 ⟨rfl, hb1⟩
    have hw : Below w.heap.size w w1 := by (repeat (first | with_reducible exact Below.refl _ _ | with_reducible assumption | with_reducible refine Below.alloc' ?_ ?_ _ | with_reducible refine Below.setCell' ?_ ?_ _ | with_reducible refine Below.drewN' ?_ _ | with_reducible refine Below.drew ?_ | with_reducible refine Below.transA ?_ (by assumption) ?_ | omega | (focus (simp; done)) | (focus (simp; omega))))
    have hx0 : w1.cell? ⟨w.heap.size, 0, none⟩ = some (.slice A xs.length c) := keep_cell hb1 (cell_new _ _ _ _ _ rfl)
    have hx1 : w1.cell? ⟨w.heap.size, 1, none⟩ = some (.slice B ys.length e) := keep_cell hb1 (cell_new _ _ _ _ _ rfl)
    have hzw := World.block_lt_of_cell? _ _ hx0
    replace hzw : w.heap.size < w1.heap.size := hzw
    clear hb1
    go_wp2_with fail
    refine (toTree_any A B c e xs ys _ (hA.below hw) (hB.below hw) hn hm).mono ?_
    rintro e1 w2 ⟨rfl, hp2, hq2, hb2⟩
    replace hx0 := keep_cell hb2 hx0
    replace hx1 := keep_cell hb2 hx1
    replace hw := keep_below hb2 hw
    have zz2 := hb2.size
    clear hb2
    go_wp2_with fail
    refine (H1.out _ _ _ _ _ hp2.ints hq2.ints).mono ?_
    rintro e1 w3 ⟨G3, cg3, rfl, ho3, hb3⟩
    (try simp only [World.size_alloc] at ho3)
    replace hx0 := keep_cell hb3 hx0
    replace hx1 := keep_cell hb3 hx1
    replace hp2 := hp2.below hb3
    replace hq2 := hq2.below hb3
    replace hw := keep_below hb3 hw
    have zz3 := hb3.size
    clear hb3
    clear hp2
    clear hq2
    have hu3 := ho3.upper
    clear ho3
    go_wp2_with fail
    refine (toTree_any A B c e xs ys _ (hA.below hw) (hB.below hw) hn hm).mono ?_
    rintro e1 w4 ⟨rfl, hp4, hq4, hb4⟩
    have hpl := hp4.lt
    have hql := hq4.lt
    replace hx0 := keep_cell hb4 hx0
    replace hx1 := keep_cell hb4 hx1
    replace hu3 := hu3.below hb4
    replace hw := keep_below hb4 hw
    have zz4 := hb4.size
    clear hb4
    go_wp2_with fail
    refine (H2.out _ _ _ _ _ (hp4.alloc _).ints (hq4.alloc _).ints).mono ?_
    rintro e1 w5 ⟨G5, cg5, rfl, ho5, hb5⟩
    (try simp only [World.size_alloc] at ho5)
    have hy0 := keep_cell hb5 (cell_new _ _ _ 0 _ rfl)
    have hy1 := keep_cell hb5 (cell_new _ _ _ 1 _ rfl)
    simp at hy0 hy1
    skip
    replace hb5 := below_alloc hb5
    replace hx0 := keep_cell hb5 hx0
    replace hx1 := keep_cell hb5 hx1
    replace hp4 := hp4.below hb5
    replace hq4 := hq4.below hb5
    replace hu3 := hu3.below hb5
    replace hw := keep_below hb5 hw
    have zz5 := hb5.size
    clear hb5
    go_wp2_with fail
    refine (eqIntS_same _ _ _ _ R _ ho5.ints hu3.ints hR').mono ?_
    rintro e1 w6 ⟨rfl, nq, hww⟩
    have hb6 := below_of_drewN hww
    clear hww
    replace hx0 := keep_cell hb6 hx0
    replace hx1 := keep_cell hb6 hx1
    replace hy0 := keep_cell hb6 hy0
    replace hy1 := keep_cell hb6 hy1
    replace hp4 := hp4.below hb6
    replace hq4 := hq4.below hb6
    replace hu3 := hu3.below hb6
    replace ho5 := ho5.below hb6
    replace hw := keep_below hb6 hw
    have zz6 := hb6.size
    clear hb6
    go_wp2_with fail
    have hAx := hA.below hw
    have hBx := hB.below hw
    go_region_held3 (fun w' => w'.cell? ⟨w.heap.size, 0, none⟩ = some (.slice A xs.length c) ∧ w'.cell? ⟨w.heap.size, 1, none⟩ = some (.slice B ys.length e) ∧ w'.cell? ⟨w4.heap.size, 0, none⟩ = some (.slice (some ⟨w3.heap.size + 1 + 1 + 1, 0, none⟩) xs.length xs.length) ∧ w'.cell? ⟨w4.heap.size, 1, none⟩ = some (.slice (some ⟨w3.heap.size + 1 + 1 + 1 + 1, 0, none⟩) ys.length ys.length) ∧ Below w6.heap.size w6 w')
      (first | exact ⟨hx0, hx1, hy0, hy1, Below.drew (Below.refl _ _)⟩ | (go_split_ands; exact ⟨keep_cell hb1 (by assumption), keep_cell hb1 (by assumption), keep_cell hb1 (by assumption), keep_cell hb1 (by assumption), keep_below hb1 (by assumption)⟩))
      (first | (go_at_call 17; refine (toTree_any A B c e xs ys _ hAx.drew hBx.drew hn hm).mono ?_; rintro e1 w6 ⟨rfl, hp6, hq6, hb1⟩) | (go_at_call 20; refine (eqTree_same _ _ _ _ _ _ _ _ xs ys _ (by go_split_ands; exact hp4.ints.below (by assumption)) (by go_split_ands; exact hq4.ints.below (by assumption)) hp6.ints hq6.ints hn' hm').mono ?_; rintro e1 w7 ⟨rfl, hb1⟩))
    go_split_ands
    rename_i hbR
    replace hw := keep_below hbR hw
    replace hx0 := keep_cell hbR hx0
    replace hx1 := keep_cell hbR hx1
    replace hy0 := keep_cell hbR hy0
    replace hy1 := keep_cell hbR hy1
    replace hp4 := hp4.below hbR
    replace hq4 := hq4.below hbR
    replace hu3 := hu3.below hbR
    replace ho5 := ho5.below hbR
    have zz7 := hbR.size
    clear hbR
    clear hy0 hy1 hAx hBx
    go_wp2_with fail
    refine (markTree_any _ _ _ _ xs ys _ hp4 hq4 (by omega) hn hm).mono ?_
    rintro e1 w8 ⟨rfl, hk8⟩
    clear hp4 hq4
    replace hw := hk8.below hw (by omega) (by omega)
    replace hx0 := hk8.cell hx0 (by simp; omega) (by simp; omega)
    replace hx1 := hk8.cell hx1 (by simp; omega) (by simp; omega)
    replace ho5 := hk8.own ho5 (by omega) (by omega)
    replace hu3 := hk8.ownU hu3 (by omega) (by omega)
    have zz8 := hk8.size
    clear hk8
    go_wp2_with fail
    refine (eqIntS_same _ _ _ _ R _ ho5.ints hu3.ints hR').mono ?_
    rintro e1 w9 ⟨rfl, nq, hww⟩
    have hb9 := below_of_drewN hww
    clear hww
    replace hx0 := keep_cell hb9 hx0
    replace hx1 := keep_cell hb9 hx1
    replace ho5 := ho5.below hb9
    replace hu3 := hu3.below hb9
    replace hw := keep_below hb9 hw
    have zz9 := hb9.size
    clear hb9
    go_wp2_with fail
    refine (markIntS_own _ _ R 1 _ _ ho5 (by omega) (by omega) (by omega)).mono ?_
    rintro e1 w10 ⟨rfl, ho10, gg, hgg, hk10⟩
    clear ho5
    replace hw := hk10.below hw (by omega) (by omega)
    replace hx0 := hk10.cell hx0 (by simp; omega) (by simp; omega)
    replace hx1 := hk10.cell hx1 (by simp; omega) (by simp; omega)
    replace hu3 := hk10.ownU hu3 (by omega) (by omega)
    have zz10 := hk10.size
    clear hk10
    go_wp2_with fail
    refine (heldIntS_any _ _ R.length 1 _ ho10.ints (by omega) (by omega) (by omega)).mono ?_
    rintro e1 wq ⟨rfl, rfl⟩
    go_wp2_with fail
    refine (toTree_any A B c e xs ys _ (hA.below hw) (hB.below hw) hn hm).mono ?_
    rintro e1 w11 ⟨rfl, hp11, hq11, hb11⟩
    replace hx0 := keep_cell hb11 hx0
    replace hx1 := keep_cell hb11 hx1
    replace ho10 := ho10.below hb11
    replace hu3 := hu3.below hb11
    replace hw := keep_below hb11 hw
    have zz11 := hb11.size
    clear hb11
    go_wp2_with fail
    refine (H2.out _ _ _ _ _ hp11.ints hq11.ints).mono ?_
    rintro e1 w12 ⟨G12, cg12, rfl, ho12, hb12⟩
    (try simp only [World.size_alloc] at ho12)
    clear hp11
    clear hq11
    replace hx0 := keep_cell hb12 hx0
    replace hx1 := keep_cell hb12 hx1
    replace ho10 := ho10.below hb12
    replace hu3 := hu3.below hb12
    replace hw := keep_below hb12 hw
    have zz12 := hb12.size
    clear hb12
    go_wp2_with fail
    refine (eqIntS_same _ _ _ _ R _ ho12.ints hu3.ints hR').mono ?_
    rintro e1 w13 ⟨rfl, nq, hww⟩
    have hb13 := below_of_drewN hww
    clear hww
    replace hx0 := keep_cell hb13 hx0
    replace hx1 := keep_cell hb13 hx1
    replace ho10 := ho10.below hb13
    replace hu3 := hu3.below hb13
    replace ho12 := ho12.below hb13
    replace hw := keep_below hb13 hw
    have zz13 := hb13.size
    clear hb13
    go_wp2_with fail
    refine (heldIntS_any _ _ R.length 1 _ ho10.ints (by omega) (by omega) (by omega)).mono ?_
    rintro e1 wq ⟨rfl, rfl⟩
    go_wp2
    go_ret
    exact ⟨rfl, hw⟩
end Go.Proofs.Ytkghljcahbkfdaa
