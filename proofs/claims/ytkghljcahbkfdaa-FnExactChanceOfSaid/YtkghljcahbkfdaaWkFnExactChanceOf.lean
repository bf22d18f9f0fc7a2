/- The walk of FnExactChanceOf. -/
import Derived.Test.YtkghljcahbkfdaaChance
namespace Go.Proofs.Ytkghljcahbkfdaa
open Go.ChangeShapes Go.WideShapes Go.ChangeAt Go.RowKit
open Go.ChangeMaps (open_string shut_string)
set_option maxHeartbeats 8000000 in
set_option maxRecDepth 100000 in
theorem FnExactChanceOf_walk (A : Option Addr) (n c : Nat) (xs : List Int) (B : Option Addr) (m e : Nat) (ys : List Int) (d1 : Int) (w : World) (hP : xs.length = n ∧ n ≤ c ∧ c ≤ maxLen ∧ Bd xs ∧ IntS w A xs) (hQ : ys.length = m ∧ m ≤ e ∧ e ≤ maxLen ∧ Bd ys ∧ IntS w B ys) (hd1 : -9223372036854775808 ≤ d1 ∧ d1 ≤ 9223372036854775807) :
    Calls Try.prog 9 #[.agg #[.slice A n c, .slice B m e], .int .i64 d1] w fun e1 w' => e1 = .returned (.bool true) ∧ Below w.heap.size w w' := by
  obtain ⟨rfl, hnc, hc, hx, hA⟩ := hP
  obtain ⟨rfl, hme, he, hy, hB⟩ := hQ
  by_cases hs : xs.length + ys.length ≤ 1048576
  case neg =>
    have HZ := Lib.hid (fun W => szTree_no A B xs.length c ys.length e W (by omega) (by omega) (by omega))
    clear hA hB hx hy 
    go_enter Try.func9, Try.ntmps9
    go_wp2_with fail
    refine (HZ.out _).mono ?_
    rintro e1 w1 ⟨rfl, hb1⟩
    go_wp2
    go_ret
    exact ⟨rfl, by (repeat (first | with_reducible exact Below.refl _ _ | with_reducible assumption | with_reducible refine Below.alloc' ?_ ?_ _ | with_reducible refine Below.setCell' ?_ ?_ _ | with_reducible refine Below.drewN' ?_ _ | with_reducible refine Below.drew ?_ | with_reducible refine Below.transA ?_ (by assumption) ?_ | omega | (focus (simp; done)) | (focus (simp; omega))))⟩
  case pos =>
    have hn : xs.length ≤ 1048576 := by omega
    have hm : ys.length ≤ 1048576 := by omega
    have H1 := Lib.hid (fun W P Q cp ce (h : IntS W P xs) (k : IntS W Q ys) => specChanceOf_any P Q cp ce xs ys d1 W h k hx hy hd1 hn hm)
    have H2 := Lib.hid (fun W P Q cp ce (h : IntS W P xs) (k : IntS W Q ys) => implChanceOf_any P Q cp ce xs ys d1 W h k hx hy hd1 hn hm)
    have hn' : xs.length ≤ maxLen := by unfold maxLen; omega
    have hm' : ys.length ≤ maxLen := by unfold maxLen; omega
    have hl : ¬ ((1048576 : Int) - xs.length - ys.length < 0) := by omega
    generalize chanN xs ys d1 = N at *
    generalize chanM xs ys d1 = M at *
    generalize chanOk xs ys d1 = r at *
    clear hx hy  
    go_enter Try.func9, Try.ntmps9
    go_wp2_with fail
    refine (szTree_yes A B _ c _ e _ hs).mono ?_
    rintro e1 w1 ⟨rfl, hb1⟩
    have hw : Below w.heap.size w w1 := by (repeat (first | with_reducible exact Below.refl _ _ | with_reducible assumption | with_reducible refine Below.alloc' ?_ ?_ _ | with_reducible refine Below.setCell' ?_ ?_ _ | with_reducible refine Below.drewN' ?_ _ | with_reducible refine Below.drew ?_ | with_reducible refine Below.transA ?_ (by assumption) ?_ | omega | (focus (simp; done)) | (focus (simp; omega))))
    have hx0 : w1.cell? ⟨w.heap.size, 0, none⟩ = some (.slice A xs.length c) := keep_cell hb1 (cell_new _ _ _ _ _ rfl)
    have hx1 : w1.cell? ⟨w.heap.size, 1, none⟩ = some (.slice B ys.length e) := keep_cell hb1 (cell_new _ _ _ _ _ rfl)
    have hzw := World.block_lt_of_cell? _ _ hx0
    replace hzw : w.heap.size < w1.heap.size := hzw
    clear hb1
    go_wp2_with fail
    refine (toTree_any A B c e xs ys _ (hA.below hw) (hB.below hw) hn hm).mono ?_
    rintro e1 w2 ⟨rfl, hp2, hq2, hb2⟩
    replace hx0 := keep_cell hb2 hx0
    replace hx1 := keep_cell hb2 hx1
    replace hw := keep_below hb2 hw
    have zz2 := hb2.size
    clear hb2
    go_wp2_with fail
    refine (H1.out _ _ _ _ _ hp2.ints hq2.ints).mono ?_
    rintro e1 w3 ⟨rfl, hb3⟩
    replace hx0 := keep_cell hb3 hx0
    replace hx1 := keep_cell hb3 hx1
    replace hp2 := hp2.below hb3
    replace hq2 := hq2.below hb3
    replace hw := keep_below hb3 hw
    have zz3 := hb3.size
    clear hb3
    clear hp2
    clear hq2
    have hzS := World.block_lt_of_cell? _ _ hx0
    replace hzS : w.heap.size < w3.heap.size := hzS
    go_wp2_with fail
    refine (toTree_any A B c e xs ys _ (hA.below (keep_below_alloc hw _)) (hB.below (keep_below_alloc hw _)) hn hm).mono ?_
    rintro e1 w4 ⟨rfl, hp4, hq4, hb4⟩
    simp only [World.size_alloc] at hp4 hq4
    have hv0 := keep_cell hb4 (cell_new _ _ _ 0 _ rfl)
    have hv1 := keep_cell hb4 (cell_new _ _ _ 1 _ rfl)
    simp at hv0 hv1
    replace hb4 := below_alloc hb4
    have hpl := hp4.lt
    have hql := hq4.lt
    replace hx0 := keep_cell hb4 hx0
    replace hx1 := keep_cell hb4 hx1
    replace hw := keep_below hb4 hw
    have zz4 := hb4.size
    clear hb4
    go_wp2_with fail
    refine (H2.out _ _ _ _ _ (hp4.alloc _).ints (hq4.alloc _).ints).mono ?_
    rintro e1 w5 ⟨rfl, hb5⟩
    have hy0 := keep_cell hb5 (cell_new _ _ _ 0 _ rfl)
    have hy1 := keep_cell hb5 (cell_new _ _ _ 1 _ rfl)
    simp at hy0 hy1
    replace hb5 := below_alloc hb5
    replace hx0 := keep_cell hb5 hx0
    replace hx1 := keep_cell hb5 hx1
    replace hv0 := keep_cell hb5 hv0
    replace hv1 := keep_cell hb5 hv1
    replace hp4 := hp4.below hb5
    replace hq4 := hq4.below hb5
    replace hw := keep_below hb5 hw
    have zz5 := hb5.size
    clear hb5
    have hzG := World.block_lt_of_cell? _ _ hx0
    replace hzG : w.heap.size < w5.heap.size := hzG
    have hzv := World.block_lt_of_cell? _ _ hv0
    replace hzv : w3.heap.size < w5.heap.size := hzv
    go_wp2_with fail
    refine (eqIntA2_yes N M _).mono ?_
    rintro e1 w6 ⟨rfl, hb6⟩
    replace hb6 := below_alloc hb6
    replace hx0 := keep_cell hb6 hx0
    replace hx1 := keep_cell hb6 hx1
    replace hv0 := keep_cell hb6 hv0
    replace hv1 := keep_cell hb6 hv1
    replace hy0 := keep_cell hb6 hy0
    replace hy1 := keep_cell hb6 hy1
    replace hp4 := hp4.below hb6
    replace hq4 := hq4.below hb6
    replace hw := keep_below hb6 hw
    have zz6 := hb6.size
    clear hb6
    go_wp2_with fail
    have hAx := hA.below hw
    have hBx := hB.below hw
    go_region_held3 (fun w' => w'.cell? ⟨w.heap.size, 0, none⟩ = some (.slice A xs.length c) ∧ w'.cell? ⟨w.heap.size, 1, none⟩ = some (.slice B ys.length e) ∧ w'.cell? ⟨w4.heap.size, 0, none⟩ = some (.slice (some ⟨w3.heap.size + 1 + 1 + 1 + 1, 0, none⟩) xs.length xs.length) ∧ w'.cell? ⟨w4.heap.size, 1, none⟩ = some (.slice (some ⟨w3.heap.size + 1 + 1 + 1 + 1 + 1, 0, none⟩) ys.length ys.length) ∧ Below w6.heap.size w6 w')
      (first | exact ⟨hx0, hx1, hy0, hy1, Below.drew (Below.refl _ _)⟩ | (go_split_ands; exact ⟨keep_cell hb1 (by assumption), keep_cell hb1 (by assumption), keep_cell hb1 (by assumption), keep_cell hb1 (by assumption), keep_below hb1 (by assumption)⟩))
      (first | (go_at_call 17; refine (toTree_any A B c e xs ys _ hAx.drew hBx.drew hn hm).mono ?_; rintro e1 w6 ⟨rfl, hp6, hq6, hb1⟩) | (go_at_call 20; refine (eqTree_same _ _ _ _ _ _ _ _ xs ys _ (by go_split_ands; exact hp4.ints.below (by assumption)) (by go_split_ands; exact hq4.ints.below (by assumption)) hp6.ints hq6.ints hn' hm').mono ?_; rintro e1 w7 ⟨rfl, hb1⟩))
    go_split_ands
    rename_i hbR
    replace hw := keep_below hbR hw
    replace hx0 := keep_cell hbR hx0
    replace hx1 := keep_cell hbR hx1
    replace hv0 := keep_cell hbR hv0
    replace hv1 := keep_cell hbR hv1
    replace hy0 := keep_cell hbR hy0
    replace hy1 := keep_cell hbR hy1
    replace hp4 := hp4.below hbR
    replace hq4 := hq4.below hbR
    have zz7 := hbR.size
    clear hbR
    go_wp2
    go_ret
    exact ⟨rfl, hw⟩
end Go.Proofs.Ytkghljcahbkfdaa
