/- The walk of FnExactTreeText. -/
import Derived.Test.YtfpokpgkkjibfaaDoorTreeTx
namespace Go.Proofs.YtfpokpgkkjibfaaDoor
open Go.ChangeShapes Go.WideShapes Go.ChangeAt Go.RowKit
open Go.ChangeMaps (open_string shut_string)
set_option maxHeartbeats 4000000 in
set_option maxRecDepth 100000 in
theorem FnExactTreeText_walk (A : Option Addr) (n c : Nat) (xs : List Int) (B : Option Addr) (m e : Nat) (ys : List Int) (w : World) (hP : xs.length = n ∧ n ≤ c ∧ c ≤ maxLen ∧ Bd xs ∧ IntS w A xs) (hQ : ys.length = m ∧ m ≤ e ∧ e ≤ maxLen ∧ Bd ys ∧ IntS w B ys) (hT : TabE w) :
    Calls Tryd.prog 10 #[.agg #[.slice A n c, .slice B m e]] w fun e w' => e = .returned (.bool true) ∧ Below w.heap.size w w' := by
  obtain ⟨rfl, hnc, hc, hx, hA⟩ := hP
  obtain ⟨rfl, hme, he, hy, hB⟩ := hQ
  by_cases hs : xs.length + ys.length ≤ 1048576
  · have hn : xs.length ≤ 1048576 := by omega
    have hm : ys.length ≤ 1048576 := by omega
    have H1 := Lib.hid (fun W P Q c e (h : IntS W P xs) (k : IntS W Q ys) => specTreeText_any P Q c e xs ys W h k hx hy hn hm)
    have H2 := Lib.hid (fun W P Q c e (h : IntS W P xs) (k : IntS W Q ys) (hT : TabE W) => implTreeText_any P Q c e xs ys W h k hx hy hn hm hT)
    have hn' : xs.length ≤ maxLen := by unfold maxLen; omega
    have hm' : ys.length ≤ maxLen := by unfold maxLen; omega
    have hl : ¬ ((1048576 : Int) - xs.length - ys.length < 0) := by omega
    have hv : ∃ q b, txV xs ys = .tuple #[.string q, .bool b] := by unfold txV; split <;> exact ⟨_, _, rfl⟩
    generalize txV xs ys = r at *
    obtain ⟨q, b, rfl⟩ := hv
    clear hx hy
    go_enter Tryd.func10, Tryd.ntmps10
    go_wp2_with fail
    refine (szTree_yes A B _ c _ e _ hs).mono ?_
    rintro e1 w1 ⟨rfl, hb1⟩
    have hb1' : Below w.heap.size w w1 := by (repeat (first | with_reducible exact Below.refl _ _ | with_reducible assumption | with_reducible refine Below.alloc' ?_ ?_ _ | with_reducible refine Below.setCell' ?_ ?_ _ | with_reducible refine Below.drewN' ?_ _ | with_reducible refine Below.drew ?_ | with_reducible refine Below.transA ?_ (by assumption) ?_ | omega | (focus (simp; done)) | (focus (simp; omega))))
    have hA1 := hA.below hb1'
    have hB1 := hB.below hb1'
    have hx0 : w1.cell? ⟨w.heap.size, 0, none⟩ = some (.slice A xs.length c) := keep_cell hb1 (cell_new _ _ _ _ _ rfl)
    have hx1 : w1.cell? ⟨w.heap.size, 1, none⟩ = some (.slice B ys.length e) := keep_cell hb1 (cell_new _ _ _ _ _ rfl)
    clear hb1
    go_wp2_with fail
    refine (toTree_any A B c e xs ys _ hA1 hB1 hn hm).mono ?_
    rintro e1 w2 ⟨rfl, hp2, hq2, hb2⟩
    have hb2' := keep_below hb2 hb1'
    have hx0 := keep_cell hb2 hx0
    have hx1 := keep_cell hb2 hx1
    go_wp2_with fail
    refine (H1.out _ _ _ _ _ hp2.ints hq2.ints).mono ?_
    rintro e1 w3 ⟨rfl, hb3⟩
    have hb3' := keep_below hb3 hb2'
    have hx0 := keep_cell hb3 hx0
    have hx1 := keep_cell hb3 hx1
    go_wp2_with fail
    refine (toTree_any A B c e xs ys _ (hA.below hb3') (hB.below hb3') hn hm).mono ?_
    rintro e1 w4 ⟨rfl, hp4, hq4, hb4⟩
    have hb4' := keep_below hb4 hb3'
    have hx0 := keep_cell hb4 hx0
    have hx1 := keep_cell hb4 hx1
    clear hb2 hb3 hb1' hb2' hb3' hp2 hq2
    go_wp2_with fail
    refine (H2.out _ _ _ _ _ (hp4.alloc _).ints (hq4.alloc _).ints (hT.below (hb4'.alloc hb4'.size _))).mono ?_
    rintro e1 w5 ⟨rfl, hb5⟩
    have hb5' : Below w.heap.size w w5 := keep_below hb5 (hb4'.alloc hb4'.size _)
    have hp5 := (hp4.alloc _).below hb5
    have hq5 := (hq4.alloc _).below hb5
    have hx0 := keep_cell hb5 (keep_cell ((Below.refl _ _).alloc (Nat.le_refl _) _) hx0)
    have hx1 := keep_cell hb5 (keep_cell ((Below.refl _ _).alloc (Nat.le_refl _) _) hx1)
    have hy0 := keep_cell hb5 (cell_new _ _ _ 0 _ rfl)
    have hy1 := keep_cell hb5 (cell_new _ _ _ 1 _ rfl)
    simp at hy0 hy1
    have hA5 := hA.below hb5'
    have hB5 := hB.below hb5'
    clear hb5 hb4 hb4' hp4 hq4 H1 H2 hA hB
    have hp0 : Hid (w3.heap.size + 1 + 1 + 1 = w3.heap.size + 1 + 1 + 1) := rfl
    all_goals
      go_wp2_with fail
      go_region_held3 (fun w' => w'.cell? ⟨w.heap.size, 0, none⟩ = some (.slice A xs.length c) ∧ w'.cell? ⟨w.heap.size, 1, none⟩ = some (.slice B ys.length e) ∧ w'.cell? ⟨w4.heap.size, 0, none⟩ = some (.slice (some ⟨w3.heap.size + 1 + 1 + 1, 0, none⟩) xs.length xs.length) ∧ w'.cell? ⟨w4.heap.size, 1, none⟩ = some (.slice (some ⟨w3.heap.size + 1 + 1 + 1 + 1, 0, none⟩) ys.length ys.length) ∧ Below w5.heap.size w5 w')
        (first | exact ⟨hx0, hx1, hy0, hy1, Below.drew (Below.refl _ _)⟩ | (go_split_ands; exact ⟨keep_cell hb1 (by assumption), keep_cell hb1 (by assumption), keep_cell hb1 (by assumption), keep_cell hb1 (by assumption), keep_below hb1 (by assumption)⟩))
        (first | (go_at_call 44; refine (toTree_any A B c e xs ys _ hA5.drew hB5.drew hn hm).mono ?_; rintro e1 w66 ⟨rfl, hp66, hq66, hb1⟩) | (go_at_call 26; refine (eqTree_same _ _ _ _ _ _ _ _ xs ys _ (by go_split_ands; exact hp5.ints.below (by assumption)) (by go_split_ands; exact hq5.ints.below (by assumption)) hp66.ints hq66.ints hn' hm').mono ?_; rintro e1 w77 ⟨rfl, hb1⟩))
      go_wp2
      go_ret
      exact ⟨rfl, by go_split_ands; exact keep_below (by assumption) hb5'⟩
  · have HZ := Lib.hid (fun W => szTree_no A B xs.length c ys.length e W (by omega) (by omega) (by omega))
    clear hA hB hx hy
    go_enter Tryd.func10, Tryd.ntmps10
    go_wp2_with fail
    refine (HZ.out _).mono ?_
    rintro e1 w1 ⟨rfl, hb1⟩
    go_wp2
    go_ret
    exact ⟨rfl, by (repeat (first | with_reducible exact Below.refl _ _ | with_reducible assumption | with_reducible refine Below.alloc' ?_ ?_ _ | with_reducible refine Below.setCell' ?_ ?_ _ | with_reducible refine Below.drewN' ?_ _ | with_reducible refine Below.drew ?_ | with_reducible refine Below.transA ?_ (by assumption) ?_ | omega | (focus (simp; done)) | (focus (simp; omega))))⟩
end Go.Proofs.YtfpokpgkkjibfaaDoor
