/- TreeText: what the reference's and the program's return. -/
import Derived.Test.YtfpokpgkkjibfaaDoorText
import Derived.Test.YtfpokpgkkjibfaaDoorTree9
namespace Go.Proofs.YtfpokpgkkjibfaaDoor
open Go.ChangeShapes Go.WideShapes Go.ChangeAt Go.RowKit
open Go.ChangeMaps (open_string shut_string)

noncomputable def txV (xs ys : List Int) : Value := if good xs ys then .tuple #[.string (txB xs ys), .bool true] else .tuple #[.string ⟨#[]⟩, .bool false]

set_option maxRecDepth 100000 in
theorem specTreeText_any (A B : Option Addr) (c e : Nat) (xs ys : List Int) (w : World) (h : IntS w A xs) (k : IntS w B ys) (hx : Bd xs) (hy : Bd ys) (hn : xs.length ≤ 1048576) (hm : ys.length ≤ 1048576) :
    Calls Tryd.prog 43 #[.agg #[.slice A xs.length c, .slice B ys.length e]] w fun e' w' => e' = .returned (txV xs ys) ∧ Below w.heap.size w w' := by
  have HL := Lib.hid (fun W (h : IntS W A xs) (k : IntS W B ys) => l2Good_any A B c e xs ys W h k hx hy hn hm)
  unfold txV
  clear hx hy
  cases hg : good xs ys
  · rw [hg] at HL
    clear hg
    rw [if_neg Bool.false_ne_true]
    go_enter Tryd.func43, Tryd.ntmps43
    go_wp2_with fail
    refine (HL.out _ (h.alloc _) (k.alloc _)).mono ?_
    rintro e1 w1 ⟨rfl, hb1⟩
    replace hb1 := below_alloc hb1
    go_wp2
    go_ret2
    exact ⟨rfl, hb1⟩
  · have hl := good_len hg
    have HT := Lib.hid (fun W (h : IntS W A xs) (k : IntS W B ys) => l2Text_any A B c e xs ys W h k hl.2.1 hl.2.2 (good_small hg))
    rw [hg] at HL
    clear hg hl
    rw [if_pos rfl]
    generalize txB xs ys = Z at *
    go_enter Tryd.func43, Tryd.ntmps43
    go_wp2_with fail
    refine (HL.out _ (h.alloc _) (k.alloc _)).mono ?_
    rintro e1 w1 ⟨rfl, hb1⟩
    have hx0 : w1.cell? ⟨w.heap.size, 0, none⟩ = some (.slice A xs.length c) := keep_cell hb1 (cell_new _ _ _ _ _ rfl)
    have hx1 : w1.cell? ⟨w.heap.size, 1, none⟩ = some (.slice B ys.length e) := keep_cell hb1 (cell_new _ _ _ _ _ rfl)
    replace hb1 := below_alloc hb1
    go_wp2_with fail
    refine (HT.out _ (h.below hb1) (k.below hb1)).mono ?_
    rintro e2 w2 ⟨rfl, hb2⟩
    go_wp2
    go_ret2
    exact ⟨rfl, keep_below hb2 hb1⟩

set_option maxRecDepth 100000 in
theorem implTreeText_any (A B : Option Addr) (c e : Nat) (xs ys : List Int) (w : World) (h : IntS w A xs) (k : IntS w B ys) (hx : Bd xs) (hy : Bd ys) (hn : xs.length ≤ 1048576) (hm : ys.length ≤ 1048576) (hT : TabE w) :
    Calls Tryd.prog 45 #[.agg #[.slice A xs.length c, .slice B ys.length e]] w fun e' w' => e' = .returned (txV xs ys) ∧ Below w.heap.size w w' := by
  have HL := Lib.hid (fun W (h : IntS W A xs) (k : IntS W B ys) => isTree_any A B c e xs ys W h k hx hy hn hm)
  unfold txV
  clear hx hy
  cases hg : good xs ys
  · rw [hg] at HL
    clear hg
    rw [if_neg Bool.false_ne_true]
    go_enter Tryd.func45, Tryd.ntmps45
    go_wp2_with fail
    refine (HL.out _ (h.alloc _) (k.alloc _)).mono ?_
    rintro e1 w1 ⟨rfl, hb1⟩
    replace hb1 := below_alloc hb1
    go_wp2
    go_ret2
    exact ⟨rfl, hb1⟩
  · have hl := good_len hg
    have HT := Lib.hid (fun W (h : IntS W A xs) (k : IntS W B ys) (hT : TabE W) => treeText_any A B c e xs ys W h k hl.2.1 hl.1 hl.2.2 (good_small hg) hT)
    rw [hg] at HL
    clear hg hl
    rw [if_pos rfl]
    generalize txB xs ys = Z at *
    go_enter Tryd.func45, Tryd.ntmps45
    go_wp2_with fail
    refine (HL.out _ (h.alloc _) (k.alloc _)).mono ?_
    rintro e1 w1 ⟨rfl, hb1⟩
    have hx0 : w1.cell? ⟨w.heap.size, 0, none⟩ = some (.slice A xs.length c) := keep_cell hb1 (cell_new _ _ _ _ _ rfl)
    have hx1 : w1.cell? ⟨w.heap.size, 1, none⟩ = some (.slice B ys.length e) := keep_cell hb1 (cell_new _ _ _ _ _ rfl)
    replace hb1 := below_alloc hb1
    go_wp2_with fail
    refine (HT.out _ (h.below hb1) (k.below hb1) (hT.below hb1)).mono ?_
    rintro e2 w2 ⟨rfl, hb2⟩
    go_wp2
    go_ret2
    exact ⟨rfl, keep_below hb2 hb1⟩
end Go.Proofs.YtfpokpgkkjibfaaDoor
