/- Contracts of CutAt, printed by wraps.py. -/
import Derived.Test.YtkghljcahbkfdaaCut
namespace Go.Proofs.Ytkghljcahbkfdaa
open Go.ChangeShapes Go.WideShapes Go.ChangeAt Go.RowKit

noncomputable def cutROk (xs ys : List Int) (x : Int) : Bool := good xs ys && decide (0 ≤ x)
noncomputable def cutR (xs ys : List Int) (x : Int) : List Int := if cutROk xs ys x then cutL xs ys x else []
theorem cutR_len (xs ys : List Int) (x : Int) (hn : xs.length ≤ 1048576) : (cutR xs ys x).length ≤ 2000000 := by
  unfold cutR; split
  · have := pick_len (inCut xs ys x) xs.length; unfold cutL; omega
  · simp

set_option maxHeartbeats 400000 in
theorem specCutAt_any (A B : Option Addr) (c e : Nat) (xs ys : List Int) (x : Int) (w : World) (h : IntS w A xs) (k : IntS w B ys) (hx : Bd xs) (hy : Bd ys) (_hd : -9223372036854775808 ≤ x ∧ x ≤ 9223372036854775807) (hn : xs.length ≤ 1048576) (hm : ys.length ≤ 1048576) :
    Calls Try.prog 30 #[.agg #[.slice A xs.length c, .slice B ys.length e], .int .i64 x] w (RetIB w (cutR xs ys x) (cutROk xs ys x)) := by
  obtain ⟨r, hr⟩ : ∃ r, decide (0 ≤ x) = r := ⟨_, rfl⟩
  cases hg : good xs ys
  case false =>
    have hO : cutROk xs ys x = false := by unfold cutROk; rw [hg]; rfl
    have hR : cutR xs ys x = [] := by unfold cutR; rw [hO]; rfl
    have HG := Lib.hid (fun W (h : IntS W A xs) (k : IntS W B ys) => l2Good_r hg A B c e W h k hx hy hn hm)
    rw [hR, hO]
    clear hx hy hg hR hO hr
    go_enter Try.func30, Try.ntmps30
    go_wp2_with fail
    refine (HG.out _ (h.alloc _) (k.alloc _)).mono ?_
    rintro e1 w1 ⟨rfl, hb1⟩
    have hb2 := below_alloc hb1
    go_wp2
    go_ret2
    exact ⟨_, _, rfl, .inr ⟨_, rfl, hb2.size, ⟨#[], heap_alloc_new _ _, [], rfl⟩⟩, keep_below_alloc hb2 _⟩
  case true =>
    have hO : cutROk xs ys x = r := by unfold cutROk; rw [hg, hr]; rfl
    have hR : cutR xs ys x = if r then cutL xs ys x else [] := by unfold cutR; rw [hO]
    have HG := Lib.hid (fun W (h : IntS W A xs) (k : IntS W B ys) => l2Good_r hg A B c e W h k hx hy hn hm)
    rw [hR, hO]
    have HK := Lib.hid (fun W (h : IntS W A xs) (k : IntS W B ys) => l2CutAt_any hg A B c e x W h k)
    clear hx hy hR hO hg
    cases r
    case false =>
      have hneg : x < 0 := by simpa using hr
      have hdn : decide (x < 0) = true := by simpa using hneg
      clear hr HK
      go_enter Try.func30, Try.ntmps30
      go_wp2_with fail
      refine (HG.out _ (h.alloc _) (k.alloc _)).mono ?_
      rintro e1 w1 ⟨rfl, hb1⟩
      have hb2 := below_alloc hb1
      go_wp2
      go_ret2
      exact ⟨_, _, rfl, .inr ⟨_, rfl, hb2.size, ⟨#[], heap_alloc_new _ _, [], rfl⟩⟩, keep_below_alloc hb2 _⟩
    have hneg : ¬ x < 0 := by simpa using hr
    have hdn : decide (x < 0) = false := by simpa using hneg
    clear hr
    rw [if_pos rfl]
    go_enter Try.func30, Try.ntmps30
    go_wp2_with fail
    refine (HG.out _ (h.alloc _) (k.alloc _)).mono ?_
    rintro e1 w1 ⟨rfl, hb1⟩
    have hb2 := below_alloc hb1
    have hx0 := keep_cell hb1 (cell_new _ _ _ 0 _ rfl)
    have hx1 := keep_cell hb1 (cell_new _ _ _ 1 _ rfl)
    simp at hx0 hx1
    go_wp2_with fail
    refine (HK.out _ (h.below hb2) (k.below hb2)).mono ?_
    rintro e1 w9 ⟨A', c', rfl, ho, hb9⟩
    go_wp2
    go_ret2
    exact ⟨_, _, rfl, ho.mono hb2.size, keep_below hb9 hb2⟩

set_option maxHeartbeats 400000 in
theorem implCutAt_any (A B : Option Addr) (c e : Nat) (xs ys : List Int) (x : Int) (w : World) (h : IntS w A xs) (k : IntS w B ys) (hx : Bd xs) (hy : Bd ys) (_hd : -9223372036854775808 ≤ x ∧ x ≤ 9223372036854775807) (hn : xs.length ≤ 1048576) (hm : ys.length ≤ 1048576) :
    Calls Try.prog 31 #[.agg #[.slice A xs.length c, .slice B ys.length e], .int .i64 x] w (RetIB w (cutR xs ys x) (cutROk xs ys x)) := by
  obtain ⟨r, hr⟩ : ∃ r, decide (0 ≤ x) = r := ⟨_, rfl⟩
  cases hg : good xs ys
  case false =>
    have hO : cutROk xs ys x = false := by unfold cutROk; rw [hg]; rfl
    have hR : cutR xs ys x = [] := by unfold cutR; rw [hO]; rfl
    have HG := Lib.hid (fun W (h : IntS W A xs) (k : IntS W B ys) => isTree_r hg A B c e W h k hx hy hn hm)
    rw [hR, hO]
    clear hx hy hg hR hO hr
    go_enter Try.func31, Try.ntmps31
    go_wp2_with fail
    refine (HG.out _ (h.alloc _) (k.alloc _)).mono ?_
    rintro e1 w1 ⟨rfl, hb1⟩
    have hb2 := below_alloc hb1
    go_wp2
    go_ret2
    exact ⟨none, 0, rfl, .inl ⟨rfl, rfl⟩, hb2⟩
  case true =>
    have hO : cutROk xs ys x = r := by unfold cutROk; rw [hg, hr]; rfl
    have hR : cutR xs ys x = if r then cutL xs ys x else [] := by unfold cutR; rw [hO]
    have HG := Lib.hid (fun W (h : IntS W A xs) (k : IntS W B ys) => isTree_r hg A B c e W h k hx hy hn hm)
    rw [hR, hO]
    have HK := Lib.hid (fun W (h : IntS W A xs) (k : IntS W B ys) => cut_any hg A B c e x W h)
    clear hx hy hR hO hg
    cases r
    case false =>
      have hneg : x < 0 := by simpa using hr
      have hdn : decide (x < 0) = true := by simpa using hneg
      clear hr HK
      go_enter Try.func31, Try.ntmps31
      go_wp2_with fail
      refine (HG.out _ (h.alloc _) (k.alloc _)).mono ?_
      rintro e1 w1 ⟨rfl, hb1⟩
      have hb2 := below_alloc hb1
      go_wp2
      go_ret2
      exact ⟨none, 0, rfl, .inl ⟨rfl, rfl⟩, hb2⟩
    have hneg : ¬ x < 0 := by simpa using hr
    have hdn : decide (x < 0) = false := by simpa using hneg
    clear hr
    rw [if_pos rfl]
    go_enter Try.func31, Try.ntmps31
    go_wp2_with fail
    refine (HG.out _ (h.alloc _) (k.alloc _)).mono ?_
    rintro e1 w1 ⟨rfl, hb1⟩
    have hb2 := below_alloc hb1
    have hx0 := keep_cell hb1 (cell_new _ _ _ 0 _ rfl)
    have hx1 := keep_cell hb1 (cell_new _ _ _ 1 _ rfl)
    simp at hx0 hx1
    go_wp2_with fail
    refine (HK.out _ (h.below hb2) (k.below hb2)).mono ?_
    rintro e1 w9 ⟨A', c', rfl, ho, hb9⟩
    go_wp2
    go_ret2
    exact ⟨_, _, rfl, ho.mono hb2.size, keep_below hb9 hb2⟩
end Go.Proofs.Ytkghljcahbkfdaa
