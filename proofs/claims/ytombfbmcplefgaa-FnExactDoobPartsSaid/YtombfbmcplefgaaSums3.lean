/- Contracts of SumsOf, printed by wraps.py. -/
import Derived.Test.YtombfbmcplefgaaSums2
namespace Go.Proofs.Ytombfbmcplefgaa
open Go.ChangeShapes Go.WideShapes Go.ChangeAt Go.RowKit

noncomputable def sumR (xs ys : List Int) : List Int := if good xs ys then sumsL xs ys else []
theorem sumR_len (xs ys : List Int) (hn : xs.length ≤ 1048576) : (sumR xs ys).length ≤ 2000000 := by
  unfold sumR; split
  · rw [sums_len (by assumption)]; omega
  · simp

set_option maxHeartbeats 400000 in
theorem specSumsOf_any (A B : Option Addr) (c e : Nat) (xs ys : List Int) (w : World) (h : IntS w A xs) (k : IntS w B ys) (hx : Bd xs) (hy : Bd ys) (hn : xs.length ≤ 1048576) (hm : ys.length ≤ 1048576) :
    Calls Try.prog 75 #[.agg #[.slice A xs.length c, .slice B ys.length e]] w (RetIB w (sumR xs ys) (good xs ys)) := by
  cases hg : good xs ys
  · have hR : sumR xs ys = [] := by unfold sumR; rw [hg]; rfl
    have HG := Lib.hid (fun W (h : IntS W A xs) (k : IntS W B ys) => l2Good_r hg A B c e W h k hx hy hn hm)
    rw [hR]
    clear hx hy hg hR
    go_enter Try.func75, Try.ntmps75
    go_wp2_with fail
    refine (HG.out _ (h.alloc _) (k.alloc _)).mono ?_
    rintro e1 w1 ⟨rfl, hb1⟩
    have hb2 := below_alloc hb1
    go_wp2
    go_ret2
    exact ⟨_, _, rfl, .inr ⟨_, rfl, hb2.size, ⟨#[], heap_alloc_new _ _, [], rfl⟩⟩, keep_below_alloc hb2 _⟩
  · have hR : sumR xs ys = sumsL xs ys := by unfold sumR; rw [hg]; rfl
    have HG := Lib.hid (fun W (h : IntS W A xs) (k : IntS W B ys) => l2Good_r hg A B c e W h k hx hy hn hm)
    have hgl := good_len hg
    have HK := Lib.hid (fun W (h : IntS W A xs) (k : IntS W B ys) => l2Sums_good hg A B c e W h k)
    rw [hR]
    clear hx hy hg hR hgl
    go_enter Try.func75, Try.ntmps75
    go_wp2_with fail
    refine (HG.out _ (h.alloc _) (k.alloc _)).mono ?_
    rintro e1 w1 ⟨rfl, hb1⟩
    have hx0 := keep_cell hb1 (cell_new _ _ _ 0 _ rfl)
    have hx1 := keep_cell hb1 (cell_new _ _ _ 1 _ rfl)
    simp at hx0 hx1
    have hb2 := below_alloc hb1
    go_wp2_with fail
    refine (HK.out _ (h.below hb2) (k.below hb2)).mono ?_
    rintro e1 w2 ⟨A', c', rfl, ho, hb3⟩
    go_wp2
    go_ret2
    exact ⟨_, _, rfl, ho.mono hb2.size, keep_below hb3 hb2⟩

set_option maxHeartbeats 400000 in
theorem implSumsOf_any (A B : Option Addr) (c e : Nat) (xs ys : List Int) (w : World) (h : IntS w A xs) (k : IntS w B ys) (hx : Bd xs) (hy : Bd ys) (hn : xs.length ≤ 1048576) (hm : ys.length ≤ 1048576) :
    Calls Try.prog 74 #[.agg #[.slice A xs.length c, .slice B ys.length e]] w (RetIB w (sumR xs ys) (good xs ys)) := by
  cases hg : good xs ys
  · have hR : sumR xs ys = [] := by unfold sumR; rw [hg]; rfl
    have HG := Lib.hid (fun W (h : IntS W A xs) (k : IntS W B ys) => isTree_r hg A B c e W h k hx hy hn hm)
    rw [hR]
    clear hx hy hg hR
    go_enter Try.func74, Try.ntmps74
    go_wp2_with fail
    refine (HG.out _ (h.alloc _) (k.alloc _)).mono ?_
    rintro e1 w1 ⟨rfl, hb1⟩
    have hb2 := below_alloc hb1
    go_wp2
    go_ret2
    exact ⟨none, 0, rfl, .inl ⟨rfl, rfl⟩, hb2⟩
  · have hR : sumR xs ys = sumsL xs ys := by unfold sumR; rw [hg]; rfl
    have HG := Lib.hid (fun W (h : IntS W A xs) (k : IntS W B ys) => isTree_r hg A B c e W h k hx hy hn hm)
    have hgl := good_len hg
    have HK := Lib.hid (fun W (h : IntS W A xs) (k : IntS W B ys) => sums_good hg A B c e W h k)
    rw [hR]
    clear hx hy hg hR hgl
    go_enter Try.func74, Try.ntmps74
    go_wp2_with fail
    refine (HG.out _ (h.alloc _) (k.alloc _)).mono ?_
    rintro e1 w1 ⟨rfl, hb1⟩
    have hx0 := keep_cell hb1 (cell_new _ _ _ 0 _ rfl)
    have hx1 := keep_cell hb1 (cell_new _ _ _ 1 _ rfl)
    simp at hx0 hx1
    have hb2 := below_alloc hb1
    go_wp2_with fail
    refine (HK.out _ (h.below hb2) (k.below hb2)).mono ?_
    rintro e1 w2 ⟨A', c', rfl, ho, hb3⟩
    go_wp2
    go_ret2
    exact ⟨_, _, rfl, ho.mono hb2.size, keep_below hb3 hb2⟩
end Go.Proofs.Ytombfbmcplefgaa
