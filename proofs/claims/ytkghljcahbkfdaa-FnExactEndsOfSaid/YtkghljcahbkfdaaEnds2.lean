/- Contracts of EndsOf, printed by wraps.py. -/
import Derived.Test.YtkghljcahbkfdaaEnds
namespace Go.Proofs.Ytkghljcahbkfdaa
open Go.ChangeShapes Go.WideShapes Go.ChangeAt Go.RowKit

noncomputable def endR (xs ys : List Int) : List Int := if good xs ys then endsL xs else []
theorem endR_len (xs ys : List Int) (hn : xs.length ≤ 1048576) : (endR xs ys).length ≤ 2000000 := by
  unfold endR; split
  · have := pick_len (noKid xs xs.length) xs.length; unfold endsL; omega
  · simp

set_option maxHeartbeats 400000 in
theorem specEndsOf_any (A B : Option Addr) (c e : Nat) (xs ys : List Int) (w : World) (h : IntS w A xs) (k : IntS w B ys) (hx : Bd xs) (hy : Bd ys) (hn : xs.length ≤ 1048576) (hm : ys.length ≤ 1048576) :
    Calls Try.prog 26 #[.agg #[.slice A xs.length c, .slice B ys.length e]] w (RetIB w (endR xs ys) (good xs ys)) := by
  cases hg : good xs ys
  · have hR : endR xs ys = [] := by unfold endR; rw [hg]; rfl
    have HG := Lib.hid (fun W (h : IntS W A xs) (k : IntS W B ys) => l2Good_r hg A B c e W h k hx hy hn hm)
    rw [hR]
    clear hx hy hg hR
    go_enter Try.func26, Try.ntmps26
    go_wp2_with fail
    refine (HG.out _ (h.alloc _) (k.alloc _)).mono ?_
    rintro e1 w1 ⟨rfl, hb1⟩
    have hb2 := below_alloc hb1
    go_wp2
    go_ret2
    exact ⟨_, _, rfl, .inr ⟨_, rfl, hb2.size, ⟨#[], heap_alloc_new _ _, [], rfl⟩⟩, keep_below_alloc hb2 _⟩
  · have hR : endR xs ys = endsL xs := by unfold endR; rw [hg]; rfl
    have HG := Lib.hid (fun W (h : IntS W A xs) (k : IntS W B ys) => l2Good_r hg A B c e W h k hx hy hn hm)
    have hgl := good_len hg
    have HK := Lib.hid (fun W (h : IntS W A xs) (k : IntS W B ys) => l2Ends_any A B c ys.length e xs W h (by omega) (good_iff.1 hg).2.1 (good_iff.1 hg).1.2.2)
    rw [hR]
    clear hx hy hg hR hgl
    go_enter Try.func26, Try.ntmps26
    go_wp2_with fail
    refine (HG.out _ (h.alloc _) (k.alloc _)).mono ?_
    rintro e1 w1 ⟨rfl, hb1⟩
    have hx0 := keep_cell hb1 (cell_new _ _ _ 0 _ rfl)
    have hx1 := keep_cell hb1 (cell_new _ _ _ 1 _ rfl)
    simp at hx0 hx1
    have hb2 := below_alloc hb1
    go_wp2_with fail
    refine (HK.out _ (h.below hb2) (k.below hb2)).mono ?_
    rintro e1 w2 ⟨A', c', rfl, ho, hb3⟩
    go_wp2
    go_ret2
    exact ⟨_, _, rfl, ho.mono hb2.size, keep_below hb3 hb2⟩

set_option maxHeartbeats 400000 in
theorem implEndsOf_any (A B : Option Addr) (c e : Nat) (xs ys : List Int) (w : World) (h : IntS w A xs) (k : IntS w B ys) (hx : Bd xs) (hy : Bd ys) (hn : xs.length ≤ 1048576) (hm : ys.length ≤ 1048576) :
    Calls Try.prog 27 #[.agg #[.slice A xs.length c, .slice B ys.length e]] w (RetIB w (endR xs ys) (good xs ys)) := by
  cases hg : good xs ys
  · have hR : endR xs ys = [] := by unfold endR; rw [hg]; rfl
    have HG := Lib.hid (fun W (h : IntS W A xs) (k : IntS W B ys) => isTree_r hg A B c e W h k hx hy hn hm)
    rw [hR]
    clear hx hy hg hR
    go_enter Try.func27, Try.ntmps27
    go_wp2_with fail
    refine (HG.out _ (h.alloc _) (k.alloc _)).mono ?_
    rintro e1 w1 ⟨rfl, hb1⟩
    have hb2 := below_alloc hb1
    go_wp2
    go_ret2
    exact ⟨none, 0, rfl, .inl ⟨rfl, rfl⟩, hb2⟩
  · have hR : endR xs ys = endsL xs := by unfold endR; rw [hg]; rfl
    have HG := Lib.hid (fun W (h : IntS W A xs) (k : IntS W B ys) => isTree_r hg A B c e W h k hx hy hn hm)
    have hgl := good_len hg
    have HK := Lib.hid (fun W (h : IntS W A xs) (k : IntS W B ys) => ends_any A B c ys.length e xs W h (by omega) (good_iff.1 hg).2.1 (good_iff.1 hg).1.2.2)
    rw [hR]
    clear hx hy hg hR hgl
    go_enter Try.func27, Try.ntmps27
    go_wp2_with fail
    refine (HG.out _ (h.alloc _) (k.alloc _)).mono ?_
    rintro e1 w1 ⟨rfl, hb1⟩
    have hx0 := keep_cell hb1 (cell_new _ _ _ 0 _ rfl)
    have hx1 := keep_cell hb1 (cell_new _ _ _ 1 _ rfl)
    simp at hx0 hx1
    have hb2 := below_alloc hb1
    go_wp2_with fail
    refine (HK.out _ (h.below hb2) (k.below hb2)).mono ?_
    rintro e1 w2 ⟨A', c', rfl, ho, hb3⟩
    go_wp2
    go_ret2
    exact ⟨_, _, rfl, ho.mono hb2.size, keep_below hb3 hb2⟩
end Go.Proofs.Ytkghljcahbkfdaa
