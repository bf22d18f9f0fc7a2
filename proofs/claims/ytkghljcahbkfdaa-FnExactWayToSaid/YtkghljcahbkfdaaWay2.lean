/- Contracts of WayTo, printed by wraps.py. -/
import Derived.Test.YtkghljcahbkfdaaWay
namespace Go.Proofs.Ytkghljcahbkfdaa
open Go.ChangeShapes Go.WideShapes Go.ChangeAt Go.RowKit

noncomputable def wayROk (xs ys : List Int) (x : Int) : Bool := good xs ys && isNd xs.length x
noncomputable def wayR (xs ys : List Int) (x : Int) : List Int := if wayROk xs ys x then wayL xs x.toNat else []
theorem wayR_len (xs ys : List Int) (x : Int) (hn : xs.length ≤ 1048576) : (wayR xs ys x).length ≤ 2000000 := by
  unfold wayR; split
  · have := way_len xs x.toNat; rename_i hr; unfold wayROk at hr; simp only [Bool.and_eq_true] at hr; obtain ⟨q, rfl, hq⟩ := nd_nat hr.2; simp only [Int.toNat_natCast] at *; omega
  · simp

set_option maxHeartbeats 400000 in
theorem specWayTo_any (A B : Option Addr) (c e : Nat) (xs ys : List Int) (x : Int) (w : World) (h : IntS w A xs) (k : IntS w B ys) (hx : Bd xs) (hy : Bd ys) (_hd : -9223372036854775808 ≤ x ∧ x ≤ 9223372036854775807) (hn : xs.length ≤ 1048576) (hm : ys.length ≤ 1048576) :
    Calls Try.prog 28 #[.agg #[.slice A xs.length c, .slice B ys.length e], .int .i64 x] w (RetIB w (wayR xs ys x) (wayROk xs ys x)) := by
  have HN := Lib.hid (fun W (h : IntS W A xs) (k : IntS W B ys) => l2Node_any A B c e xs ys x W h k hx hy hn hm)
  change Hid (∀ W (h : IntS W A xs) (k : IntS W B ys), Calls _ _ _ W fun e1 w' => e1 = .returned (.bool (wayROk xs ys x)) ∧ _) at HN
  clear hx hy
  obtain ⟨g, hg⟩ : ∃ g, wayROk xs ys x = g := ⟨_, rfl⟩
  cases g
  · have hR : wayR xs ys x = [] := by unfold wayR; rw [hg]; rfl
    rw [hR, hg]
    rw [hg] at HN
    clear hg hR
    go_enter Try.func28, Try.ntmps28
    go_wp2_with fail
    refine (HN.out _ (h.alloc _) (k.alloc _)).mono ?_
    rintro e1 w1 ⟨rfl, hb1⟩
    have hb2 := below_alloc hb1
    go_wp2
    go_ret2
    exact ⟨_, _, rfl, .inr ⟨_, rfl, hb2.size, ⟨#[], heap_alloc_new _ _, [], rfl⟩⟩, keep_below_alloc hb2 _⟩
  · have hR : wayR xs ys x = wayL xs x.toNat := by unfold wayR; rw [hg]; rfl
    have hok := hg
    unfold wayROk at hok
    simp only [Bool.and_eq_true] at hok
    obtain ⟨q, rfl, hq⟩ := nd_nat hok.2
    replace hok := hok.1
    have HK := Lib.hid (fun W (h : IntS W A xs) (k : IntS W B ys) => (fun (hg : good xs ys = true) => l2Way_any hg A B c ys.length e q W h hq) hok)
    rw [hR, hg]
    rw [hg] at HN
    clear hg hR hok
    go_enter Try.func28, Try.ntmps28
    go_wp2_with fail
    refine (HN.out _ (h.alloc _) (k.alloc _)).mono ?_
    rintro e1 w1 ⟨rfl, hb1⟩
    have hb2 := below_alloc hb1
    have hx0 := keep_cell hb1 (cell_new _ _ _ 0 _ rfl)
    have hx1 := keep_cell hb1 (cell_new _ _ _ 1 _ rfl)
    simp at hx0 hx1
    go_wp2_with fail
    refine (HK.out _ (h.below hb2) (k.below hb2)).mono ?_
    rintro e1 w9 ⟨A', c', rfl, ho, hb9⟩
    go_wp2
    go_ret2
    exact ⟨_, _, rfl, ho.mono hb2.size, keep_below hb9 hb2⟩

set_option maxHeartbeats 400000 in
theorem implWayTo_any (A B : Option Addr) (c e : Nat) (xs ys : List Int) (x : Int) (w : World) (h : IntS w A xs) (k : IntS w B ys) (hx : Bd xs) (hy : Bd ys) (_hd : -9223372036854775808 ≤ x ∧ x ≤ 9223372036854775807) (hn : xs.length ≤ 1048576) (hm : ys.length ≤ 1048576) :
    Calls Try.prog 29 #[.agg #[.slice A xs.length c, .slice B ys.length e], .int .i64 x] w (RetIB w (wayR xs ys x) (wayROk xs ys x)) := by
  cases hg : good xs ys
  case false =>
    have hR : wayR xs ys x = [] := by unfold wayR wayROk; rw [hg]; rfl
    have hO : wayROk xs ys x = false := by unfold wayROk; rw [hg]; rfl
    have HG := Lib.hid (fun W (h : IntS W A xs) (k : IntS W B ys) => isTree_r hg A B c e W h k hx hy hn hm)
    rw [hR, hO]
    clear hx hy hg hR hO
    go_enter Try.func29, Try.ntmps29
    go_wp2_with fail
    refine (HG.out _ (h.alloc _) (k.alloc _)).mono ?_
    rintro e1 w1 ⟨rfl, hb1⟩
    go_wp2
    go_ret2
    exact ⟨none, 0, rfl, .inl ⟨rfl, rfl⟩, below_alloc hb1⟩
  case true =>
    have HG := Lib.hid (fun W (h : IntS W A xs) (k : IntS W B ys) => isTree_r hg A B c e W h k hx hy hn hm)
    have HN := Lib.hid (fun W => isNode_any A B c ys.length e xs.length x W hn)
    obtain ⟨r, hr⟩ : ∃ r, isNd xs.length x = r := ⟨_, rfl⟩
    have hO : wayROk xs ys x = r := by unfold wayROk; rw [hg, hr]; rfl
    have hR : wayR xs ys x = if r then wayL xs x.toNat else [] := by unfold wayR; rw [hO]
    rw [hR, hO]
    rw [hr] at HN
    clear hx hy hR hO
    cases r
    case false =>
      clear hr hg
      go_enter Try.func29, Try.ntmps29
      go_wp2_with fail
      refine (HG.out _ (h.alloc _) (k.alloc _)).mono ?_
      rintro e1 w1 ⟨rfl, hb1⟩
      have hb2 := below_alloc hb1
      have hx0 := keep_cell hb1 (cell_new _ _ _ 0 _ rfl)
      have hx1 := keep_cell hb1 (cell_new _ _ _ 1 _ rfl)
      simp at hx0 hx1
      go_wp2_with fail
      refine (HN.out _).mono ?_
      rintro e1 w2 ⟨rfl, hb3⟩
      go_wp2
      go_ret2
      exact ⟨none, 0, rfl, .inl ⟨rfl, rfl⟩, keep_below hb3 hb2⟩
    obtain ⟨q, rfl, hq⟩ := nd_nat hr
    have HK := Lib.hid (fun W (h : IntS W A xs) (k : IntS W B ys) => way_any hg A B c ys.length e q W h hq)
    clear hr hg
    rw [if_pos rfl]
    go_enter Try.func29, Try.ntmps29
    go_wp2_with fail
    refine (HG.out _ (h.alloc _) (k.alloc _)).mono ?_
    rintro e1 w1 ⟨rfl, hb1⟩
    have hb2 := below_alloc hb1
    have hx0 := keep_cell hb1 (cell_new _ _ _ 0 _ rfl)
    have hx1 := keep_cell hb1 (cell_new _ _ _ 1 _ rfl)
    simp at hx0 hx1
    go_wp2_with fail
    refine (HN.out _).mono ?_
    rintro e1 w2 ⟨rfl, hb3⟩
    have hx0 := keep_cell hb3 hx0
    have hx1 := keep_cell hb3 hx1
    have hb4 := keep_below hb3 hb2
    go_wp2_with fail
    refine (HK.out _ (h.below hb4) (k.below hb4)).mono ?_
    rintro e1 w9 ⟨A', c', rfl, ho, hb9⟩
    go_wp2
    go_ret2
    exact ⟨_, _, rfl, ho.mono hb4.size, keep_below hb9 hb4⟩
end Go.Proofs.Ytkghljcahbkfdaa
