/- Contracts: the mean of a stopped process. -/
import Derived.Test.YtombfbmcplefgaaIsStop
import Derived.Test.YtombfbmcplefgaaHigh
import Derived.Test.YtombfbmcplefgaaChance
import Derived.Test.YtombfbmcplefgaaDriftP
namespace Go.Proofs.Ytombfbmcplefgaa
open Go.ChangeShapes Go.WideShapes Go.ChangeAt Go.RowKit

def smS (xs ys ps qs : List Int) : Int := lsum (fun y => nth (sumsL xs ys) y.toNat * nth ps y.toNat) qs
noncomputable def smOk (xs ys ps qs : List Int) : Bool := good xs ys && isProc xs.length ps && isStp xs qs
noncomputable def smN (xs ys ps qs : List Int) : Int := if smOk xs ys ps qs then lowX (smS xs ys ps qs) (nth (sumsL xs ys) 0) else 0
noncomputable def smM (xs ys ps qs : List Int) : Int := if smOk xs ys ps qs then lowY (smS xs ys ps qs) (nth (sumsL xs ys) 0) else 0
theorem smN_no {xs ys ps qs : List Int} (h : smOk xs ys ps qs = false) : smN xs ys ps qs = 0 := by unfold smN; rw [h]; rfl
theorem smM_no {xs ys ps qs : List Int} (h : smOk xs ys ps qs = false) : smM xs ys ps qs = 0 := by unfold smM; rw [h]; rfl
theorem smN_yes {xs ys ps qs : List Int} (h : smOk xs ys ps qs = true) : smN xs ys ps qs = lowX (smS xs ys ps qs) (nth (sumsL xs ys) 0) := by unfold smN; rw [h]; rfl
theorem smM_yes {xs ys ps qs : List Int} (h : smOk xs ys ps qs = true) : smM xs ys ps qs = lowY (smS xs ys ps qs) (nth (sumsL xs ys) 0) := by unfold smM; rw [h]; rfl

set_option maxHeartbeats 1000000 in
theorem l3Both_any (A B P Q : Option Addr) (c e cp cq : Nat) (xs ys ps qs : List Int) (w : World) (h : IntS w A xs) (k : IntS w B ys) (zp : IntS w P ps) (zq : IntS w Q qs) (hx : Bd xs) (hy : Bd ys) (hn : xs.length ≤ 1048576) (hm : ys.length ≤ 1048576) (lp : ps.length ≤ 1048576) (lq : qs.length ≤ 1048576) :
    Calls Try.prog 94 #[.agg #[.slice A xs.length c, .slice B ys.length e], .slice P ps.length cp, .slice Q qs.length cq] w fun e1 w' => e1 = .returned (.bool (good xs ys && isProc xs.length ps && isStp xs qs)) ∧ Below w.heap.size w w' := by
  have H1 := Lib.hid (fun W (h : IntS W A xs) (k : IntS W B ys) (zp : IntS W P ps) => l3Good_any A B P c e cp xs ys ps W h k zp hx hy hn hm lp)
  by_cases q1 : (good xs ys && isProc xs.length ps) = true
  · have H2 := Lib.hid (fun W (h : IntS W A xs) (zq : IntS W Q qs) => l3Stop_good (Bool.and_eq_true_iff.1 q1).1 A B Q c e cq qs W h zq lq)
    rw [q1] at H1 ⊢
    rw [Bool.true_and]
    generalize isStp xs qs = r at *
    clear q1 hx hy
    go_enter Try.func94, Try.ntmps94
    go_wp2_with fail
    refine (H1.out _ (h.alloc _) (k.alloc _) (zp.alloc _)).mono ?_
    rintro e1 w1 ⟨rfl, hb⟩
    have hx0 : w1.cell? ⟨w.heap.size, 0, none⟩ = some (.slice A xs.length c) := keep_cell hb (by simp)
    have hx1 : w1.cell? ⟨w.heap.size, 1, none⟩ = some (.slice B ys.length e) := keep_cell hb (by simp)
    have hw : Below w.heap.size w w1 := below_alloc hb
    clear hb
    go_wp2_with fail
    refine (H2.out _ (h.below hw) (zq.below hw)).mono ?_
    rintro e1 w2 ⟨rfl, hb⟩
    go_wp2
    go_ret
    exact ⟨rfl, keep_below hb hw⟩
  · replace q1 : (good xs ys && isProc xs.length ps) = false := by simpa using q1
    rw [q1] at H1 ⊢
    rw [Bool.false_and]
    clear q1 hx hy
    go_enter Try.func94, Try.ntmps94
    go_wp2_with fail
    refine (H1.out _ (h.alloc _) (k.alloc _) (zp.alloc _)).mono ?_
    rintro e1 w1 ⟨rfl, hb⟩
    go_wp2
    go_ret
    exact ⟨rfl, below_alloc hb⟩
end Go.Proofs.Ytombfbmcplefgaa
