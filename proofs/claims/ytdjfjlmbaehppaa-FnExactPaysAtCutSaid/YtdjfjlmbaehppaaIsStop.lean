/- Contracts: IsStopping. -/
import Derived.Test.YtdjfjlmbaehppaaStop
namespace Go.Proofs.Ytdjfjlmbaehppaa
open Go.ChangeShapes Go.WideShapes Go.ChangeAt Go.RowKit

noncomputable def treeOk (xs ys : List Int) : Bool := good xs ys
noncomputable def stpR (xs ys ps : List Int) : Bool := treeOk xs ys && isStp xs ps
theorem stpR_no {xs ys ps : List Int} (h : treeOk xs ys = false) : stpR xs ys ps = false := by unfold stpR; rw [h]; rfl
theorem stpR_yes {xs ys ps : List Int} (h : treeOk xs ys = true) : stpR xs ys ps = isStp xs ps := by unfold stpR; rw [h]; rfl
set_option maxHeartbeats 1000000 in
set_option maxRecDepth 100000 in
theorem specIsStopping_any (A B : Option Addr) (c e : Nat) (xs ys : List Int) (P : Option Addr) (cp : Nat) (ps : List Int) (w : World) (h : IntS w A xs) (k : IntS w B ys) (zp : IntS w P ps) (_hx : Bd xs) (_hy : Bd ys) (_bp : Bd ps) (hn : xs.length ≤ 1048576) (hm : ys.length ≤ 1048576) (lp : ps.length ≤ 1048576) :
    Calls Try.prog 30 #[.agg #[.slice A xs.length c, .slice B ys.length e], .slice P ps.length cp] w (fun e1 w' => e1 = .returned (.tuple #[.bool (stpR xs ys ps), .bool (treeOk xs ys)]) ∧ Below w.heap.size w w') := by
  obtain ⟨r1, q1⟩ : ∃ r, (good xs ys) = r := ⟨_, rfl⟩
  cases r1
  case false =>
    have hO : treeOk xs ys = false := by unfold treeOk ; simp [q1]
    have hV_stpR := stpR_no (ps := ps) hO
    rw [hV_stpR]
    (try rw [hO])
    clear hO hV_stpR
    have HG1 := Lib.hid (fun W (h : IntS W A xs) (k : IntS W B ys) => l2Good_any A B c e xs ys W h k _hx _hy hn hm)
    rw [q1] at HG1
    clear q1 _hx _hy _bp
    go_enter Try.func30, Try.ntmps30
    go_wp2_with fail
    refine (HG1.out _ (h.alloc _) (k.alloc _)).mono ?_
    rintro e1 w1 ⟨rfl, hb⟩
    have hx0 : w1.cell? ⟨w.heap.size, 0, none⟩ = some (.slice A xs.length c) := keep_cell hb (by simp)
    have hx1 : w1.cell? ⟨w.heap.size, 1, none⟩ = some (.slice B ys.length e) := keep_cell hb (by simp)
    have hw : Below w.heap.size w w1 := below_alloc (hb)
    clear hb
    go_wp2
    go_ret2
    exact ⟨rfl, hw⟩
  case true =>
    have hO : treeOk xs ys = true := by unfold treeOk ; simp [q1]
    have hV_stpR := stpR_yes (ps := ps) hO
    rw [hV_stpR]
    (try rw [hO])
    clear hO hV_stpR
    have HG1 := Lib.hid (fun W (h : IntS W A xs) (k : IntS W B ys) => l2Good_any A B c e xs ys W h k _hx _hy hn hm)
    rw [q1] at HG1
    have HS := Lib.hid (fun W (h : IntS W A xs) (zp : IntS W P ps) => l3Stop_good q1 A B P c e cp ps W h zp lp)
    generalize isStp xs ps = r at *
    clear q1 _hx _hy _bp
    go_enter Try.func30, Try.ntmps30
    go_wp2_with fail
    refine (HG1.out _ (h.alloc _) (k.alloc _)).mono ?_
    rintro e1 w1 ⟨rfl, hb⟩
    have hx0 : w1.cell? ⟨w.heap.size, 0, none⟩ = some (.slice A xs.length c) := keep_cell hb (by simp)
    have hx1 : w1.cell? ⟨w.heap.size, 1, none⟩ = some (.slice B ys.length e) := keep_cell hb (by simp)
    have hw : Below w.heap.size w w1 := below_alloc (hb)
    clear hb
    go_wp2_with fail
    refine (HS.out _ (h.below hw) (zp.below hw)).mono ?_
    rintro e1 w9 ⟨rfl, hb⟩
    go_wp2
    go_ret2
    exact ⟨rfl, keep_below hb hw⟩
set_option maxHeartbeats 1000000 in
set_option maxRecDepth 100000 in
theorem implIsStopping_any (A B : Option Addr) (c e : Nat) (xs ys : List Int) (P : Option Addr) (cp : Nat) (ps : List Int) (w : World) (h : IntS w A xs) (k : IntS w B ys) (zp : IntS w P ps) (_hx : Bd xs) (_hy : Bd ys) (_bp : Bd ps) (hn : xs.length ≤ 1048576) (hm : ys.length ≤ 1048576) (lp : ps.length ≤ 1048576) :
    Calls Try.prog 31 #[.agg #[.slice A xs.length c, .slice B ys.length e], .slice P ps.length cp] w (fun e1 w' => e1 = .returned (.tuple #[.bool (stpR xs ys ps), .bool (treeOk xs ys)]) ∧ Below w.heap.size w w') := by
  obtain ⟨r1, q1⟩ : ∃ r, (good xs ys) = r := ⟨_, rfl⟩
  cases r1
  case false =>
    have hO : treeOk xs ys = false := by unfold treeOk ; simp [q1]
    have hV_stpR := stpR_no (ps := ps) hO
    rw [hV_stpR]
    (try rw [hO])
    clear hO hV_stpR
    have HG1 := Lib.hid (fun W (h : IntS W A xs) (k : IntS W B ys) => isTree_any A B c e xs ys W h k _hx _hy hn hm)
    rw [q1] at HG1
    clear q1 _hx _hy _bp
    go_enter Try.func31, Try.ntmps31
    go_wp2_with fail
    refine (HG1.out _ (h.alloc _) (k.alloc _)).mono ?_
    rintro e1 w1 ⟨rfl, hb⟩
    have hx0 : w1.cell? ⟨w.heap.size, 0, none⟩ = some (.slice A xs.length c) := keep_cell hb (by simp)
    have hx1 : w1.cell? ⟨w.heap.size, 1, none⟩ = some (.slice B ys.length e) := keep_cell hb (by simp)
    have hw : Below w.heap.size w w1 := below_alloc (hb)
    clear hb
    go_wp2
    go_ret2
    exact ⟨rfl, hw⟩
  case true =>
    have hO : treeOk xs ys = true := by unfold treeOk ; simp [q1]
    have hV_stpR := stpR_yes (ps := ps) hO
    rw [hV_stpR]
    (try rw [hO])
    clear hO hV_stpR
    have HG1 := Lib.hid (fun W (h : IntS W A xs) (k : IntS W B ys) => isTree_any A B c e xs ys W h k _hx _hy hn hm)
    rw [q1] at HG1
    have HS := Lib.hid (fun W (h : IntS W A xs) (zp : IntS W P ps) => isStopping_good q1 A B P c ys.length e cp ps W h zp lp)
    generalize isStp xs ps = r at *
    clear q1 _hx _hy _bp
    go_enter Try.func31, Try.ntmps31
    go_wp2_with fail
    refine (HG1.out _ (h.alloc _) (k.alloc _)).mono ?_
    rintro e1 w1 ⟨rfl, hb⟩
    have hx0 : w1.cell? ⟨w.heap.size, 0, none⟩ = some (.slice A xs.length c) := keep_cell hb (by simp)
    have hx1 : w1.cell? ⟨w.heap.size, 1, none⟩ = some (.slice B ys.length e) := keep_cell hb (by simp)
    have hw : Below w.heap.size w w1 := below_alloc (hb)
    clear hb
    go_wp2_with fail
    refine (HS.out _ (h.below hw) (zp.below hw)).mono ?_
    rintro e1 w9 ⟨rfl, hb⟩
    go_wp2
    go_ret2
    exact ⟨rfl, keep_below hb hw⟩
end Go.Proofs.Ytdjfjlmbaehppaa
