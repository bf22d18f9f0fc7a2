/- Contracts: DriftsOf. -/
import Derived.Test.YtkbjocndkopjiaaFair
import Derived.Test.YtkbjocndkopjiaaPairLaw
namespace Go.Proofs.Ytkbjocndkopjiaa
open Go.ChangeShapes Go.WideShapes Go.ChangeAt Go.RowKit

/-- A call that hands back a new list of pairs, and whether it is one. -/
def RetPB (w : World) (L : List (Int × Int)) (r : Bool) (e : Ending) (w' : World) : Prop := ∃ A c, e = .returned (.tuple #[.slice A L.length c, .bool r]) ∧ OwnS2 w' w.heap.size A L ∧ Below w.heap.size w w'
noncomputable def drfR (xs ys ps : List Int) : List (Int × Int) := if procOk xs ys ps then dftK xs ys ps xs.length else []
theorem drfR_no {xs ys ps : List Int} (h : procOk xs ys ps = false) : drfR xs ys ps = [] := by unfold drfR; rw [h]; rfl
theorem drfR_yes {xs ys ps : List Int} (h : procOk xs ys ps = true) : drfR xs ys ps = dftK xs ys ps xs.length := by unfold drfR; rw [h]; rfl
theorem drfR_len (xs ys ps : List Int) (hn : xs.length ≤ 1048576) : (drfR xs ys ps).length ≤ 2000000 := by
  unfold drfR; split
  · have := dftK_len xs ys ps xs.length; omega
  · simp
set_option maxHeartbeats 1000000 in
set_option maxRecDepth 100000 in
theorem specDriftsOf_any (A B : Option Addr) (c e : Nat) (xs ys : List Int) (P : Option Addr) (cp : Nat) (ps : List Int) (w : World) (h : IntS w A xs) (k : IntS w B ys) (zp : IntS w P ps) (_hx : Bd xs) (_hy : Bd ys) (_bp : Bd ps) (hn : xs.length ≤ 1048576) (hm : ys.length ≤ 1048576) (lp : ps.length ≤ 1048576) :
    Calls Try.prog 22 #[.agg #[.slice A xs.length c, .slice B ys.length e], .slice P ps.length cp] w (RetPB w (drfR xs ys ps) (procOk xs ys ps)) := by
  obtain ⟨r1, q1⟩ : ∃ r, (good xs ys && isProc xs.length ps) = r := ⟨_, rfl⟩
  cases r1
  case false =>
    have hO : procOk xs ys ps = false := by unfold procOk ; simp [q1]
    have hV_drfR := drfR_no hO
    rw [hV_drfR]
    (try rw [hO])
    clear hO hV_drfR
    have HG1 := Lib.hid (fun W (h : IntS W A xs) (k : IntS W B ys) (zp : IntS W P ps) => l3Good_any A B P c e cp xs ys ps W h k zp _hx _hy hn hm lp)
    rw [q1] at HG1
    clear q1 _hx _hy _bp
    go_enter Try.func22, Try.ntmps22
    go_wp2_with fail
    refine (HG1.out _ (h.alloc _) (k.alloc _) (zp.alloc _)).mono ?_
    rintro e1 w1 ⟨rfl, hb⟩
    have hx0 : w1.cell? ⟨w.heap.size, 0, none⟩ = some (.slice A xs.length c) := keep_cell hb (by simp)
    have hx1 : w1.cell? ⟨w.heap.size, 1, none⟩ = some (.slice B ys.length e) := keep_cell hb (by simp)
    have hw : Below w.heap.size w w1 := below_alloc (hb)
    clear hb
    go_wp2
    go_ret2
    exact ⟨_, _, rfl, .inr ⟨_, rfl, hw.size, ⟨#[], heap_alloc_new _ _, [], rfl⟩⟩, keep_below_alloc hw _⟩
  case true =>
    have hO : procOk xs ys ps = true := by unfold procOk ; simp [q1]
    have hV_drfR := drfR_yes hO
    rw [hV_drfR]
    (try rw [hO])
    clear hO hV_drfR
    have HG1 := Lib.hid (fun W (h : IntS W A xs) (k : IntS W B ys) (zp : IntS W P ps) => l3Good_any A B P c e cp xs ys ps W h k zp _hx _hy hn hm lp)
    rw [q1] at HG1
    have hpp := isProc_iff (Bool.and_eq_true_iff.1 q1).2
    have HD := Lib.hid (fun W (h : IntS W A xs) (k : IntS W B ys) (zp : IntS W P ps) => l3Drifts_good (Bool.and_eq_true_iff.1 q1).1 A B P c e cp ps W h k zp hpp.1 hpp.2)
    clear hpp
    generalize dftK xs ys ps xs.length = L at *
    clear q1 _hx _hy _bp
    go_enter Try.func22, Try.ntmps22
    go_wp2_with fail
    refine (HG1.out _ (h.alloc _) (k.alloc _) (zp.alloc _)).mono ?_
    rintro e1 w1 ⟨rfl, hb⟩
    have hx0 : w1.cell? ⟨w.heap.size, 0, none⟩ = some (.slice A xs.length c) := keep_cell hb (by simp)
    have hx1 : w1.cell? ⟨w.heap.size, 1, none⟩ = some (.slice B ys.length e) := keep_cell hb (by simp)
    have hw : Below w.heap.size w w1 := below_alloc (hb)
    clear hb
    go_wp2_with fail
    refine (HD.out _ (h.below hw) (k.below hw) (zp.below hw)).mono ?_
    rintro e1 w9 ⟨A1, c1, rfl, ho, hb1⟩
    go_wp2
    go_ret2
    exact ⟨A1, c1, rfl, ho.mono hw.size, keep_below hb1 hw⟩
set_option maxHeartbeats 1000000 in
set_option maxRecDepth 100000 in
theorem implDriftsOf_any (A B : Option Addr) (c e : Nat) (xs ys : List Int) (P : Option Addr) (cp : Nat) (ps : List Int) (w : World) (h : IntS w A xs) (k : IntS w B ys) (zp : IntS w P ps) (_hx : Bd xs) (_hy : Bd ys) (_bp : Bd ps) (hn : xs.length ≤ 1048576) (hm : ys.length ≤ 1048576) (lp : ps.length ≤ 1048576) :
    Calls Try.prog 23 #[.agg #[.slice A xs.length c, .slice B ys.length e], .slice P ps.length cp] w (RetPB w (drfR xs ys ps) (procOk xs ys ps)) := by
  obtain ⟨r1, q1⟩ : ∃ r, (good xs ys) = r := ⟨_, rfl⟩
  cases r1
  case false =>
    have hO : procOk xs ys ps = false := by unfold procOk ; simp [q1]
    have hV_drfR := drfR_no hO
    rw [hV_drfR]
    (try rw [hO])
    clear hO hV_drfR
    have HG1 := Lib.hid (fun W (h : IntS W A xs) (k : IntS W B ys) => isTree_any A B c e xs ys W h k _hx _hy hn hm)
    rw [q1] at HG1
    clear q1 _hx _hy _bp
    go_enter Try.func23, Try.ntmps23
    go_wp2_with fail
    refine (HG1.out _ (h.alloc _) (k.alloc _)).mono ?_
    rintro e1 w1 ⟨rfl, hb⟩
    have hx0 : w1.cell? ⟨w.heap.size, 0, none⟩ = some (.slice A xs.length c) := keep_cell hb (by simp)
    have hx1 : w1.cell? ⟨w.heap.size, 1, none⟩ = some (.slice B ys.length e) := keep_cell hb (by simp)
    have hw : Below w.heap.size w w1 := below_alloc (hb)
    clear hb
    go_wp2
    go_ret2
    exact ⟨none, 0, rfl, .inl ⟨rfl, rfl⟩, hw⟩
  case true =>
    obtain ⟨r2, q2⟩ : ∃ r, (isProc xs.length ps) = r := ⟨_, rfl⟩
    cases r2
    case false =>
      have hO : procOk xs ys ps = false := by unfold procOk ; simp [q1, q2]
      have hV_drfR := drfR_no hO
      rw [hV_drfR]
      (try rw [hO])
      clear hO hV_drfR
      have HG1 := Lib.hid (fun W (h : IntS W A xs) (k : IntS W B ys) => isTree_any A B c e xs ys W h k _hx _hy hn hm)
      rw [q1] at HG1
      have HG2 := Lib.hid (fun W (zp : IntS W P ps) => isProcess_any A B P c ys.length e cp xs.length ps W zp lp hn)
      rw [q2] at HG2
      clear q1 q2 _hx _hy _bp
      go_enter Try.func23, Try.ntmps23
      go_wp2_with fail
      refine (HG1.out _ (h.alloc _) (k.alloc _)).mono ?_
      rintro e1 w1 ⟨rfl, hb⟩
      have hx0 : w1.cell? ⟨w.heap.size, 0, none⟩ = some (.slice A xs.length c) := keep_cell hb (by simp)
      have hx1 : w1.cell? ⟨w.heap.size, 1, none⟩ = some (.slice B ys.length e) := keep_cell hb (by simp)
      have hw : Below w.heap.size w w1 := below_alloc (hb)
      clear hb
      go_wp2_with fail
      refine (HG2.out _ (zp.below hw)).mono ?_
      rintro e1 w2 ⟨rfl, hb⟩
      replace hx0 := keep_cell hb hx0
      replace hx1 := keep_cell hb hx1
      replace hw := keep_below hb hw
      clear hb
      go_wp2
      go_ret2
      exact ⟨none, 0, rfl, .inl ⟨rfl, rfl⟩, hw⟩
    case true =>
      have hO : procOk xs ys ps = true := by unfold procOk ; simp [q1, q2]
      have hV_drfR := drfR_yes hO
      rw [hV_drfR]
      (try rw [hO])
      clear hO hV_drfR
      have HG1 := Lib.hid (fun W (h : IntS W A xs) (k : IntS W B ys) => isTree_any A B c e xs ys W h k _hx _hy hn hm)
      rw [q1] at HG1
      have HG2 := Lib.hid (fun W (zp : IntS W P ps) => isProcess_any A B P c ys.length e cp xs.length ps W zp lp hn)
      rw [q2] at HG2
      have hpp := isProc_iff q2
      have HD := Lib.hid (fun W (h : IntS W A xs) (k : IntS W B ys) (zp : IntS W P ps) => drifts_good q1 A B P c e cp ps W h k zp hpp.1 hpp.2)
      clear hpp
      generalize dftK xs ys ps xs.length = L at *
      clear q1 q2 _hx _hy _bp
      go_enter Try.func23, Try.ntmps23
      go_wp2_with fail
      refine (HG1.out _ (h.alloc _) (k.alloc _)).mono ?_
      rintro e1 w1 ⟨rfl, hb⟩
      have hx0 : w1.cell? ⟨w.heap.size, 0, none⟩ = some (.slice A xs.length c) := keep_cell hb (by simp)
      have hx1 : w1.cell? ⟨w.heap.size, 1, none⟩ = some (.slice B ys.length e) := keep_cell hb (by simp)
      have hw : Below w.heap.size w w1 := below_alloc (hb)
      clear hb
      go_wp2_with fail
      refine (HG2.out _ (zp.below hw)).mono ?_
      rintro e1 w2 ⟨rfl, hb⟩
      replace hx0 := keep_cell hb hx0
      replace hx1 := keep_cell hb hx1
      replace hw := keep_below hb hw
      clear hb
      go_wp2_with fail
      refine (HD.out _ (h.below hw) (k.below hw) (zp.below hw)).mono ?_
      rintro e1 w9 ⟨A1, c1, rfl, ho, hb1⟩
      go_wp2
      go_ret2
      exact ⟨A1, c1, rfl, ho.mono hw.size, keep_below hb1 hw⟩
end Go.Proofs.Ytkbjocndkopjiaa
