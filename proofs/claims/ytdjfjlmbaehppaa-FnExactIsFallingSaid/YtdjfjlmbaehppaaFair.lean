/- Contracts: no drift, and no drift upward. -/
import Derived.Test.YtdjfjlmbaehppaaDrift
import Derived.Test.YtdjfjlmbaehppaaHigh
namespace Go.Proofs.Ytdjfjlmbaehppaa
open Go.ChangeShapes Go.WideShapes Go.ChangeAt Go.RowKit

/-- A drift that is against the rule. -/
def badB (f : Bool) (a : Int) : Bool := decide (0 < a) || (f && decide (a < 0))
def stB (f : Bool) (L : List (Int × Int)) : Bool := L.all fun q => !badB f q.1
theorem nthp_mem {L : List (Int × Int)} {j : Nat} (h : j < L.length) : nthp L j ∈ L := by
  unfold nthp; rw [List.getD_eq_getElem?_getD, List.getElem?_eq_getElem h]; exact List.getElem_mem h
theorem stB_no {f : Bool} {L : List (Int × Int)} {j : Nat} (h : j < L.length) (hb : badB f (nthp L j).1 = true) : stB f L = false := by
  unfold stB; rw [List.all_eq_false]; exact ⟨_, nthp_mem h, by simp [hb]⟩
theorem stB_yes {f : Bool} {L : List (Int × Int)} (h : ∀ j, j < L.length → badB f (nthp L j).1 = false) : stB f L = true := by
  unfold stB; rw [List.all_eq_true]; intro q hq
  obtain ⟨j, hj, e⟩ := List.getElem_of_mem hq
  have := h j hj
  have e2 : nthp L j = q := by unfold nthp; rw [List.getD_eq_getElem?_getD, List.getElem?_eq_getElem hj]; exact e
  rw [e2] at this; simp [this]
theorem bad_pos {f : Bool} {a : Int} (h : 0 < a) : badB f a = true := by simp [badB, h]
theorem bad_neg {a : Int} (h : a < 0) : badB true a = true := by simp [badB, h]
theorem bad_up {a : Int} (h : a ≤ 0) : badB false a = false := by simp [badB]; omega
theorem bad_zero {f : Bool} {a : Int} (h : a = 0) : badB f a = false := by simp [badB, h]
noncomputable def fairR (f : Bool) (xs ys ps : List Int) : Bool := procOk xs ys ps && stB f (dftK xs ys ps xs.length)
theorem fairR_no {f : Bool} {xs ys ps : List Int} (h : procOk xs ys ps = false) : fairR f xs ys ps = false := by unfold fairR; rw [h]; rfl
theorem fairR_yes {f : Bool} {xs ys ps : List Int} (h : procOk xs ys ps = true) : fairR f xs ys ps = stB f (dftK xs ys ps xs.length) := by unfold fairR; rw [h]; rfl
set_option maxHeartbeats 2000000 in
set_option maxRecDepth 100000 in
theorem l3Steady_good {xs ys : List Int} (q1 : good xs ys = true) (A B P : Option Addr) (c e cp : Nat) (ps : List Int) (f : Bool) (w : World) (h : IntS w A xs) (k : IntS w B ys) (zp : IntS w P ps) (q2 : isProc xs.length ps = true) :
    Calls Try.prog 71 #[.agg #[.slice A xs.length c, .slice B ys.length e], .slice P ps.length cp, .bool f] w fun e1 w' => e1 = .returned (.bool (stB f (dftK xs ys ps xs.length))) ∧ Below w.heap.size w w' := by
  have hpp := isProc_iff q2
  have hgl := good_len q1
  have HD := Lib.hid (fun W (h : IntS W A xs) (k : IntS W B ys) (zp : IntS W P ps) => l3Drifts_good q1 A B P c e cp ps W h k zp hpp.1 hpp.2)
  have hLl := dftK_len xs ys ps xs.length
  have hL1 : 1 ≤ (dftK xs ys ps xs.length).length := by rw [hLl]; exact hgl.1
  have hL2 : (dftK xs ys ps xs.length).length ≤ 24 := by rw [hLl]; exact hgl.2.1
  clear hpp hgl hLl
  generalize dftK xs ys ps xs.length = L at *
  generalize hg : stB f L = r
  have HG := Lib.hid hg
  clear hg q1 q2
  go_enter Try.func71, Try.ntmps71
  go_wp2_with fail
  refine (HD.out _ (h.alloc _) (k.alloc _) (zp.alloc _)).mono ?_
  rintro e1 w1 ⟨A1, c1, rfl, ho, hb1⟩
  obtain ⟨g, rfl, _, hr⟩ := ho.pos hL1
  have hw : Below w.heap.size w w1 := below_alloc hb1
  clear ho hb1
  go_wp2
  go_loopw [8] (fun i wr => ∃ k : Nat, k ≤ L.length ∧ i = .int .i64 k ∧ Hid (∀ j, j < k → badB f (nthp L j).1 = false) ∧ Row2 wr g L ∧ Below w.heap.size w wr) (fun i _ => L.length - (intOf i).toNat)
  case atStart => exact ⟨0, by omega, rfl, fun j hj => by omega, hr, hw⟩
  case round =>
    clear hr hw
    obtain ⟨j, hj, rfl, HA, hr, hw⟩ := hrel
    by_cases hlt : j < L.length
    · have hc0 := hr.cell0 hlt
      have i1 : (j : Int) < L.length := by omega
      have HZ : badB f (nthp L j).1 = false → Hid (∀ i, i < j + 1 → badB f (nthp L i).1 = false) := fun hz i hi => by
        by_cases e : i = j
        · subst e; exact hz
        · exact HA.out i (by omega)
      have HN := Lib.hid (fun (hz : badB f (nthp L j).1 = true) => stB_no hlt hz)
      generalize (nthp L j).1 = a at *
      by_cases h1 : 0 < a
      · have hr' : r = false := by rw [← HG.out]; exact HN.out (bad_pos h1)
        subst hr'
        clear HZ HN
        have d1 : decide (0 < a) = true := decide_eq_true h1
        go_wp2
        go_ret
        exact ⟨rfl, hw⟩
      · cases f with
        | false =>
          have HA' := HZ (bad_up (by omega))
          clear HZ HN
          have d1 : decide (0 < a) = false := decide_eq_false h1
          go_wp2
          go_roundw
          case rel => exact ⟨j + 1, by omega, by go_num, HA', hr, hw⟩
          case measure => simp [intOf]; omega
        | true =>
          by_cases h2 : a < 0
          · have hr' : r = false := by rw [← HG.out]; exact HN.out (bad_neg h2)
            subst hr'
            clear HZ HN
            have d1 : decide (0 < a) = false := decide_eq_false h1
            have d2 : decide (a < 0) = true := decide_eq_true h2
            go_wp2
            go_ret
            exact ⟨rfl, hw⟩
          · have HA' := HZ (bad_zero (by omega))
            clear HZ HN
            have d1 : decide (0 < a) = false := decide_eq_false h1
            have d2 : decide (a < 0) = false := decide_eq_false h2
            go_wp2
            go_roundw
            case rel => exact ⟨j + 1, by omega, by go_num, HA', hr, hw⟩
            case measure => simp [intOf]; omega
    · have hr' : r = true := by rw [← HG.out]; exact stB_yes fun j hj => HA.out j (by omega)
      subst hr'
      go_wp2
      go_ret
      exact ⟨rfl, hw⟩
set_option maxHeartbeats 1000000 in
set_option maxRecDepth 100000 in
theorem specIsFairProcess_any (A B : Option Addr) (c e : Nat) (xs ys : List Int) (P : Option Addr) (cp : Nat) (ps : List Int) (w : World) (h : IntS w A xs) (k : IntS w B ys) (zp : IntS w P ps) (_hx : Bd xs) (_hy : Bd ys) (_bp : Bd ps) (hn : xs.length ≤ 1048576) (hm : ys.length ≤ 1048576) (lp : ps.length ≤ 1048576) :
    Calls Try.prog 34 #[.agg #[.slice A xs.length c, .slice B ys.length e], .slice P ps.length cp] w (fun e1 w' => e1 = .returned (.tuple #[.bool (fairR true xs ys ps), .bool (procOk xs ys ps)]) ∧ Below w.heap.size w w') := by
  obtain ⟨r1, q1⟩ : ∃ r, (good xs ys && isProc xs.length ps) = r := ⟨_, rfl⟩
  cases r1
  case false =>
    have hO : procOk xs ys ps = false := by unfold procOk ; simp [q1]
    have hV_fairR := fairR_no (f := true) hO
    rw [hV_fairR]
    (try rw [hO])
    clear hO hV_fairR
    have HG1 := Lib.hid (fun W (h : IntS W A xs) (k : IntS W B ys) (zp : IntS W P ps) => l3Good_any A B P c e cp xs ys ps W h k zp _hx _hy hn hm lp)
    rw [q1] at HG1
    clear q1 _hx _hy _bp
    go_enter Try.func34, Try.ntmps34
    go_wp2_with fail
    refine (HG1.out _ (h.alloc _) (k.alloc _) (zp.alloc _)).mono ?_
    rintro e1 w1 ⟨rfl, hb⟩
    have hx0 : w1.cell? ⟨w.heap.size, 0, none⟩ = some (.slice A xs.length c) := keep_cell hb (by simp)
    have hx1 : w1.cell? ⟨w.heap.size, 1, none⟩ = some (.slice B ys.length e) := keep_cell hb (by simp)
    have hw : Below w.heap.size w w1 := below_alloc (hb)
    clear hb
    go_wp2
    go_ret2
    exact ⟨rfl, hw⟩
  case true =>
    have hO : procOk xs ys ps = true := by unfold procOk ; simp [q1]
    have hV_fairR := fairR_yes (f := true) hO
    rw [hV_fairR]
    (try rw [hO])
    clear hO hV_fairR
    have HG1 := Lib.hid (fun W (h : IntS W A xs) (k : IntS W B ys) (zp : IntS W P ps) => l3Good_any A B P c e cp xs ys ps W h k zp _hx _hy hn hm lp)
    rw [q1] at HG1
    have HS := Lib.hid (fun W (h : IntS W A xs) (k : IntS W B ys) (zp : IntS W P ps) => l3Steady_good (Bool.and_eq_true_iff.1 q1).1 A B P c e cp ps true W h k zp (Bool.and_eq_true_iff.1 q1).2)
    generalize stB true (dftK xs ys ps xs.length) = r at *
    clear q1 _hx _hy _bp
    go_enter Try.func34, Try.ntmps34
    go_wp2_with fail
    refine (HG1.out _ (h.alloc _) (k.alloc _) (zp.alloc _)).mono ?_
    rintro e1 w1 ⟨rfl, hb⟩
    have hx0 : w1.cell? ⟨w.heap.size, 0, none⟩ = some (.slice A xs.length c) := keep_cell hb (by simp)
    have hx1 : w1.cell? ⟨w.heap.size, 1, none⟩ = some (.slice B ys.length e) := keep_cell hb (by simp)
    have hw : Below w.heap.size w w1 := below_alloc (hb)
    clear hb
    go_wp2_with fail
    refine (HS.out _ (h.below hw) (k.below hw) (zp.below hw)).mono ?_
    rintro e1 w9 ⟨rfl, hb⟩
    go_wp2
    go_ret2
    exact ⟨rfl, keep_below hb hw⟩
theorem bad_ne {a : Int} (h : a ≠ 0) : badB true a = true := by simp [badB]; omega
set_option maxHeartbeats 1000000 in
set_option maxRecDepth 100000 in
theorem implIsFairProcess_any (A B : Option Addr) (c e : Nat) (xs ys : List Int) (P : Option Addr) (cp : Nat) (ps : List Int) (w : World) (h : IntS w A xs) (k : IntS w B ys) (zp : IntS w P ps) (_hx : Bd xs) (_hy : Bd ys) (_bp : Bd ps) (hn : xs.length ≤ 1048576) (hm : ys.length ≤ 1048576) (lp : ps.length ≤ 1048576) :
    Calls Try.prog 35 #[.agg #[.slice A xs.length c, .slice B ys.length e], .slice P ps.length cp] w (fun e1 w' => e1 = .returned (.tuple #[.bool (fairR true xs ys ps), .bool (procOk xs ys ps)]) ∧ Below w.heap.size w w') := by
  obtain ⟨r1, q1⟩ : ∃ r, (good xs ys) = r := ⟨_, rfl⟩
  cases r1
  case false =>
    have hO : procOk xs ys ps = false := by unfold procOk ; simp [q1]
    have hV_fairR := fairR_no (f := true) hO
    rw [hV_fairR]
    (try rw [hO])
    clear hO hV_fairR
    have HG1 := Lib.hid (fun W (h : IntS W A xs) (k : IntS W B ys) => isTree_any A B c e xs ys W h k _hx _hy hn hm)
    rw [q1] at HG1
    clear q1 _hx _hy _bp
    go_enter Try.func35, Try.ntmps35
    go_wp2_with fail
    refine (HG1.out _ (h.alloc _) (k.alloc _)).mono ?_
    rintro e1 w1 ⟨rfl, hb⟩
    have hx0 : w1.cell? ⟨w.heap.size, 0, none⟩ = some (.slice A xs.length c) := keep_cell hb (by simp)
    have hx1 : w1.cell? ⟨w.heap.size, 1, none⟩ = some (.slice B ys.length e) := keep_cell hb (by simp)
    have hw : Below w.heap.size w w1 := below_alloc (hb)
    clear hb
    go_wp2
    go_ret2
    exact ⟨rfl, hw⟩
  case true =>
    obtain ⟨r2, q2⟩ : ∃ r, (isProc xs.length ps) = r := ⟨_, rfl⟩
    cases r2
    case false =>
      have hO : procOk xs ys ps = false := by unfold procOk ; simp [q1, q2]
      have hV_fairR := fairR_no (f := true) hO
      rw [hV_fairR]
      (try rw [hO])
      clear hO hV_fairR
      have HG1 := Lib.hid (fun W (h : IntS W A xs) (k : IntS W B ys) => isTree_any A B c e xs ys W h k _hx _hy hn hm)
      rw [q1] at HG1
      have HG2 := Lib.hid (fun W (zp : IntS W P ps) => isProcess_any A B P c ys.length e cp xs.length ps W zp lp hn)
      rw [q2] at HG2
      clear q1 q2 _hx _hy _bp
      go_enter Try.func35, Try.ntmps35
      go_wp2_with fail
      refine (HG1.out _ (h.alloc _) (k.alloc _)).mono ?_
      rintro e1 w1 ⟨rfl, hb⟩
      have hx0 : w1.cell? ⟨w.heap.size, 0, none⟩ = some (.slice A xs.length c) := keep_cell hb (by simp)
      have hx1 : w1.cell? ⟨w.heap.size, 1, none⟩ = some (.slice B ys.length e) := keep_cell hb (by simp)
      have hw : Below w.heap.size w w1 := below_alloc (hb)
      clear hb
      go_wp2_with fail
      refine (HG2.out _ (zp.below hw)).mono ?_
      rintro e1 w2 ⟨rfl, hb⟩
      replace hx0 := keep_cell hb hx0
      replace hx1 := keep_cell hb hx1
      replace hw := keep_below hb hw
      clear hb
      go_wp2
      go_ret2
      exact ⟨rfl, hw⟩
    case true =>
      have hO : procOk xs ys ps = true := by unfold procOk ; simp [q1, q2]
      have hV_fairR := fairR_yes (f := true) hO
      rw [hV_fairR]
      (try rw [hO])
      clear hO hV_fairR
      have HG1 := Lib.hid (fun W (h : IntS W A xs) (k : IntS W B ys) => isTree_any A B c e xs ys W h k _hx _hy hn hm)
      rw [q1] at HG1
      have HG2 := Lib.hid (fun W (zp : IntS W P ps) => isProcess_any A B P c ys.length e cp xs.length ps W zp lp hn)
      rw [q2] at HG2
      have hpp := isProc_iff q2
      have hgl := good_len q1
      have HD := Lib.hid (fun W (h : IntS W A xs) (k : IntS W B ys) (zp : IntS W P ps) => drifts_good q1 A B P c e cp ps W h k zp hpp.1 hpp.2)
      have hLl := dftK_len xs ys ps xs.length
      have hL1 : 1 ≤ (dftK xs ys ps xs.length).length := by rw [hLl]; exact hgl.1
      have hL2 : (dftK xs ys ps xs.length).length ≤ 24 := by rw [hLl]; exact hgl.2.1
      clear hpp hgl hLl
      generalize dftK xs ys ps xs.length = L at *
      generalize hg : stB true L = r at *
      have HG := Lib.hid hg
      clear hg
      clear q1 q2 _hx _hy _bp
      go_enter Try.func35, Try.ntmps35
      go_wp2_with fail
      refine (HG1.out _ (h.alloc _) (k.alloc _)).mono ?_
      rintro e1 w1 ⟨rfl, hb⟩
      have hx0 : w1.cell? ⟨w.heap.size, 0, none⟩ = some (.slice A xs.length c) := keep_cell hb (by simp)
      have hx1 : w1.cell? ⟨w.heap.size, 1, none⟩ = some (.slice B ys.length e) := keep_cell hb (by simp)
      have hw : Below w.heap.size w w1 := below_alloc (hb)
      clear hb
      go_wp2_with fail
      refine (HG2.out _ (zp.below hw)).mono ?_
      rintro e1 w2 ⟨rfl, hb⟩
      replace hx0 := keep_cell hb hx0
      replace hx1 := keep_cell hb hx1
      replace hw := keep_below hb hw
      clear hb
      clear HG1 HG2
      go_wp2_with fail
      refine (HD.out _ (h.below hw) (k.below hw) (zp.below hw)).mono ?_
      rintro e1 w9 ⟨A1, c1, rfl, ho, hb1⟩
      obtain ⟨g, rfl, _, hr⟩ := ho.pos hL1
      replace hw := keep_below hb1 hw
      clear ho hb1 hx0 hx1
      go_wp2
      go_loopw [21] (fun i wr => ∃ k : Nat, k ≤ L.length ∧ i = .int .i64 k ∧ Hid (∀ j, j < k → badB true (nthp L j).1 = false) ∧ Row2 wr g L ∧ Below w.heap.size w wr) (fun i _ => L.length - (intOf i).toNat)
      case atStart => exact ⟨0, by omega, rfl, fun j hj => by omega, hr, hw⟩
      case round =>
        clear hr hw
        obtain ⟨j, hj, rfl, HA, hr, hw⟩ := hrel
        by_cases hlt : j < L.length
        · have hc0 := hr.cell0 hlt
          have hc1 := hr.cell1 hlt
          have i1 : (j : Int) < L.length := by omega
          have HZ : badB true (nthp L j).1 = false → Hid (∀ i, i < j + 1 → badB true (nthp L i).1 = false) := fun hz i hi => by
            by_cases e : i = j
            · subst e; exact hz
            · exact HA.out i (by omega)
          have HN := Lib.hid (fun (hz : badB true (nthp L j).1 = true) => stB_no hlt hz)
          generalize (nthp L j).1 = a at *
          generalize (nthp L j).2 = b at *
          by_cases h1 : a ≠ 0
          · have hr' : r = false := by rw [← HG.out]; exact HN.out (bad_ne h1)
            subst hr'
            clear HZ HN
            have d1 : (a != 0) = true := bne_iff_ne.2 h1
            go_wp2
            go_ret2
            exact ⟨rfl, hw.alloc hw.size _⟩
          · have HA' := HZ (bad_zero (by omega))
            clear HZ HN
            have d1 : (a != 0) = false := bne_eq_false_iff_eq.2 (by omega)
            go_wp2
            go_roundw
            case rel => exact ⟨j + 1, by omega, by go_num, HA', hr.alloc _, hw.alloc hw.size _⟩
            case measure => simp [intOf]; omega
        · have hr' : r = true := by rw [← HG.out]; exact stB_yes fun j hj => HA.out j (by omega)
          subst hr'
          go_wp2
          go_ret2
          exact ⟨rfl, hw⟩
set_option maxHeartbeats 1000000 in
set_option maxRecDepth 100000 in
theorem specIsFalling_any (A B : Option Addr) (c e : Nat) (xs ys : List Int) (P : Option Addr) (cp : Nat) (ps : List Int) (w : World) (h : IntS w A xs) (k : IntS w B ys) (zp : IntS w P ps) (_hx : Bd xs) (_hy : Bd ys) (_bp : Bd ps) (hn : xs.length ≤ 1048576) (hm : ys.length ≤ 1048576) (lp : ps.length ≤ 1048576) :
    Calls Try.prog 36 #[.agg #[.slice A xs.length c, .slice B ys.length e], .slice P ps.length cp] w (fun e1 w' => e1 = .returned (.tuple #[.bool (fairR false xs ys ps), .bool (procOk xs ys ps)]) ∧ Below w.heap.size w w') := by
  obtain ⟨r1, q1⟩ : ∃ r, (good xs ys && isProc xs.length ps) = r := ⟨_, rfl⟩
  cases r1
  case false =>
    have hO : procOk xs ys ps = false := by unfold procOk ; simp [q1]
    have hV_fairR := fairR_no (f := false) hO
    rw [hV_fairR]
    (try rw [hO])
    clear hO hV_fairR
    have HG1 := Lib.hid (fun W (h : IntS W A xs) (k : IntS W B ys) (zp : IntS W P ps) => l3Good_any A B P c e cp xs ys ps W h k zp _hx _hy hn hm lp)
    rw [q1] at HG1
    clear q1 _hx _hy _bp
    go_enter Try.func36, Try.ntmps36
    go_wp2_with fail
    refine (HG1.out _ (h.alloc _) (k.alloc _) (zp.alloc _)).mono ?_
    rintro e1 w1 ⟨rfl, hb⟩
    have hx0 : w1.cell? ⟨w.heap.size, 0, none⟩ = some (.slice A xs.length c) := keep_cell hb (by simp)
    have hx1 : w1.cell? ⟨w.heap.size, 1, none⟩ = some (.slice B ys.length e) := keep_cell hb (by simp)
    have hw : Below w.heap.size w w1 := below_alloc (hb)
    clear hb
    go_wp2
    go_ret2
    exact ⟨rfl, hw⟩
  case true =>
    have hO : procOk xs ys ps = true := by unfold procOk ; simp [q1]
    have hV_fairR := fairR_yes (f := false) hO
    rw [hV_fairR]
    (try rw [hO])
    clear hO hV_fairR
    have HG1 := Lib.hid (fun W (h : IntS W A xs) (k : IntS W B ys) (zp : IntS W P ps) => l3Good_any A B P c e cp xs ys ps W h k zp _hx _hy hn hm lp)
    rw [q1] at HG1
    have HS := Lib.hid (fun W (h : IntS W A xs) (k : IntS W B ys) (zp : IntS W P ps) => l3Steady_good (Bool.and_eq_true_iff.1 q1).1 A B P c e cp ps false W h k zp (Bool.and_eq_true_iff.1 q1).2)
    generalize stB false (dftK xs ys ps xs.length) = r at *
    clear q1 _hx _hy _bp
    go_enter Try.func36, Try.ntmps36
    go_wp2_with fail
    refine (HG1.out _ (h.alloc _) (k.alloc _) (zp.alloc _)).mono ?_
    rintro e1 w1 ⟨rfl, hb⟩
    have hx0 : w1.cell? ⟨w.heap.size, 0, none⟩ = some (.slice A xs.length c) := keep_cell hb (by simp)
    have hx1 : w1.cell? ⟨w.heap.size, 1, none⟩ = some (.slice B ys.length e) := keep_cell hb (by simp)
    have hw : Below w.heap.size w w1 := below_alloc (hb)
    clear hb
    go_wp2_with fail
    refine (HS.out _ (h.below hw) (k.below hw) (zp.below hw)).mono ?_
    rintro e1 w9 ⟨rfl, hb⟩
    go_wp2
    go_ret2
    exact ⟨rfl, keep_below hb hw⟩
set_option maxHeartbeats 1000000 in
set_option maxRecDepth 100000 in
theorem implIsFalling_any (A B : Option Addr) (c e : Nat) (xs ys : List Int) (P : Option Addr) (cp : Nat) (ps : List Int) (w : World) (h : IntS w A xs) (k : IntS w B ys) (zp : IntS w P ps) (_hx : Bd xs) (_hy : Bd ys) (_bp : Bd ps) (hn : xs.length ≤ 1048576) (hm : ys.length ≤ 1048576) (lp : ps.length ≤ 1048576) :
    Calls Try.prog 37 #[.agg #[.slice A xs.length c, .slice B ys.length e], .slice P ps.length cp] w (fun e1 w' => e1 = .returned (.tuple #[.bool (fairR false xs ys ps), .bool (procOk xs ys ps)]) ∧ Below w.heap.size w w') := by
  obtain ⟨r1, q1⟩ : ∃ r, (good xs ys) = r := ⟨_, rfl⟩
  cases r1
  case false =>
    have hO : procOk xs ys ps = false := by unfold procOk ; simp [q1]
    have hV_fairR := fairR_no (f := false) hO
    rw [hV_fairR]
    (try rw [hO])
    clear hO hV_fairR
    have HG1 := Lib.hid (fun W (h : IntS W A xs) (k : IntS W B ys) => isTree_any A B c e xs ys W h k _hx _hy hn hm)
    rw [q1] at HG1
    clear q1 _hx _hy _bp
    go_enter Try.func37, Try.ntmps37
    go_wp2_with fail
    refine (HG1.out _ (h.alloc _) (k.alloc _)).mono ?_
    rintro e1 w1 ⟨rfl, hb⟩
    have hx0 : w1.cell? ⟨w.heap.size, 0, none⟩ = some (.slice A xs.length c) := keep_cell hb (by simp)
    have hx1 : w1.cell? ⟨w.heap.size, 1, none⟩ = some (.slice B ys.length e) := keep_cell hb (by simp)
    have hw : Below w.heap.size w w1 := below_alloc (hb)
    clear hb
    go_wp2
    go_ret2
    exact ⟨rfl, hw⟩
  case true =>
    obtain ⟨r2, q2⟩ : ∃ r, (isProc xs.length ps) = r := ⟨_, rfl⟩
    cases r2
    case false =>
      have hO : procOk xs ys ps = false := by unfold procOk ; simp [q1, q2]
      have hV_fairR := fairR_no (f := false) hO
      rw [hV_fairR]
      (try rw [hO])
      clear hO hV_fairR
      have HG1 := Lib.hid (fun W (h : IntS W A xs) (k : IntS W B ys) => isTree_any A B c e xs ys W h k _hx _hy hn hm)
      rw [q1] at HG1
      have HG2 := Lib.hid (fun W (zp : IntS W P ps) => isProcess_any A B P c ys.length e cp xs.length ps W zp lp hn)
      rw [q2] at HG2
      clear q1 q2 _hx _hy _bp
      go_enter Try.func37, Try.ntmps37
      go_wp2_with fail
      refine (HG1.out _ (h.alloc _) (k.alloc _)).mono ?_
      rintro e1 w1 ⟨rfl, hb⟩
      have hx0 : w1.cell? ⟨w.heap.size, 0, none⟩ = some (.slice A xs.length c) := keep_cell hb (by simp)
      have hx1 : w1.cell? ⟨w.heap.size, 1, none⟩ = some (.slice B ys.length e) := keep_cell hb (by simp)
      have hw : Below w.heap.size w w1 := below_alloc (hb)
      clear hb
      go_wp2_with fail
      refine (HG2.out _ (zp.below hw)).mono ?_
      rintro e1 w2 ⟨rfl, hb⟩
      replace hx0 := keep_cell hb hx0
      replace hx1 := keep_cell hb hx1
      replace hw := keep_below hb hw
      clear hb
      go_wp2
      go_ret2
      exact ⟨rfl, hw⟩
    case true =>
      have hO : procOk xs ys ps = true := by unfold procOk ; simp [q1, q2]
      have hV_fairR := fairR_yes (f := false) hO
      rw [hV_fairR]
      (try rw [hO])
      clear hO hV_fairR
      have HG1 := Lib.hid (fun W (h : IntS W A xs) (k : IntS W B ys) => isTree_any A B c e xs ys W h k _hx _hy hn hm)
      rw [q1] at HG1
      have HG2 := Lib.hid (fun W (zp : IntS W P ps) => isProcess_any A B P c ys.length e cp xs.length ps W zp lp hn)
      rw [q2] at HG2
      have hpp := isProc_iff q2
      have hgl := good_len q1
      have HD := Lib.hid (fun W (h : IntS W A xs) (k : IntS W B ys) (zp : IntS W P ps) => drifts_good q1 A B P c e cp ps W h k zp hpp.1 hpp.2)
      have hLl := dftK_len xs ys ps xs.length
      have hL1 : 1 ≤ (dftK xs ys ps xs.length).length := by rw [hLl]; exact hgl.1
      have hL2 : (dftK xs ys ps xs.length).length ≤ 24 := by rw [hLl]; exact hgl.2.1
      clear hpp hgl hLl
      generalize dftK xs ys ps xs.length = L at *
      generalize hg : stB false L = r at *
      have HG := Lib.hid hg
      clear hg
      clear q1 q2 _hx _hy _bp
      go_enter Try.func37, Try.ntmps37
      go_wp2_with fail
      refine (HG1.out _ (h.alloc _) (k.alloc _)).mono ?_
      rintro e1 w1 ⟨rfl, hb⟩
      have hx0 : w1.cell? ⟨w.heap.size, 0, none⟩ = some (.slice A xs.length c) := keep_cell hb (by simp)
      have hx1 : w1.cell? ⟨w.heap.size, 1, none⟩ = some (.slice B ys.length e) := keep_cell hb (by simp)
      have hw : Below w.heap.size w w1 := below_alloc (hb)
      clear hb
      go_wp2_with fail
      refine (HG2.out _ (zp.below hw)).mono ?_
      rintro e1 w2 ⟨rfl, hb⟩
      replace hx0 := keep_cell hb hx0
      replace hx1 := keep_cell hb hx1
      replace hw := keep_below hb hw
      clear hb
      clear HG1 HG2
      go_wp2_with fail
      refine (HD.out _ (h.below hw) (k.below hw) (zp.below hw)).mono ?_
      rintro e1 w9 ⟨A1, c1, rfl, ho, hb1⟩
      obtain ⟨g, rfl, _, hr⟩ := ho.pos hL1
      replace hw := keep_below hb1 hw
      clear ho hb1 hx0 hx1
      go_wp2
      go_loopw [21] (fun i wr => ∃ k : Nat, k ≤ L.length ∧ i = .int .i64 k ∧ Hid (∀ j, j < k → badB false (nthp L j).1 = false) ∧ Row2 wr g L ∧ Below w.heap.size w wr) (fun i _ => L.length - (intOf i).toNat)
      case atStart => exact ⟨0, by omega, rfl, fun j hj => by omega, hr, hw⟩
      case round =>
        clear hr hw
        obtain ⟨j, hj, rfl, HA, hr, hw⟩ := hrel
        by_cases hlt : j < L.length
        · have hc0 := hr.cell0 hlt
          have hc1 := hr.cell1 hlt
          have i1 : (j : Int) < L.length := by omega
          have HZ : badB false (nthp L j).1 = false → Hid (∀ i, i < j + 1 → badB false (nthp L i).1 = false) := fun hz i hi => by
            by_cases e : i = j
            · subst e; exact hz
            · exact HA.out i (by omega)
          have HN := Lib.hid (fun (hz : badB false (nthp L j).1 = true) => stB_no hlt hz)
          generalize (nthp L j).1 = a at *
          generalize (nthp L j).2 = b at *
          by_cases h1 : 0 < a
          · have hr' : r = false := by rw [← HG.out]; exact HN.out (bad_pos h1)
            subst hr'
            clear HZ HN
            have d1 : decide (0 < a) = true := decide_eq_true h1
            go_wp2
            go_ret2
            exact ⟨rfl, hw.alloc hw.size _⟩
          · have HA' := HZ (bad_up (by omega))
            clear HZ HN
            have d1 : decide (0 < a) = false := decide_eq_false h1
            go_wp2
            go_roundw
            case rel => exact ⟨j + 1, by omega, by go_num, HA', hr.alloc _, hw.alloc hw.size _⟩
            case measure => simp [intOf]; omega
        · have hr' : r = true := by rw [← HG.out]; exact stB_yes fun j hj => HA.out j (by omega)
          subst hr'
          go_wp2
          go_ret2
          exact ⟨rfl, hw⟩
end Go.Proofs.Ytdjfjlmbaehppaa
