/- Contracts: the pays that are known by a cut. -/
import Derived.Test.YtombfbmcplefgaaUnder
import Derived.Test.YtombfbmcplefgaaStopAt
namespace Go.Proofs.Ytombfbmcplefgaa
open Go.ChangeShapes Go.WideShapes Go.ChangeAt Go.RowKit

theorem asc_lt {L : List Int} (h : Asc L) {k m : Nat} (hk : k < m) (hm : m < L.length) : nth L k < nth L m := by
  have := List.pairwise_iff_getElem.1 h k m (by omega) hm hk
  have e1 : nth L k = L[k] := by simp [nth, List.getD, show k < L.length by omega]
  have e2 : nth L m = L[m] := by simp [nth, List.getD, hm]
  rw [e1, e2]; exact this
def pcF (xs ys : List Int) (d : Int) (vs : List Int) (y : Int) : Int := nth vs (ovX xs (cutL xs ys d) y).toNat
theorem cut_at {xs ys : List Int} (hg : good xs ys = true) {d : Int} (hd : 0 ≤ d) {y : Nat} (hy : y < xs.length) (he : 0 < nth ys y) :
    ∃ m : Nat, ovX xs (cutL xs ys d) y = m ∧ m < (cutL xs ys d).length ∧ ∃ q : Nat, nth (cutL xs ys d) m = q ∧ q < xs.length ∧ underB xs q y = true ∧ ∀ k, k < m → ∃ z : Nat, nth (cutL xs ys d) k = z ∧ z < xs.length ∧ underB xs z y = false := by
  obtain ⟨q0, h1, h2, h3⟩ := cut_some hg hd hy he
  obtain ⟨m, h4, h5, h6⟩ := ovU_some (ns := cutL xs ys d) (U := up xs y) ⟨_, h1, mem_pick.2 ⟨q0, rfl, h2, h3⟩⟩
  obtain ⟨q, h7, h8, h9⟩ := pick_mem (f := inCut xs ys d) (k := xs.length) h5
  change nth (cutL xs ys d) m = q at h7
  rw [h7] at h6
  refine ⟨m, by unfold ovX; rw [Int.toNat_natCast]; exact h4, h5, q, h7, h8, hasB_mem.2 h6, fun k hk => ?_⟩
  obtain ⟨z, z1, z2, z3⟩ := pick_mem (f := inCut xs ys d) (k := xs.length) (show k < (pick (inCut xs ys d) xs.length).length from Nat.lt_trans hk h5)
  change nth (cutL xs ys d) k = z at z1
  refine ⟨z, z1, z2, ?_⟩
  cases hb : underB xs z y with
  | false => rfl
  | true =>
    have e := cut_one hg hy (hasB_mem.1 hb) h6 z3 h9
    have := asc_lt (asc_pick (inCut xs ys d) xs.length) hk h5
    change nth (cutL xs ys d) k < nth (cutL xs ys d) m at this
    omega
theorem end_pos {xs ys : List Int} (hg : good xs ys = true) {j : Nat} (hj : j < (endsL xs).length) : ∃ y : Nat, nth (endsL xs) j = y ∧ y < xs.length ∧ 0 < nth ys y := by
  obtain ⟨y, h1, h2, h3⟩ := ends_mem hj
  exact ⟨y, h1, h2, by have := wt_end hg h2; rw [h3] at this; exact of_decide_eq_true this⟩
theorem cut_pos {xs ys : List Int} (hg : good xs ys = true) {d : Int} (hd : 0 ≤ d) : 1 ≤ (cutL xs ys d).length := by
  obtain ⟨y, _, h2, h3⟩ := end_pos hg (ends_pos hg)
  obtain ⟨m, _, h4, _⟩ := cut_at hg hd h2 h3
  omega
theorem cut_len (xs ys : List Int) (d : Int) : (cutL xs ys d).length ≤ xs.length := pick_len _ _
noncomputable def pcOk (xs ys : List Int) (d : Int) (vs : List Int) : Bool := good xs ys && decide (0 ≤ d) && decide (vs.length = (cutL xs ys d).length) && allIn vs (-999) 999
noncomputable def pcR (xs ys : List Int) (d : Int) (vs : List Int) : List Int := if pcOk xs ys d vs then mapI (pcF xs ys d vs) (endsL xs) (endsL xs).length else []
theorem pcR_no {xs ys : List Int} {d : Int} {vs : List Int} (h : pcOk xs ys d vs = false) : pcR xs ys d vs = [] := by unfold pcR; rw [h]; rfl
theorem pcR_yes {xs ys : List Int} {d : Int} {vs : List Int} (h : pcOk xs ys d vs = true) : pcR xs ys d vs = mapI (pcF xs ys d vs) (endsL xs) (endsL xs).length := by unfold pcR; rw [h]; rfl
theorem pcR_len (xs ys : List Int) (d : Int) (vs : List Int) (hn : xs.length ≤ 1048576) : (pcR xs ys d vs).length ≤ 2000000 := by
  unfold pcR; split
  · rw [mapI_len _ _ (Nat.le_refl _)]; have := ends_len xs; omega
  · simp
set_option maxHeartbeats 4000000 in
set_option maxRecDepth 100000 in
theorem implPaysAtCut_any (A B : Option Addr) (c e : Nat) (xs ys : List Int) (d9 : Int) (V : Option Addr) (cv : Nat) (vs : List Int) (w : World) (h : IntS w A xs) (k : IntS w B ys) (zv : IntS w V vs) (_hx : Bd xs) (_hy : Bd ys) (_bv : Bd vs) (_hd9 : -9223372036854775808 ≤ d9 ∧ d9 ≤ 9223372036854775807) (hn : xs.length ≤ 1048576) (hm : ys.length ≤ 1048576) (lv : vs.length ≤ 1048576) :
    Calls Try.prog 71 #[.agg #[.slice A xs.length c, .slice B ys.length e], .int .i64 d9, .slice V vs.length cv] w (RetIB w (pcR xs ys d9 vs) (pcOk xs ys d9 vs)) := by
  obtain ⟨r1, q1⟩ : ∃ r, (good xs ys) = r := ⟨_, rfl⟩
  cases r1
  case false =>
    have hO : pcOk xs ys d9 vs = false := by unfold pcOk ; simp [q1]
    have hV_pcR := pcR_no hO
    rw [hV_pcR]
    (try rw [hO])
    clear hO hV_pcR
    have HG1 := Lib.hid (fun W (h : IntS W A xs) (k : IntS W B ys) => isTree_any A B c e xs ys W h k _hx _hy hn hm)
    rw [q1] at HG1
    clear q1 _hx _hy _bv
    go_enter Try.func71, Try.ntmps71
    go_wp2_with fail
    refine (HG1.out _ (h.alloc _) (k.alloc _)).mono ?_
    rintro e1 w1 ⟨rfl, hb⟩
    have hx0 : w1.cell? ⟨w.heap.size, 0, none⟩ = some (.slice A xs.length c) := keep_cell hb (by simp)
    have hx1 : w1.cell? ⟨w.heap.size, 1, none⟩ = some (.slice B ys.length e) := keep_cell hb (by simp)
    have hw : Below w.heap.size w w1 := below_alloc (hb)
    clear hb
    go_wp2
    go_ret2
    exact ⟨none, 0, rfl, .inl ⟨rfl, rfl⟩, hw⟩
  case true =>
    obtain ⟨r2, q2⟩ : ∃ r, (decide (0 ≤ d9)) = r := ⟨_, rfl⟩
    cases r2
    case false =>
      have hO : pcOk xs ys d9 vs = false := by unfold pcOk ; simp [q1, q2]
      have hV_pcR := pcR_no hO
      rw [hV_pcR]
      (try rw [hO])
      clear hO hV_pcR
      have HG1 := Lib.hid (fun W (h : IntS W A xs) (k : IntS W B ys) => isTree_any A B c e xs ys W h k _hx _hy hn hm)
      rw [q1] at HG1
      have dn : d9 < 0 := by have := of_decide_eq_false q2; omega
      have dn2 : decide (d9 < 0) = true := decide_eq_true dn
      clear q1 q2 _hx _hy _bv
      go_enter Try.func71, Try.ntmps71
      go_wp2_with fail
      refine (HG1.out _ (h.alloc _) (k.alloc _)).mono ?_
      rintro e1 w1 ⟨rfl, hb⟩
      have hx0 : w1.cell? ⟨w.heap.size, 0, none⟩ = some (.slice A xs.length c) := keep_cell hb (by simp)
      have hx1 : w1.cell? ⟨w.heap.size, 1, none⟩ = some (.slice B ys.length e) := keep_cell hb (by simp)
      have hw : Below w.heap.size w w1 := below_alloc (hb)
      clear hb
      go_wp2
      go_ret2
      exact ⟨none, 0, rfl, .inl ⟨rfl, rfl⟩, hw⟩
    case true =>
      obtain ⟨r3, q3⟩ : ∃ r, (decide (vs.length = (cutL xs ys d9).length)) = r := ⟨_, rfl⟩
      cases r3
      case false =>
        have hO : pcOk xs ys d9 vs = false := by unfold pcOk ; simp [q1, q2, q3]
        have hV_pcR := pcR_no hO
        rw [hV_pcR]
        (try rw [hO])
        clear hO hV_pcR
        have HG1 := Lib.hid (fun W (h : IntS W A xs) (k : IntS W B ys) => isTree_any A B c e xs ys W h k _hx _hy hn hm)
        rw [q1] at HG1
        have HCu := Lib.hid (fun W (h : IntS W A xs) => cut_any q1 A B c e d9 W h)
        have hcl := cut_len xs ys d9
        have hgl := good_len q1
        have hcb : (cutL xs ys d9).length ≤ 24 := by omega
        have HW9 := Lib.hid (fun W (z : IntS W V vs) => allWithin_any V cv vs (-999) 999 W z (by unfold maxLen; omega))
        clear hcl hgl
        have q3' := of_decide_eq_false q3
        have hd : ((vs.length : Int) != ((cutL xs ys d9).length : Int)) = true := by rw [bne_iff_ne]; omega
        clear q3'
        generalize cutL xs ys d9 = C at *
        have dn : ¬ (d9 < 0) := by have := of_decide_eq_true q2; omega
        have dn2 : decide (d9 < 0) = false := decide_eq_false dn
        clear q1 q2 q3 _hx _hy _bv
        go_enter Try.func71, Try.ntmps71
        go_wp2_with fail
        refine (HG1.out _ (h.alloc _) (k.alloc _)).mono ?_
        rintro e1 w1 ⟨rfl, hb⟩
        have hx0 : w1.cell? ⟨w.heap.size, 0, none⟩ = some (.slice A xs.length c) := keep_cell hb (by simp)
        have hx1 : w1.cell? ⟨w.heap.size, 1, none⟩ = some (.slice B ys.length e) := keep_cell hb (by simp)
        have hw : Below w.heap.size w w1 := below_alloc (hb)
        clear hb
        go_wp2_with fail
        refine (HCu.out _ (h.below hw)).mono ?_
        rintro e1 w8 ⟨A8, c8, rfl, ho8, hb8⟩
        replace hw := keep_below hb8 hw
        replace hx0 := keep_cell hb8 hx0
        replace hx1 := keep_cell hb8 hx1
        go_wp2
        go_ret2
        exact ⟨none, 0, rfl, .inl ⟨rfl, rfl⟩, hw⟩
      case true =>
        obtain ⟨r4, q4⟩ : ∃ r, (allIn vs (-999) 999) = r := ⟨_, rfl⟩
        cases r4
        case false =>
          have hO : pcOk xs ys d9 vs = false := by unfold pcOk ; simp [q1, q2, q3, q4]
          have hV_pcR := pcR_no hO
          rw [hV_pcR]
          (try rw [hO])
          clear hO hV_pcR
          have HG1 := Lib.hid (fun W (h : IntS W A xs) (k : IntS W B ys) => isTree_any A B c e xs ys W h k _hx _hy hn hm)
          rw [q1] at HG1
          have HW8 := Lib.hid (fun W (z : IntS W V vs) => allWithin_any V cv vs (-999) 999 W z (by unfold maxLen; omega))
          rw [q4] at HW8
          have dn : ¬ (d9 < 0) := by have := of_decide_eq_true q2; omega
          have dn2 : decide (d9 < 0) = false := decide_eq_false dn
          have HCu := Lib.hid (fun W (h : IntS W A xs) => cut_any q1 A B c e d9 W h)
          have hcl := cut_len xs ys d9
          have hgl := good_len q1
          have hcb : (cutL xs ys d9).length ≤ 24 := by omega
          have HW9 := Lib.hid (fun W (z : IntS W V vs) => allWithin_any V cv vs (-999) 999 W z (by unfold maxLen; omega))
          clear hcl hgl
          have q3' := of_decide_eq_true q3
          have hd : ((vs.length : Int) != ((cutL xs ys d9).length : Int)) = false := by rw [bne_eq_false_iff_eq]; omega
          clear q3'
          
          clear q1 q2 q3 q4 _hx _hy _bv
          go_enter Try.func71, Try.ntmps71
          go_wp2_with fail
          refine (HG1.out _ (h.alloc _) (k.alloc _)).mono ?_
          rintro e1 w1 ⟨rfl, hb⟩
          have hx0 : w1.cell? ⟨w.heap.size, 0, none⟩ = some (.slice A xs.length c) := keep_cell hb (by simp)
          have hx1 : w1.cell? ⟨w.heap.size, 1, none⟩ = some (.slice B ys.length e) := keep_cell hb (by simp)
          have hw : Below w.heap.size w w1 := below_alloc (hb)
          clear hb
          go_wp2_with fail
          refine (HCu.out _ (h.below hw)).mono ?_
          rintro e1 w8 ⟨A8, c8, rfl, ho8, hb8⟩
          replace hw := keep_below hb8 hw
          replace hx0 := keep_cell hb8 hx0
          replace hx1 := keep_cell hb8 hx1
          go_wp2_with fail
          refine (HW8.out _ (zv.below hw)).mono ?_
          rintro e1 w7 ⟨rfl, rfl⟩
          go_wp2
          go_ret2
          exact ⟨none, 0, rfl, .inl ⟨rfl, rfl⟩, hw⟩
        case true =>
          have hO : pcOk xs ys d9 vs = true := by unfold pcOk ; simp [q1, q2, q3, q4]
          have hV_pcR := pcR_yes hO
          rw [hV_pcR]
          (try rw [hO])
          clear hO hV_pcR
          have HG1 := Lib.hid (fun W (h : IntS W A xs) (k : IntS W B ys) => isTree_any A B c e xs ys W h k _hx _hy hn hm)
          rw [q1] at HG1
          have dn : ¬ (d9 < 0) := by have := of_decide_eq_true q2; omega
          have dn2 : decide (d9 < 0) = false := decide_eq_false dn
          have HCu := Lib.hid (fun W (h : IntS W A xs) => cut_any q1 A B c e d9 W h)
          have hcl := cut_len xs ys d9
          have hgl := good_len q1
          have hcb : (cutL xs ys d9).length ≤ 24 := by omega
          have HW9 := Lib.hid (fun W (z : IntS W V vs) => allWithin_any V cv vs (-999) 999 W z (by unfold maxLen; omega))
          clear hcl hgl
          have q3' := of_decide_eq_true q3
          have hd : ((vs.length : Int) != ((cutL xs ys d9).length : Int)) = false := by rw [bne_eq_false_iff_eq]; omega
          clear q3'
          
          
          rw [q4] at HW9
          have HOv := Lib.hid (fun W N9 c9 (h : IntS W A xs) (z : IntS W N9 (cutL xs ys d9)) => over_good q1 A B N9 c e c9 (cutL xs ys d9) W h z (by omega))
          have hol := ovL_len xs (cutL xs ys d9)
          have hel := ends_len xs
          have hep := ends_pos q1
          have HR := Lib.hid (fun j (hj : j < (endsL xs).length) => by
            obtain ⟨y, h1, h2, h3⟩ := end_pos q1 hj
            obtain ⟨m, h4, h5, _⟩ := cut_at q1 (of_decide_eq_true q2) h2 h3
            have : ∃ m : Nat, nth (ovL xs (cutL xs ys d9)) j = m ∧ m < vs.length ∧ pcF xs ys d9 vs (nth (endsL xs) j) = nth vs m := ⟨m, by unfold ovL; rw [mapI_nth _ _ hj, h1]; exact h4, by have := of_decide_eq_true q3; omega, by unfold pcF; rw [h1, h4, Int.toNat_natCast]⟩
            exact this)
          have hgl := (good_len q1).2.1
          have hR1 : 1 ≤ (ovL xs (cutL xs ys d9)).length := by omega
          have hE24 : (endsL xs).length ≤ 24 := by omega
          have HRL := Lib.hid hol
          have HMS := Lib.hid (fun i (h : i < (endsL xs).length) => mapI_succ (pcF xs ys d9 vs) (endsL xs) h)
          have HML := Lib.hid (fun i (h : i ≤ (endsL xs).length) => mapI_len (pcF xs ys d9 vs) (endsL xs) h)
          clear hol hel hep hgl
          generalize pcF xs ys d9 vs = f at *
          generalize ovL xs (cutL xs ys d9) = R at *
          generalize cutL xs ys d9 = C at *
          generalize endsL xs = E at *
          clear q1 q2 q3 q4 _hx _hy _bv
          go_enter Try.func71, Try.ntmps71
          go_wp2_with fail
          refine (HG1.out _ (h.alloc _) (k.alloc _)).mono ?_
          rintro e1 w1 ⟨rfl, hb⟩
          have hx0 : w1.cell? ⟨w.heap.size, 0, none⟩ = some (.slice A xs.length c) := keep_cell hb (by simp)
          have hx1 : w1.cell? ⟨w.heap.size, 1, none⟩ = some (.slice B ys.length e) := keep_cell hb (by simp)
          have hw : Below w.heap.size w w1 := below_alloc (hb)
          clear hb
          clear HG1
          obtain ⟨i0, hi, hz0, hz1, hz2⟩ := info_parts info_int
          go_wp2_with fail
          refine (HCu.out _ (h.below hw)).mono ?_
          rintro e1 w8 ⟨A8, c8, rfl, ho8, hb8⟩
          replace hw := keep_below hb8 hw
          replace hx0 := keep_cell hb8 hx0
          replace hx1 := keep_cell hb8 hx1
          go_wp2_with fail
          refine (HW9.out _ (zv.below hw)).mono ?_
          rintro e1 w7 ⟨rfl, rfl⟩
          have hsW := World.block_lt_of_cell? _ _ hx0
          have hsW8 : w.heap.size < w8.heap.size := hsW
          have hI8 := ho8.ints
          have hown := own_empty w8 (w.heap.size + 1) w8.heap.size rfl hsW8
          clear ho8 hb8
          go_wp2_with fail
          refine (HOv.out _ _ _ ((h.below hw).alloc _) (hI8.below ((Below.refl _ _).alloc (Nat.le_refl _) _))).mono ?_
          rintro e1 w6 ⟨A6, c6, rfl, ho6, hb6⟩
          obtain ⟨gR, rfl, hgR, hrR⟩ := ho6.pos hR1
          simp only [World.size_alloc] at hgR
          replace hown := own_below hown hb6
          replace hw := keep_below hb6 (keep_below_alloc hw _)
          clear ho6 hb6 hI8 hx0 hx1
          go_wp2
          go_loopw [9, 37] (fun v i wr => ∃ j : Nat, j ≤ E.length ∧ i = .int .i64 j ∧ wr.ownsRow (w.heap.size + 1) 3 1 v (mapI f E j).length (i64s (mapI f E j)) ∧ v.ownBlock ≠ some gR ∧ Row wr gR R ∧ Below w.heap.size w wr) (fun _ i _ => E.length - (intOf i).toNat)
          case atStart => exact ⟨0, by omega, rfl, hown, by simp [Value.ownBlock]; omega, hrR, hw⟩
          case round =>
            clear hown hrR hw
            obtain ⟨j, hj, rfl, hown, hne, hrR, hw⟩ := hrel
            by_cases hlt : j < E.length
            · obtain ⟨m, hm1, hm2, hm3⟩ := HR.out j hlt
              have hcR := hrR.cell (j := j) (by rw [HRL.out]; exact hlt)
              rw [hm1] at hcR
              obtain ⟨b9, o9, rfl, hc9⟩ := (zv.below hw).at_ (j := m) hm2
              have hms := HMS.out j hlt
              rw [hm3] at hms
              have HMJ := Lib.hid (HML.out j hj)
              generalize nth vs m = v9 at *
              have HPX : Hid (i64s (mapI f E (j + 1)) = i64s (mapI f E j) ++ [Value.int .i64 v9] ∧ (mapI f E (j + 1)).length = (mapI f E j).length + 1) := by rw [hms]; exact ⟨i64s_app _ _, by simp⟩
              have hlen : (mapI f E j).length ≤ 24 := by rw [HMJ.out]; omega
              have i1 : (j : Int) < R.length := by rw [HRL.out]; omega
              have i2 : (m : Int) < vs.length := by omega
              have hwz := hw.size
              clear hms hm1 hm3
              generalize mapI f E j = L at *
              go_wp2_with (at_builtin; (refine wpList_append_own_at _ rfl _ _ 22 rfl (w.heap.size + 1) 3 i0 (.int .i64 0) 1 8 Try.underlying22 hi hz0 hz1 hz2 rfl (by decide) _ _ _ rfl (hown.alloc _) ⟨wr.heap.size, 0, none⟩ 1 1 [.int .i64 (v9)] rfl rfl (cell_one_new _ _ _) (by simp [Value.oneCell']) (by unfold maxLen; omega) (by omega) (by simp; omega) ?_); intro v' w1 hown1 hgrow _ hat)
              have hrow1 := (hrR.alloc (.cells #[.int .i64 v9] 3)).grown hgrow (fun e => hne e.symm)
              have hb3 : Below w.heap.size w w1 := Below.grown (hw.alloc hw.size _) hgrow (by simp; omega) (fun g hg => by have := (hown.lt g hg).1; omega)
              have hgl := hrR.lt
              have hne1 : v'.ownBlock ≠ some gR := by
                rcases hat with e | e
                · rw [e]; exact hne
                · rw [e]; simp; omega
              rw [← HPX.out.1, ← HPX.out.2] at hown1
              clear hown hgrow hrR hw HPX hne hat
              go_wp2
              go_roundw
              case rel => exact ⟨j + 1, by omega, by go_num, hown1, hne1, hrow1, hb3⟩
              case measure => simp only [intOf]; omega
            · have hkn : j = E.length := by omega
              have i3 : ¬ ((j : Int) < R.length) := by rw [HRL.out]; omega
              rw [hkn] at hown
              obtain ⟨A', c', rfl, hO⟩ := own_form hown
              clear hkn hown
              go_wp2
              go_ret2
              exact ⟨A', c', rfl, hO.mono (by omega), hw⟩
set_option maxHeartbeats 4000000 in
set_option maxRecDepth 100000 in
theorem specPaysAtCut_any (A B : Option Addr) (c e : Nat) (xs ys : List Int) (d9 : Int) (V : Option Addr) (cv : Nat) (vs : List Int) (w : World) (h : IntS w A xs) (k : IntS w B ys) (zv : IntS w V vs) (_hx : Bd xs) (_hy : Bd ys) (_bv : Bd vs) (_hd9 : -9223372036854775808 ≤ d9 ∧ d9 ≤ 9223372036854775807) (hn : xs.length ≤ 1048576) (hm : ys.length ≤ 1048576) (lv : vs.length ≤ 1048576) :
    Calls Try.prog 72 #[.agg #[.slice A xs.length c, .slice B ys.length e], .int .i64 d9, .slice V vs.length cv] w (RetIB w (pcR xs ys d9 vs) (pcOk xs ys d9 vs)) := by
  obtain ⟨r1, q1⟩ : ∃ r, (good xs ys) = r := ⟨_, rfl⟩
  cases r1
  case false =>
    have hO : pcOk xs ys d9 vs = false := by unfold pcOk ; simp [q1]
    have hV_pcR := pcR_no hO
    rw [hV_pcR]
    (try rw [hO])
    clear hO hV_pcR
    have HG1 := Lib.hid (fun W (h : IntS W A xs) (k : IntS W B ys) => l2Good_any A B c e xs ys W h k _hx _hy hn hm)
    rw [q1] at HG1
    clear q1 _hx _hy _bv
    go_enter Try.func72, Try.ntmps72
    go_wp2_with fail
    refine (HG1.out _ ((h.alloc _).alloc _) ((k.alloc _).alloc _)).mono ?_
    rintro e1 w1 ⟨rfl, hb⟩
    have hx0 : w1.cell? ⟨w.heap.size, 0, none⟩ = some (.slice A xs.length c) := keep_cell hb (by simp)
    have hx1 : w1.cell? ⟨w.heap.size, 1, none⟩ = some (.slice B ys.length e) := keep_cell hb (by simp)
    have hown := own_below (own_empty _ (w.heap.size + 1) (w.heap.size + 1) (by simp) (by simp)) hb
    have hw : Below w.heap.size w w1 := below_alloc (below_alloc (hb))
    clear hb
    obtain ⟨A', c', hv, hO⟩ := own_form (xs := []) hown
    cases hv
    clear hown
    go_wp2
    go_ret2
    exact ⟨_, _, rfl, hO.mono (by omega), hw⟩
  case true =>
    obtain ⟨r2, q2⟩ : ∃ r, (decide (0 ≤ d9)) = r := ⟨_, rfl⟩
    cases r2
    case false =>
      have hO : pcOk xs ys d9 vs = false := by unfold pcOk ; simp [q1, q2]
      have hV_pcR := pcR_no hO
      rw [hV_pcR]
      (try rw [hO])
      clear hO hV_pcR
      have HG1 := Lib.hid (fun W (h : IntS W A xs) (k : IntS W B ys) => l2Good_any A B c e xs ys W h k _hx _hy hn hm)
      rw [q1] at HG1
      have dn : d9 < 0 := by have := of_decide_eq_false q2; omega
      have dn2 : decide (d9 < 0) = true := decide_eq_true dn
      clear q1 q2 _hx _hy _bv
      go_enter Try.func72, Try.ntmps72
      go_wp2_with fail
      refine (HG1.out _ ((h.alloc _).alloc _) ((k.alloc _).alloc _)).mono ?_
      rintro e1 w1 ⟨rfl, hb⟩
      have hx0 : w1.cell? ⟨w.heap.size, 0, none⟩ = some (.slice A xs.length c) := keep_cell hb (by simp)
      have hx1 : w1.cell? ⟨w.heap.size, 1, none⟩ = some (.slice B ys.length e) := keep_cell hb (by simp)
      have hown := own_below (own_empty _ (w.heap.size + 1) (w.heap.size + 1) (by simp) (by simp)) hb
      have hw : Below w.heap.size w w1 := below_alloc (below_alloc (hb))
      clear hb
      obtain ⟨A', c', hv, hO⟩ := own_form (xs := []) hown
      cases hv
      clear hown
      go_wp2
      go_ret2
      exact ⟨_, _, rfl, hO.mono (by omega), hw⟩
    case true =>
      obtain ⟨r3, q3⟩ : ∃ r, (decide (vs.length = (cutL xs ys d9).length)) = r := ⟨_, rfl⟩
      cases r3
      case false =>
        have hO : pcOk xs ys d9 vs = false := by unfold pcOk ; simp [q1, q2, q3]
        have hV_pcR := pcR_no hO
        rw [hV_pcR]
        (try rw [hO])
        clear hO hV_pcR
        have HG1 := Lib.hid (fun W (h : IntS W A xs) (k : IntS W B ys) => l2Good_any A B c e xs ys W h k _hx _hy hn hm)
        rw [q1] at HG1
        have HCu := Lib.hid (fun W (h : IntS W A xs) (k : IntS W B ys) => l2CutAt_any q1 A B c e d9 W h k)
        have HE := Lib.hid (fun W (h : IntS W A xs) => l2Ends_any A B c ys.length e xs W h (by have := good_len q1; omega) (good_iff.1 q1).2.1 (good_root q1))
        have hE1 := Lib.hid (ends_pos q1)
        have hC1 := Lib.hid (cut_pos q1 (of_decide_eq_true q2))
        have q3' := of_decide_eq_false q3
        have hd : ((vs.length : Int) != ((cutL xs ys d9).length : Int)) = true := by rw [bne_iff_ne]; omega
        clear q3'
        generalize cutL xs ys d9 = C at *
        generalize endsL xs = E at *
        have dn : ¬ (d9 < 0) := by have := of_decide_eq_true q2; omega
        have dn2 : decide (d9 < 0) = false := decide_eq_false dn
        clear q1 q2 q3 _hx _hy _bv
        go_enter Try.func72, Try.ntmps72
        go_wp2_with fail
        refine (HG1.out _ ((h.alloc _).alloc _) ((k.alloc _).alloc _)).mono ?_
        rintro e1 w1 ⟨rfl, hb⟩
        have hx0 : w1.cell? ⟨w.heap.size, 0, none⟩ = some (.slice A xs.length c) := keep_cell hb (by simp)
        have hx1 : w1.cell? ⟨w.heap.size, 1, none⟩ = some (.slice B ys.length e) := keep_cell hb (by simp)
        have hown := own_below (own_empty _ (w.heap.size + 1) (w.heap.size + 1) (by simp) (by simp)) hb
        have hw : Below w.heap.size w w1 := below_alloc (below_alloc (hb))
        clear hb
        have hs1 := (hown.lt (w.heap.size + 1) rfl).2
        go_wp2
        refine wp_region_held_drew (S := fun w' => Below w1.heap.size w1 w') (by kernel_rfl) ((Below.refl _ _)).drew (fun hHeld => ?_)
        replace hw := hw.drew
        refine wpAnyH_take (i := 0) (oi := ?oop1) (v := ?vvp1) ?hip1 (by kernel_rfl) (by kernel_rfl) (by kernel_rfl) ?hqp1 (Or.inl ⟨?hgp1, ?hyp1⟩) (by assumption) ?restp1
        case hip1 => simp only [List.getElem?_toArray, List.getElem?_cons_zero, List.getElem?_cons_succ]; rfl
        case hqp1 => exact fun _ _ _ h => h
        case hgp1 => rfl
        case hyp1 =>
          intro wq hSw
          replace hx0 := keep_cell hSw hx0
          replace hx1 := keep_cell hSw hx1
          go_simp
          (try with_reducible rfl)
        (try simp only [Act.put, List.setIfInBounds_toArray, List.set_cons_zero, List.set_cons_succ])
        refine wpAnyH_take (i := 1) (oi := ?oop2) (v := ?vvp2) ?hip2 (by kernel_rfl) (by kernel_rfl) (by kernel_rfl) ?hqp2 (Or.inl ⟨?hgp2, ?hyp2⟩) (by assumption) ?restp2
        case hip2 => simp only [List.getElem?_toArray, List.getElem?_cons_zero, List.getElem?_cons_succ]; rfl
        case hqp2 => exact fun _ _ _ h => h
        case hgp2 => rfl
        case hyp2 =>
          intro wq hSw
          replace hx0 := keep_cell hSw hx0
          replace hx1 := keep_cell hSw hx1
          go_simp
          (try with_reducible rfl)
        (try simp only [Act.put, List.setIfInBounds_toArray, List.set_cons_zero, List.set_cons_succ])
        refine wpAnyH_take (i := 3) (oi := ?oop3) (v := ?vvp3) ?hip3 (by kernel_rfl) (by kernel_rfl) (by kernel_rfl) ?hqp3 (Or.inl ⟨?hgp3, ?hyp3⟩) (by assumption) ?restp3
        case hip3 => simp only [List.getElem?_toArray, List.getElem?_cons_zero, List.getElem?_cons_succ]; rfl
        case hqp3 => exact fun _ _ _ h => h
        case hgp3 => rfl
        case hyp3 =>
          intro wq hSw
          replace hx0 := keep_cell hSw hx0
          replace hx1 := keep_cell hSw hx1
          go_simp
          (try with_reducible rfl)
        (try simp only [Act.put, List.setIfInBounds_toArray, List.set_cons_zero, List.set_cons_succ])
        refine wpAnyH_ready (rs := [2]) (by kernel_rfl) (by simp) ?_
        refine AllReadyH.cons (i := 2) (o := ?oop4) ?hop4 (fun K hK => ?hstepp4) AllReadyH.nil
        case hop4 => simp only [List.getElem?_toArray, List.getElem?_cons_zero, List.getElem?_cons_succ]; rfl
        go_simp
        refine (HCu.out _ (h.below hw) (k.below hw)).mono ?_
        rintro e1 wz ⟨A8, c8, rfl, ho8, hb⟩
        obtain ⟨gC, rfl, hgC, hrC⟩ := ho8.pos hC1.out
        have hgC2 : w.heap.size + 1 < gC := Nat.lt_of_lt_of_le hs1 hgC
        have hb0 : Below w1.heap.size w1 wz := ⟨hb.os, hb.tape, hb.output, hb.size, hb.block⟩
        replace hown := own_below hown hb0
        clear ho8 hgC hb0
        go_wp2_with fail
        refine hK.out _ _ (keep_below hb hHeld) (fun _ => ?_)
        clear hK K
        (try simp only [Act.put, List.setIfInBounds_toArray, List.set_cons_zero, List.set_cons_succ])
        refine wpAnyH_mono (S' := fun w' => Below wz.heap.size wz w') (fun _ h => keep_below h (keep_below hb hHeld)) _ _ _ _ ?_
        replace hw := keep_below hb hw
        replace hx0 := keep_cell hb hx0
        replace hx1 := keep_cell hb hx1
        clear hHeld hb
        have hHeld : Below wz.heap.size wz wz := (Below.refl _ _)
        refine wpAnyH_ready (rs := [4]) (by kernel_rfl) (by simp) ?_
        refine AllReadyH.cons (i := 4) (o := ?oop5) ?hop5 (fun K hK => ?hstepp5) AllReadyH.nil
        case hop5 => simp only [List.getElem?_toArray, List.getElem?_cons_zero, List.getElem?_cons_succ]; rfl
        go_simp
        have hs2 := (hown.lt (w.heap.size + 1) rfl).2
        refine (HE.out _ (h.below hw)).mono ?_
        rintro e1 wz ⟨A7, c7, rfl, ho7, hb⟩
        replace hrC := hrC.below hb
        replace hown := own_below hown hb
        obtain ⟨gE, rfl, hgE, hrE⟩ := ho7.pos hE1.out
        have hgE2 : w.heap.size + 1 < gE := Nat.lt_of_lt_of_le hs2 hgE
        clear ho7 hgE hs2
        go_wp2_with fail
        refine hK.out _ _ (keep_below hb hHeld) (fun _ => ?_)
        clear hK K
        (try simp only [Act.put, List.setIfInBounds_toArray, List.set_cons_zero, List.set_cons_succ])
        refine wpAnyH_mono (S' := fun w' => Below wz.heap.size wz w') (fun _ h => keep_below h (keep_below hb hHeld)) _ _ _ _ ?_
        replace hw := keep_below hb hw
        replace hx0 := keep_cell hb hx0
        replace hx1 := keep_cell hb hx1
        clear hHeld hb
        have hHeld : Below wz.heap.size wz wz := (Below.refl _ _)
        refine wpAnyH_take (i := 5) (oi := ?oop6) (v := ?vvp6) ?hip6 (by kernel_rfl) (by kernel_rfl) (by kernel_rfl) ?hqp6 (Or.inl ⟨?hgp6, ?hyp6⟩) (by assumption) ?restp6
        case hip6 => simp only [List.getElem?_toArray, List.getElem?_cons_zero, List.getElem?_cons_succ]; rfl
        case hqp6 => exact fun _ _ _ h => h
        case hgp6 => rfl
        case hyp6 =>
          intro wq hSw
          replace hx0 := keep_cell hSw hx0
          replace hx1 := keep_cell hSw hx1
          go_simp
          (try with_reducible rfl)
        (try simp only [Act.put, List.setIfInBounds_toArray, List.set_cons_zero, List.set_cons_succ])
        refine wpAnyH_take (i := 6) (oi := ?oop7) (v := ?vvp7) ?hip7 (by kernel_rfl) (by kernel_rfl) (by kernel_rfl) ?hqp7 (Or.inl ⟨?hgp7, ?hyp7⟩) (by assumption) ?restp7
        case hip7 => simp only [List.getElem?_toArray, List.getElem?_cons_zero, List.getElem?_cons_succ]; rfl
        case hqp7 => exact fun _ _ _ h => h
        case hgp7 => rfl
        case hyp7 =>
          intro wq hSw
          replace hx0 := keep_cell hSw hx0
          replace hx1 := keep_cell hSw hx1
          go_simp
          (try with_reducible rfl)
        (try simp only [Act.put, List.setIfInBounds_toArray, List.set_cons_zero, List.set_cons_succ])
        clear hHeld
        refine wpAnyH_done (by kernel_rfl) ?_ _
        obtain ⟨A', c', hv, hO⟩ := own_form (xs := []) hown
        cases hv
        clear hown
        go_wp2
        go_ret2
        exact ⟨_, _, rfl, hO.mono (by omega), hw⟩
      case true =>
        obtain ⟨r4, q4⟩ : ∃ r, (allIn vs (-999) 999) = r := ⟨_, rfl⟩
        cases r4
        case false =>
          have hO : pcOk xs ys d9 vs = false := by unfold pcOk ; simp [q1, q2, q3, q4]
          have hV_pcR := pcR_no hO
          rw [hV_pcR]
          (try rw [hO])
          clear hO hV_pcR
          have HG1 := Lib.hid (fun W (h : IntS W A xs) (k : IntS W B ys) => l2Good_any A B c e xs ys W h k _hx _hy hn hm)
          rw [q1] at HG1
          have HCu := Lib.hid (fun W (h : IntS W A xs) (k : IntS W B ys) => l2CutAt_any q1 A B c e d9 W h k)
          have HE := Lib.hid (fun W (h : IntS W A xs) => l2Ends_any A B c ys.length e xs W h (by have := good_len q1; omega) (good_iff.1 q1).2.1 (good_root q1))
          have hE1 := Lib.hid (ends_pos q1)
          have hC1 := Lib.hid (cut_pos q1 (of_decide_eq_true q2))
          have HN4 := Lib.hid q4
          have dn : ¬ (d9 < 0) := by have := of_decide_eq_true q2; omega
          have dn2 : decide (d9 < 0) = false := decide_eq_false dn
          have q3' := of_decide_eq_true q3
          have hd : ((vs.length : Int) != ((cutL xs ys d9).length : Int)) = false := by rw [bne_eq_false_iff_eq]; omega
          clear q3'
          
          clear q1 q2 q3 q4 _hx _hy _bv
          go_enter Try.func72, Try.ntmps72
          go_wp2_with fail
          refine (HG1.out _ ((h.alloc _).alloc _) ((k.alloc _).alloc _)).mono ?_
          rintro e1 w1 ⟨rfl, hb⟩
          have hx0 : w1.cell? ⟨w.heap.size, 0, none⟩ = some (.slice A xs.length c) := keep_cell hb (by simp)
          have hx1 : w1.cell? ⟨w.heap.size, 1, none⟩ = some (.slice B ys.length e) := keep_cell hb (by simp)
          have hown := own_below (own_empty _ (w.heap.size + 1) (w.heap.size + 1) (by simp) (by simp)) hb
          have hw : Below w.heap.size w w1 := below_alloc (below_alloc (hb))
          clear hb
          have hs1 := (hown.lt (w.heap.size + 1) rfl).2
          go_wp2
          refine wp_region_held_drew (S := fun w' => Below w1.heap.size w1 w') (by kernel_rfl) ((Below.refl _ _)).drew (fun hHeld => ?_)
          replace hw := hw.drew
          refine wpAnyH_take (i := 0) (oi := ?ooq1) (v := ?vvq1) ?hiq1 (by kernel_rfl) (by kernel_rfl) (by kernel_rfl) ?hqq1 (Or.inl ⟨?hgq1, ?hyq1⟩) (by assumption) ?restq1
          case hiq1 => simp only [List.getElem?_toArray, List.getElem?_cons_zero, List.getElem?_cons_succ]; rfl
          case hqq1 => exact fun _ _ _ h => h
          case hgq1 => rfl
          case hyq1 =>
            intro wq hSw
            replace hx0 := keep_cell hSw hx0
            replace hx1 := keep_cell hSw hx1
            go_simp
            (try with_reducible rfl)
          (try simp only [Act.put, List.setIfInBounds_toArray, List.set_cons_zero, List.set_cons_succ])
          refine wpAnyH_take (i := 1) (oi := ?ooq2) (v := ?vvq2) ?hiq2 (by kernel_rfl) (by kernel_rfl) (by kernel_rfl) ?hqq2 (Or.inl ⟨?hgq2, ?hyq2⟩) (by assumption) ?restq2
          case hiq2 => simp only [List.getElem?_toArray, List.getElem?_cons_zero, List.getElem?_cons_succ]; rfl
          case hqq2 => exact fun _ _ _ h => h
          case hgq2 => rfl
          case hyq2 =>
            intro wq hSw
            replace hx0 := keep_cell hSw hx0
            replace hx1 := keep_cell hSw hx1
            go_simp
            (try with_reducible rfl)
          (try simp only [Act.put, List.setIfInBounds_toArray, List.set_cons_zero, List.set_cons_succ])
          refine wpAnyH_take (i := 3) (oi := ?ooq3) (v := ?vvq3) ?hiq3 (by kernel_rfl) (by kernel_rfl) (by kernel_rfl) ?hqq3 (Or.inl ⟨?hgq3, ?hyq3⟩) (by assumption) ?restq3
          case hiq3 => simp only [List.getElem?_toArray, List.getElem?_cons_zero, List.getElem?_cons_succ]; rfl
          case hqq3 => exact fun _ _ _ h => h
          case hgq3 => rfl
          case hyq3 =>
            intro wq hSw
            replace hx0 := keep_cell hSw hx0
            replace hx1 := keep_cell hSw hx1
            go_simp
            (try with_reducible rfl)
          (try simp only [Act.put, List.setIfInBounds_toArray, List.set_cons_zero, List.set_cons_succ])
          refine wpAnyH_ready (rs := [2]) (by kernel_rfl) (by simp) ?_
          refine AllReadyH.cons (i := 2) (o := ?ooq4) ?hoq4 (fun K hK => ?hstepq4) AllReadyH.nil
          case hoq4 => simp only [List.getElem?_toArray, List.getElem?_cons_zero, List.getElem?_cons_succ]; rfl
          go_simp
          refine (HCu.out _ (h.below hw) (k.below hw)).mono ?_
          rintro e1 wz ⟨A8, c8, rfl, ho8, hb⟩
          obtain ⟨gC, rfl, hgC, hrC⟩ := ho8.pos hC1.out
          have hgC2 : w.heap.size + 1 < gC := Nat.lt_of_lt_of_le hs1 hgC
          have hb0 : Below w1.heap.size w1 wz := ⟨hb.os, hb.tape, hb.output, hb.size, hb.block⟩
          replace hown := own_below hown hb0
          clear ho8 hgC hb0
          go_wp2_with fail
          refine hK.out _ _ (keep_below hb hHeld) (fun _ => ?_)
          clear hK K
          (try simp only [Act.put, List.setIfInBounds_toArray, List.set_cons_zero, List.set_cons_succ])
          refine wpAnyH_mono (S' := fun w' => Below wz.heap.size wz w') (fun _ h => keep_below h (keep_below hb hHeld)) _ _ _ _ ?_
          replace hw := keep_below hb hw
          replace hx0 := keep_cell hb hx0
          replace hx1 := keep_cell hb hx1
          clear hHeld hb
          have hHeld : Below wz.heap.size wz wz := (Below.refl _ _)
          refine wpAnyH_ready (rs := [4]) (by kernel_rfl) (by simp) ?_
          refine AllReadyH.cons (i := 4) (o := ?ooq5) ?hoq5 (fun K hK => ?hstepq5) AllReadyH.nil
          case hoq5 => simp only [List.getElem?_toArray, List.getElem?_cons_zero, List.getElem?_cons_succ]; rfl
          go_simp
          have hs2 := (hown.lt (w.heap.size + 1) rfl).2
          refine (HE.out _ (h.below hw)).mono ?_
          rintro e1 wz ⟨A7, c7, rfl, ho7, hb⟩
          replace hrC := hrC.below hb
          replace hown := own_below hown hb
          obtain ⟨gE, rfl, hgE, hrE⟩ := ho7.pos hE1.out
          have hgE2 : w.heap.size + 1 < gE := Nat.lt_of_lt_of_le hs2 hgE
          clear ho7 hgE hs2
          go_wp2_with fail
          refine hK.out _ _ (keep_below hb hHeld) (fun _ => ?_)
          clear hK K
          (try simp only [Act.put, List.setIfInBounds_toArray, List.set_cons_zero, List.set_cons_succ])
          refine wpAnyH_mono (S' := fun w' => Below wz.heap.size wz w') (fun _ h => keep_below h (keep_below hb hHeld)) _ _ _ _ ?_
          replace hw := keep_below hb hw
          replace hx0 := keep_cell hb hx0
          replace hx1 := keep_cell hb hx1
          clear hHeld hb
          have hHeld : Below wz.heap.size wz wz := (Below.refl _ _)
          refine wpAnyH_take (i := 5) (oi := ?ooq6) (v := ?vvq6) ?hiq6 (by kernel_rfl) (by kernel_rfl) (by kernel_rfl) ?hqq6 (Or.inl ⟨?hgq6, ?hyq6⟩) (by assumption) ?restq6
          case hiq6 => simp only [List.getElem?_toArray, List.getElem?_cons_zero, List.getElem?_cons_succ]; rfl
          case hqq6 => exact fun _ _ _ h => h
          case hgq6 => rfl
          case hyq6 =>
            intro wq hSw
            replace hx0 := keep_cell hSw hx0
            replace hx1 := keep_cell hSw hx1
            go_simp
            (try with_reducible rfl)
          (try simp only [Act.put, List.setIfInBounds_toArray, List.set_cons_zero, List.set_cons_succ])
          refine wpAnyH_take (i := 6) (oi := ?ooq7) (v := ?vvq7) ?hiq7 (by kernel_rfl) (by kernel_rfl) (by kernel_rfl) ?hqq7 (Or.inl ⟨?hgq7, ?hyq7⟩) (by assumption) ?restq7
          case hiq7 => simp only [List.getElem?_toArray, List.getElem?_cons_zero, List.getElem?_cons_succ]; rfl
          case hqq7 => exact fun _ _ _ h => h
          case hgq7 => rfl
          case hyq7 =>
            intro wq hSw
            replace hx0 := keep_cell hSw hx0
            replace hx1 := keep_cell hSw hx1
            go_simp
            (try with_reducible rfl)
          (try simp only [Act.put, List.setIfInBounds_toArray, List.set_cons_zero, List.set_cons_succ])
          clear hHeld
          refine wpAnyH_done (by kernel_rfl) ?_ _
          go_wp2
          go_loop [11] (fun i => ∃ k : Nat, k ≤ vs.length ∧ i = .int .i64 k ∧ Hid (∀ j, j < k → -999 ≤ nth vs j ∧ nth vs j ≤ 999)) (fun i => vs.length - (intOf i).toNat)
          case atStart => exact ⟨0, Nat.zero_le _, rfl, fun j hj => by omega⟩
          case round =>
            obtain ⟨j, hj, rfl, HA⟩ := hrel
            by_cases hlt : j < vs.length
            · obtain ⟨b, o, rfl, hc⟩ := (zv.below hw).at_ (j := j) hlt
              have i1 : (j : Int) < vs.length := by omega
              by_cases hzj : -999 ≤ nth vs j ∧ nth vs j ≤ 999
              · have HA' : Hid (∀ q, q < j + 1 → -999 ≤ nth vs q ∧ nth vs q ≤ 999) := fun q hq => by
                  by_cases e : q = j
                  · subst e; exact hzj
                  · exact HA.out q (by omega)
                go_wp2_with (go_at_call 115; refine (l1In_yes _ _ _ _ hzj.1 hzj.2).mono ?_; rintro e w' ⟨rfl, rfl⟩)
                go_round
                case rel => exact ⟨j + 1, by omega, by go_num, HA'⟩
                case measure => simp [intOf]; omega
              · go_wp2_with (go_at_call 115; refine (l1In_no _ _ _ _ hzj).mono ?_; rintro e w' ⟨rfl, rfl⟩)
                clear hown
                go_ret2
                exact ⟨_, _, rfl, .inr ⟨_, rfl, hw.size, ⟨#[], heap_alloc_new _ _, [], rfl⟩⟩, keep_below_alloc hw _⟩
            · exact absurd (allIn_yes fun q hq => HA.out q (by omega)) (by rw [HN4.out]; simp)
          
        case true =>
          have hO : pcOk xs ys d9 vs = true := by unfold pcOk ; simp [q1, q2, q3, q4]
          have hV_pcR := pcR_yes hO
          rw [hV_pcR]
          (try rw [hO])
          clear hO hV_pcR
          have HG1 := Lib.hid (fun W (h : IntS W A xs) (k : IntS W B ys) => l2Good_any A B c e xs ys W h k _hx _hy hn hm)
          rw [q1] at HG1
          have dn : ¬ (d9 < 0) := by have := of_decide_eq_true q2; omega
          have dn2 : decide (d9 < 0) = false := decide_eq_false dn
          have q3' := of_decide_eq_true q3
          have hd : ((vs.length : Int) != ((cutL xs ys d9).length : Int)) = false := by rw [bne_eq_false_iff_eq]; omega
          clear q3'
          
          have HCu := Lib.hid (fun W (h : IntS W A xs) (k : IntS W B ys) => l2CutAt_any q1 A B c e d9 W h k)
          have HE := Lib.hid (fun W (h : IntS W A xs) => l2Ends_any A B c ys.length e xs W h (by have := good_len q1; omega) (good_iff.1 q1).2.1 (good_root q1))
          have hE1 := Lib.hid (ends_pos q1)
          have hC1 := Lib.hid (cut_pos q1 (of_decide_eq_true q2))
          have hgl := (good_len q1).2.1
          have hel := ends_len xs
          have hE24 : (endsL xs).length ≤ 24 := by omega
          have HCA := Lib.hid (fun j (hj : j < (endsL xs).length) => by
            obtain ⟨y, h1, h2, h3⟩ := end_pos q1 hj
            obtain ⟨m, h4, h5, q, h6, h7, h8, h9⟩ := cut_at q1 (of_decide_eq_true q2) h2 h3
            have : ∃ y m : Nat, nth (endsL xs) j = y ∧ y < xs.length ∧ m < (cutL xs ys d9).length ∧ m < vs.length ∧ pcF xs ys d9 vs (nth (endsL xs) j) = nth vs m ∧ (∃ q : Nat, nth (cutL xs ys d9) m = q ∧ q < xs.length ∧ underB xs q y = true) ∧ ∀ k, k < m → ∃ z : Nat, nth (cutL xs ys d9) k = z ∧ z < xs.length ∧ underB xs z y = false := ⟨y, m, h1, h2, h5, by have := of_decide_eq_true q3; omega, by unfold pcF; rw [h1, h4, Int.toNat_natCast], ⟨q, h6, h7, h8⟩, h9⟩
            exact this)
          have HUn := Lib.hid (fun W (x y : Nat) (h : IntS W A xs) (hx : x < xs.length) (hy : y < xs.length) => l2Under_good q1 A B c e x y W h hx hy)
          have HAV := Lib.hid (allIn_iff.1 q4)
          have HMS := Lib.hid (fun i (h : i < (endsL xs).length) => mapI_succ (pcF xs ys d9 vs) (endsL xs) h)
          have HML := Lib.hid (fun i (h : i ≤ (endsL xs).length) => mapI_len (pcF xs ys d9 vs) (endsL xs) h)
          clear hel hgl
          generalize pcF xs ys d9 vs = f at *
          generalize cutL xs ys d9 = C at *
          generalize endsL xs = E at *
          clear q1 q2 q3 q4 _hx _hy _bv
          go_enter Try.func72, Try.ntmps72
          go_wp2_with fail
          refine (HG1.out _ ((h.alloc _).alloc _) ((k.alloc _).alloc _)).mono ?_
          rintro e1 w1 ⟨rfl, hb⟩
          have hx0 : w1.cell? ⟨w.heap.size, 0, none⟩ = some (.slice A xs.length c) := keep_cell hb (by simp)
          have hx1 : w1.cell? ⟨w.heap.size, 1, none⟩ = some (.slice B ys.length e) := keep_cell hb (by simp)
          have hown := own_below (own_empty _ (w.heap.size + 1) (w.heap.size + 1) (by simp) (by simp)) hb
          have hw : Below w.heap.size w w1 := below_alloc (below_alloc (hb))
          clear hb
          clear HG1
          have hs1 := (hown.lt (w.heap.size + 1) rfl).2
          go_wp2
          refine wp_region_held_drew (S := fun w' => Below w1.heap.size w1 w') (by kernel_rfl) ((Below.refl _ _)).drew (fun hHeld => ?_)
          replace hw := hw.drew
          refine wpAnyH_take (i := 0) (oi := ?oor1) (v := ?vvr1) ?hir1 (by kernel_rfl) (by kernel_rfl) (by kernel_rfl) ?hqr1 (Or.inl ⟨?hgr1, ?hyr1⟩) (by assumption) ?restr1
          case hir1 => simp only [List.getElem?_toArray, List.getElem?_cons_zero, List.getElem?_cons_succ]; rfl
          case hqr1 => exact fun _ _ _ h => h
          case hgr1 => rfl
          case hyr1 =>
            intro wq hSw
            replace hx0 := keep_cell hSw hx0
            replace hx1 := keep_cell hSw hx1
            go_simp
            (try with_reducible rfl)
          (try simp only [Act.put, List.setIfInBounds_toArray, List.set_cons_zero, List.set_cons_succ])
          refine wpAnyH_take (i := 1) (oi := ?oor2) (v := ?vvr2) ?hir2 (by kernel_rfl) (by kernel_rfl) (by kernel_rfl) ?hqr2 (Or.inl ⟨?hgr2, ?hyr2⟩) (by assumption) ?restr2
          case hir2 => simp only [List.getElem?_toArray, List.getElem?_cons_zero, List.getElem?_cons_succ]; rfl
          case hqr2 => exact fun _ _ _ h => h
          case hgr2 => rfl
          case hyr2 =>
            intro wq hSw
            replace hx0 := keep_cell hSw hx0
            replace hx1 := keep_cell hSw hx1
            go_simp
            (try with_reducible rfl)
          (try simp only [Act.put, List.setIfInBounds_toArray, List.set_cons_zero, List.set_cons_succ])
          refine wpAnyH_take (i := 3) (oi := ?oor3) (v := ?vvr3) ?hir3 (by kernel_rfl) (by kernel_rfl) (by kernel_rfl) ?hqr3 (Or.inl ⟨?hgr3, ?hyr3⟩) (by assumption) ?restr3
          case hir3 => simp only [List.getElem?_toArray, List.getElem?_cons_zero, List.getElem?_cons_succ]; rfl
          case hqr3 => exact fun _ _ _ h => h
          case hgr3 => rfl
          case hyr3 =>
            intro wq hSw
            replace hx0 := keep_cell hSw hx0
            replace hx1 := keep_cell hSw hx1
            go_simp
            (try with_reducible rfl)
          (try simp only [Act.put, List.setIfInBounds_toArray, List.set_cons_zero, List.set_cons_succ])
          refine wpAnyH_ready (rs := [2]) (by kernel_rfl) (by simp) ?_
          refine AllReadyH.cons (i := 2) (o := ?oor4) ?hor4 (fun K hK => ?hstepr4) AllReadyH.nil
          case hor4 => simp only [List.getElem?_toArray, List.getElem?_cons_zero, List.getElem?_cons_succ]; rfl
          go_simp
          refine (HCu.out _ (h.below hw) (k.below hw)).mono ?_
          rintro e1 wz ⟨A8, c8, rfl, ho8, hb⟩
          obtain ⟨gC, rfl, hgC, hrC⟩ := ho8.pos hC1.out
          have hgC2 : w.heap.size + 1 < gC := Nat.lt_of_lt_of_le hs1 hgC
          have hb0 : Below w1.heap.size w1 wz := ⟨hb.os, hb.tape, hb.output, hb.size, hb.block⟩
          replace hown := own_below hown hb0
          clear ho8 hgC hb0
          go_wp2_with fail
          refine hK.out _ _ (keep_below hb hHeld) (fun _ => ?_)
          clear hK K
          (try simp only [Act.put, List.setIfInBounds_toArray, List.set_cons_zero, List.set_cons_succ])
          refine wpAnyH_mono (S' := fun w' => Below wz.heap.size wz w') (fun _ h => keep_below h (keep_below hb hHeld)) _ _ _ _ ?_
          replace hw := keep_below hb hw
          replace hx0 := keep_cell hb hx0
          replace hx1 := keep_cell hb hx1
          clear hHeld hb
          have hHeld : Below wz.heap.size wz wz := (Below.refl _ _)
          refine wpAnyH_ready (rs := [4]) (by kernel_rfl) (by simp) ?_
          refine AllReadyH.cons (i := 4) (o := ?oor5) ?hor5 (fun K hK => ?hstepr5) AllReadyH.nil
          case hor5 => simp only [List.getElem?_toArray, List.getElem?_cons_zero, List.getElem?_cons_succ]; rfl
          go_simp
          have hs2 := (hown.lt (w.heap.size + 1) rfl).2
          refine (HE.out _ (h.below hw)).mono ?_
          rintro e1 wz ⟨A7, c7, rfl, ho7, hb⟩
          replace hrC := hrC.below hb
          replace hown := own_below hown hb
          obtain ⟨gE, rfl, hgE, hrE⟩ := ho7.pos hE1.out
          have hgE2 : w.heap.size + 1 < gE := Nat.lt_of_lt_of_le hs2 hgE
          clear ho7 hgE hs2
          go_wp2_with fail
          refine hK.out _ _ (keep_below hb hHeld) (fun _ => ?_)
          clear hK K
          (try simp only [Act.put, List.setIfInBounds_toArray, List.set_cons_zero, List.set_cons_succ])
          refine wpAnyH_mono (S' := fun w' => Below wz.heap.size wz w') (fun _ h => keep_below h (keep_below hb hHeld)) _ _ _ _ ?_
          replace hw := keep_below hb hw
          replace hx0 := keep_cell hb hx0
          replace hx1 := keep_cell hb hx1
          clear hHeld hb
          have hHeld : Below wz.heap.size wz wz := (Below.refl _ _)
          refine wpAnyH_take (i := 5) (oi := ?oor6) (v := ?vvr6) ?hir6 (by kernel_rfl) (by kernel_rfl) (by kernel_rfl) ?hqr6 (Or.inl ⟨?hgr6, ?hyr6⟩) (by assumption) ?restr6
          case hir6 => simp only [List.getElem?_toArray, List.getElem?_cons_zero, List.getElem?_cons_succ]; rfl
          case hqr6 => exact fun _ _ _ h => h
          case hgr6 => rfl
          case hyr6 =>
            intro wq hSw
            replace hx0 := keep_cell hSw hx0
            replace hx1 := keep_cell hSw hx1
            go_simp
            (try with_reducible rfl)
          (try simp only [Act.put, List.setIfInBounds_toArray, List.set_cons_zero, List.set_cons_succ])
          refine wpAnyH_take (i := 6) (oi := ?oor7) (v := ?vvr7) ?hir7 (by kernel_rfl) (by kernel_rfl) (by kernel_rfl) ?hqr7 (Or.inl ⟨?hgr7, ?hyr7⟩) (by assumption) ?restr7
          case hir7 => simp only [List.getElem?_toArray, List.getElem?_cons_zero, List.getElem?_cons_succ]; rfl
          case hqr7 => exact fun _ _ _ h => h
          case hgr7 => rfl
          case hyr7 =>
            intro wq hSw
            replace hx0 := keep_cell hSw hx0
            replace hx1 := keep_cell hSw hx1
            go_simp
            (try with_reducible rfl)
          (try simp only [Act.put, List.setIfInBounds_toArray, List.set_cons_zero, List.set_cons_succ])
          clear hHeld
          refine wpAnyH_done (by kernel_rfl) ?_ _
          go_wp2
          go_loop [11] (fun i => ∃ k : Nat, k ≤ vs.length ∧ i = .int .i64 k ∧ Hid (∀ j, j < k → -999 ≤ nth vs j ∧ nth vs j ≤ 999)) (fun i => vs.length - (intOf i).toNat)
          case atStart => exact ⟨0, Nat.zero_le _, rfl, fun j hj => by omega⟩
          case round =>
            obtain ⟨j, hj, rfl, HA⟩ := hrel
            by_cases hlt : j < vs.length
            · obtain ⟨b, o, rfl, hc⟩ := (zv.below hw).at_ (j := j) hlt
              have i1 : (j : Int) < vs.length := by omega
              by_cases hzj : -999 ≤ nth vs j ∧ nth vs j ≤ 999
              · have HA' : Hid (∀ q, q < j + 1 → -999 ≤ nth vs q ∧ nth vs q ≤ 999) := fun q hq => by
                  by_cases e : q = j
                  · subst e; exact hzj
                  · exact HA.out q (by omega)
                go_wp2_with (go_at_call 115; refine (l1In_yes _ _ _ _ hzj.1 hzj.2).mono ?_; rintro e w' ⟨rfl, rfl⟩)
                go_round
                case rel => exact ⟨j + 1, by omega, by go_num, HA'⟩
                case measure => simp [intOf]; omega
              · exact absurd (HAV.out j hlt) hzj
            · have hrr : j = vs.length := by omega
              subst hrr
              obtain ⟨i0, hi, hz0, hz1, hz2⟩ := info_parts info_int
              clear HA
              go_wp2
              go_loopw [8, 12] (fun v i wr => ∃ j : Nat, j ≤ E.length ∧ i = .int .i64 j ∧ wr.ownsRow (w.heap.size + 1) 3 1 v (mapI f E j).length (i64s (mapI f E j)) ∧ v.ownBlock ≠ some gC ∧ v.ownBlock ≠ some gE ∧ Row wr gC C ∧ Row wr gE E ∧ wr.cell? ⟨w.heap.size, 0, none⟩ = some (.slice A xs.length c) ∧ wr.cell? ⟨w.heap.size, 1, none⟩ = some (.slice B ys.length e) ∧ Below w.heap.size w wr) (fun _ i _ => E.length - (intOf i).toNat)
              case atStart => exact ⟨0, by omega, rfl, hown, by simp [Value.ownBlock]; omega, by simp [Value.ownBlock]; omega, hrC, hrE, hx0, hx1, hw⟩
              case round =>
                clear hown hrC hrE hx0 hx1 hw
                obtain ⟨j, hj, rfl, hown, hneC, hneE, hrC, hrE, hx0, hx1, hw⟩ := hrel
                by_cases hlt : j < E.length
                · obtain ⟨y, m, hy, hyn, hmC, hmv, hf, hq1, hk1⟩ := HCA.out j hlt
                  have hms := HMS.out j hlt
                  rw [hf] at hms
                  have HMJ := Lib.hid (HML.out j hj)
                  have HPX : Hid (i64s (mapI f E (j + 1)) = i64s (mapI f E j) ++ [Value.int .i64 (nth vs m)] ∧ (mapI f E (j + 1)).length = (mapI f E j).length + 1) := by rw [hms]; exact ⟨i64s_app _ _, by simp⟩
                  have hlen : (mapI f E j).length ≤ 24 := by rw [HMJ.out]; omega
                  have HY := Lib.hid hy
                  have HQ1 := Lib.hid hq1
                  have HK1 := Lib.hid hk1
                  have i0j : (j : Int) < E.length := by omega
                  clear hy hf hms hq1 hk1
                  generalize mapI f E j = L at *
                  go_wp2
                  go_loopw [13] (fun kv wq => ∃ q : Nat, q ≤ m ∧ kv = .int .i64 q ∧ wq.ownsRow (w.heap.size + 1) 3 1 u8 L.length (i64s L) ∧ Row wq gC C ∧ Row wq gE E ∧ wq.cell? ⟨w.heap.size, 0, none⟩ = some (.slice A xs.length c) ∧ wq.cell? ⟨w.heap.size, 1, none⟩ = some (.slice B ys.length e) ∧ Below w.heap.size w wq) (fun kv _ => m - (intOf kv).toNat)
                  case atStart => exact ⟨0, by omega, rfl, hown, hrC, hrE, hx0, hx1, hw⟩
                  case round =>
                    clear hown hrC hrE hx0 hx1 hw
                    obtain ⟨q, hq, rfl, hown, hrC, hrE, hx0, hx1, hw⟩ := hrel
                    have hcE := hrE.cell hlt
                    rw [HY.out] at hcE
                    have hcC := hrC.cell (j := q) (by omega)
                    have i1 : (q : Int) < C.length := by omega
                    by_cases hqm : q < m
                    · obtain ⟨z, hz1', hz2', hz3'⟩ := HK1.out q hqm
                      rw [hz1'] at hcC
                      have HC9 := Lib.hid (fun W (h : IntS W A xs) => HUn.out W z y h hz2' hyn)
                      rw [hz3'] at HC9
                      clear hz1' hz3'
                      go_wp2
                      go_still_tail 9, (by kernel_rfl)
                      change wpList _ _ _ _ _ wr.drew
                      go_wp2_with fail
                      refine (HC9.out _ (h.below hw).drew).mono ?_
                      rintro e1 w2 ⟨rfl, hb2⟩
                      replace hb2 : Below wr.heap.size wr w2 := ⟨hb2.os, hb2.tape, hb2.output, hb2.size, hb2.block⟩
                      go_wp2
                      go_roundw
                      case rel => exact ⟨q + 1, by omega, by go_num, own_below hown hb2, hrC.below hb2, hrE.below hb2, keep_cell hb2 hx0, keep_cell hb2 hx1, keep_below hb2 hw⟩
                      case measure => simp [intOf]; omega
                    · have hqe : q = m := by omega
                      subst hqe
                      obtain ⟨z, hz1', hz2', hz3'⟩ := HQ1.out
                      rw [hz1'] at hcC
                      have HC9 := Lib.hid (fun W (h : IntS W A xs) => HUn.out W z y h hz2' hyn)
                      rw [hz3'] at HC9
                      clear hz1' hz3'
                      go_wp2
                      go_still_tail 9, (by kernel_rfl)
                      change wpList _ _ _ _ _ wr.drew
                      go_wp2_with fail
                      refine (HC9.out _ (h.below hw).drew).mono ?_
                      rintro e1 w2 ⟨rfl, hb2⟩
                      replace hb2 : Below wr.heap.size wr w2 := ⟨hb2.os, hb2.tape, hb2.output, hb2.size, hb2.block⟩
                      replace hown := own_below hown hb2
                      replace hrC := hrC.below hb2
                      replace hrE := hrE.below hb2
                      replace hx0 := keep_cell hb2 hx0
                      replace hx1 := keep_cell hb2 hx1
                      replace hw := keep_below hb2 hw
                      obtain ⟨b9, o9, rfl, hc9⟩ := (zv.below hw).at_ (j := q) hmv
                      have i2 : (q : Int) < vs.length := by omega
                      have hlx := World.block_lt_of_cell? _ _ hx0
                      replace hlx : w.heap.size < w2.heap.size := hlx
                      clear hb2 HQ1 HK1
                      generalize nth vs q = v9 at *
                      go_wp2_with (at_builtin; (refine wpList_append_own_at _ rfl _ _ 22 rfl (w.heap.size + 1) 3 i0 (.int .i64 0) 1 8 Try.underlying22 hi hz0 hz1 hz2 rfl (by decide) _ _ _ rfl (hown.alloc _) ⟨w2.heap.size, 0, none⟩ 1 1 [.int .i64 (v9)] rfl rfl (cell_one_new _ _ _) (by simp [Value.oneCell']) (by unfold maxLen; omega) (by omega) (by simp; omega) ?_); intro v' w1 hown1 hgrow _ hat)
                      have hrC1 := (hrC.alloc _).grown hgrow (fun e => hneC e.symm)
                      have hrE1 := (hrE.alloc _).grown hgrow (fun e => hneE e.symm)
                      have hxx0 := grown_cell hgrow (p := ⟨w.heap.size, 0, none⟩) (by rw [World.cell?_alloc_lt _ _ _ hlx]; exact hx0) (own_ne (g := w.heap.size) hown (by omega))
                      have hxx1 := grown_cell hgrow (p := ⟨w.heap.size, 1, none⟩) (by rw [World.cell?_alloc_lt _ _ _ hlx]; exact hx1) (own_ne (g := w.heap.size) hown (by omega))
                      have hb3 : Below w.heap.size w w1 := Below.grown (hw.alloc hw.size _) hgrow (by simp; omega) (fun g hg => by have := (hown.lt g hg).1; omega)
                      have hg1 := hrC.lt
                      have hg2 := hrE.lt
                      have hne1 : v'.ownBlock ≠ some gC := by
                        rcases hat with e | e
                        · rw [e]; exact hneC
                        · rw [e]; simp; omega
                      have hne2 : v'.ownBlock ≠ some gE := by
                        rcases hat with e | e
                        · rw [e]; exact hneE
                        · rw [e]; simp; omega
                      rw [← HPX.out.1, ← HPX.out.2] at hown1
                      clear hown hgrow hrC hrE hw HPX hx0 hx1 hneC hneE hat
                      go_wp2
                      go_roundw
                      case rel => exact ⟨j + 1, by omega, by go_num, hown1, hne1, hne2, hrC1, hrE1, hxx0, hxx1, hb3⟩
                      case measure => simp only [intOf]; omega
                · have hkn : j = E.length := by omega
                  rw [hkn] at hown
                  obtain ⟨A', c', rfl, hO⟩ := own_form hown
                  clear hkn hown
                  go_wp2
                  go_ret2
                  exact ⟨A', c', rfl, hO.mono (by omega), hw⟩
end Go.Proofs.Ytombfbmcplefgaa
