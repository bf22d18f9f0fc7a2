/- Contracts: how often a process crosses on the way to each end. -/
import Derived.Test.YtkghljcahbkfdaaHigh
namespace Go.Proofs.Ytkghljcahbkfdaa
open Go.ChangeShapes Go.WideShapes Go.ChangeAt Go.RowKit

def crsS (lo hi : Int) (s : Int × Bool) (v : Int) : Int × Bool := if s.2 then (if hi ≤ v then (s.1 + 1, false) else s) else (s.1, decide (v ≤ lo))
def crsW (lo hi : Int) (ps W : List Int) : Nat → Int × Bool
  | 0 => (0, false)
  | k + 1 => crsS lo hi (crsW lo hi ps W k) (nth ps (nth W k).toNat)
theorem crsW_bd (lo hi : Int) (ps W : List Int) (k : Nat) : 0 ≤ (crsW lo hi ps W k).1 ∧ (crsW lo hi ps W k).1 ≤ k := by
  induction k with
  | zero => simp [crsW]
  | succ k ih =>
    rw [crsW]
    unfold crsS
    split
    · split
      · simp; omega
      · omega
    · simp; omega
theorem crs_out (lo hi a v : Int) (h : ¬ v ≤ lo) : crsS lo hi (a, false) v = (a, false) := by simp [crsS, h]
theorem crs_in (lo hi a v : Int) (h : v ≤ lo) : crsS lo hi (a, false) v = (a, true) := by simp [crsS, h]
theorem crs_up (lo hi a v : Int) (h : hi ≤ v) : crsS lo hi (a, true) v = (a + 1, false) := by simp [crsS, h]
theorem crs_stay (lo hi a v : Int) (h : ¬ hi ≤ v) : crsS lo hi (a, true) v = (a, true) := by simp [crsS, h]
def crossE (xs ps : List Int) (lo hi : Int) (y : Int) : Int := (crsW lo hi ps (wayL xs y.toNat) (wayL xs y.toNat).length).1
def crossL (xs ps : List Int) (lo hi : Int) : List Int := mapI (crossE xs ps lo hi) (endsL xs) (endsL xs).length
noncomputable def crossOk (xs ys ps : List Int) (lo hi : Int) : Bool := good xs ys && isProc xs.length ps && decide (lo < hi)
noncomputable def crossR (xs ys ps : List Int) (lo hi : Int) : List Int := if crossOk xs ys ps lo hi then crossL xs ps lo hi else []
theorem crossR_no {xs ys ps : List Int} {lo hi : Int} (h : crossOk xs ys ps lo hi = false) : crossR xs ys ps lo hi = [] := by unfold crossR; rw [h]; rfl
theorem crossR_yes {xs ys ps : List Int} {lo hi : Int} (h : crossOk xs ys ps lo hi = true) : crossR xs ys ps lo hi = crossL xs ps lo hi := by unfold crossR; rw [h]; rfl
theorem crossR_len (xs ys ps : List Int) (lo hi : Int) (hn : xs.length ≤ 1048576) : (crossR xs ys ps lo hi).length ≤ 2000000 := by
  unfold crossR; split
  · unfold crossL; rw [mapI_len _ _ (Nat.le_refl _)]; have := ends_len xs; omega
  · simp
set_option maxHeartbeats 1000000 in
set_option maxRecDepth 100000 in
theorem specCrossings_any (A B : Option Addr) (c e : Nat) (xs ys : List Int) (P : Option Addr) (cp : Nat) (ps : List Int) (lw9 : Int) (up9 : Int) (w : World) (h : IntS w A xs) (k : IntS w B ys) (zp : IntS w P ps) (_hx : Bd xs) (_hy : Bd ys) (_bp : Bd ps) (_hlw9 : -9223372036854775808 ≤ lw9 ∧ lw9 ≤ 9223372036854775807) (_hup9 : -9223372036854775808 ≤ up9 ∧ up9 ≤ 9223372036854775807) (hn : xs.length ≤ 1048576) (hm : ys.length ≤ 1048576) (lp : ps.length ≤ 1048576) :
    Calls Try.prog 47 #[.agg #[.slice A xs.length c, .slice B ys.length e], .slice P ps.length cp, .int .i64 lw9, .int .i64 up9] w (RetIB w (crossR xs ys ps lw9 up9) (crossOk xs ys ps lw9 up9)) := by
  obtain ⟨r1, q1⟩ : ∃ r, (good xs ys && isProc xs.length ps) = r := ⟨_, rfl⟩
  cases r1
  case false =>
    have hO : crossOk xs ys ps lw9 up9 = false := by unfold crossOk ; simp [q1]
    have hV_crossR := crossR_no hO
    rw [hV_crossR]
    rw [hO]
    clear hO hV_crossR
    have HG1 := Lib.hid (fun W (h : IntS W A xs) (k : IntS W B ys) (zp : IntS W P ps) => l3Good_any A B P c e cp xs ys ps W h k zp _hx _hy hn hm lp)
    rw [q1] at HG1
    clear q1 _hx _hy _bp
    go_enter Try.func47, Try.ntmps47
    go_wp2_with fail
    refine (HG1.out _ ((h.alloc _).alloc _) ((k.alloc _).alloc _) ((zp.alloc _).alloc _)).mono ?_
    rintro e1 w1 ⟨rfl, hb⟩
    have hx0 : w1.cell? ⟨w.heap.size, 0, none⟩ = some (.slice A xs.length c) := keep_cell hb (by simp)
    have hx1 : w1.cell? ⟨w.heap.size, 1, none⟩ = some (.slice B ys.length e) := keep_cell hb (by simp)
    have hown := own_below (own_empty _ (w.heap.size + 1) (w.heap.size + 1) (by simp) (by simp)) hb
    have hw : Below w.heap.size w w1 := below_alloc (below_alloc (hb))
    clear hb
    obtain ⟨A', c', hv, hO⟩ := own_form (xs := []) hown
    cases hv
    clear hown
    go_wp2
    go_ret2
    exact ⟨_, _, rfl, hO.mono (by omega), hw⟩
  case true =>
    obtain ⟨r2, q2⟩ : ∃ r, (decide (lw9 < up9)) = r := ⟨_, rfl⟩
    cases r2
    case false =>
      have hO : crossOk xs ys ps lw9 up9 = false := by unfold crossOk ; simp [q1, q2]
      have hV_crossR := crossR_no hO
      rw [hV_crossR]
      rw [hO]
      clear hO hV_crossR
      have HG1 := Lib.hid (fun W (h : IntS W A xs) (k : IntS W B ys) (zp : IntS W P ps) => l3Good_any A B P c e cp xs ys ps W h k zp _hx _hy hn hm lp)
      rw [q1] at HG1
      have hd : up9 ≤ lw9 := by have := of_decide_eq_false q2; omega
      clear q1 q2 _hx _hy _bp
      go_enter Try.func47, Try.ntmps47
      go_wp2_with fail
      refine (HG1.out _ ((h.alloc _).alloc _) ((k.alloc _).alloc _) ((zp.alloc _).alloc _)).mono ?_
      rintro e1 w1 ⟨rfl, hb⟩
      have hx0 : w1.cell? ⟨w.heap.size, 0, none⟩ = some (.slice A xs.length c) := keep_cell hb (by simp)
      have hx1 : w1.cell? ⟨w.heap.size, 1, none⟩ = some (.slice B ys.length e) := keep_cell hb (by simp)
      have hown := own_below (own_empty _ (w.heap.size + 1) (w.heap.size + 1) (by simp) (by simp)) hb
      have hw : Below w.heap.size w w1 := below_alloc (below_alloc (hb))
      clear hb
      obtain ⟨A', c', hv, hO⟩ := own_form (xs := []) hown
      cases hv
      clear hown
      go_wp2
      go_ret2
      exact ⟨_, _, rfl, hO.mono (by omega), hw⟩
    case true =>
      have hO : crossOk xs ys ps lw9 up9 = true := by unfold crossOk ; simp [q1, q2]
      have hV_crossR := crossR_yes hO
      rw [hV_crossR]
      rw [hO]
      clear hO hV_crossR
      have HG1 := Lib.hid (fun W (h : IntS W A xs) (k : IntS W B ys) (zp : IntS W P ps) => l3Good_any A B P c e cp xs ys ps W h k zp _hx _hy hn hm lp)
      rw [q1] at HG1
      have hd : lw9 < up9 := of_decide_eq_true q2
      have hgl := good_len (Bool.and_eq_true_iff.1 q1).1
      have hU := good_upL (Bool.and_eq_true_iff.1 q1).1
      have hp := isProc_iff (Bool.and_eq_true_iff.1 q1).2
      have HW := Lib.hid (fun W (h : IntS W A xs) (x : Nat) (hx : x < xs.length) => l2Way_any (Bool.and_eq_true_iff.1 q1).1 A B c ys.length e x W h hx)
      have HE := Lib.hid (fun W (h : IntS W A xs) => l2Ends_any A B c ys.length e xs W h (by omega) (good_iff.1 (Bool.and_eq_true_iff.1 q1).1).2.1 (good_root (Bool.and_eq_true_iff.1 q1).1))
      have HM : Hid (∀ y, y < xs.length → (wayL xs y).length ≤ 24 ∧ ∀ j, j < (wayL xs y).length → ∃ q : Nat, nth (wayL xs y) j = q ∧ q < xs.length) := fun y hy => ⟨by have := way_len xs y; omega, fun j hj => by obtain ⟨q, h1, h2⟩ := way_mem hU hy hj; exact ⟨q, h1, by omega⟩⟩
      have HEM : Hid (∀ j, j < (endsL xs).length → ∃ y : Nat, nth (endsL xs) j = y ∧ y < xs.length) := fun j hj => by obtain ⟨y, h1, h2, _⟩ := ends_mem hj; exact ⟨y, h1, h2⟩
      have HB := Lib.hid hp.2
      have hel := ends_len xs
      have hep := ends_pos (Bool.and_eq_true_iff.1 q1).1
      obtain ⟨n, e1⟩ : ∃ n, xs.length = n := ⟨_, rfl⟩
      have e2 : ys.length = n := by rw [hgl.2.2]; exact e1
      have e3 : ps.length = n := by rw [hp.1]; exact e1
      clear hp hU
      simp only [e1, e2, e3] at HG1 HW HE HM HEM hn hm lp hgl hel ⊢
      have HN := Lib.hid e1.symm
      have HP := Lib.hid e3.symm
      obtain ⟨hgl1, hgl2, _⟩ := hgl
      clear e1 e2 e3
      unfold crossL
      have HF : Hid (∀ y : Nat, crossE xs ps lw9 up9 y = (crsW lw9 up9 ps (wayL xs y) (wayL xs y).length).1) := fun y => rfl
      generalize crossE xs ps lw9 up9 = f at *
      have HMS := Lib.hid (fun i (h : i < (endsL xs).length) => mapI_succ f (endsL xs) h)
      have HML := Lib.hid (fun i (h : i ≤ (endsL xs).length) => mapI_len f (endsL xs) h)
      generalize endsL xs = E at *
      clear q1 q2 _hx _hy _bp
      go_enter Try.func47, Try.ntmps47
      go_wp2_with fail
      refine (HG1.out _ ((h.alloc _).alloc _) ((k.alloc _).alloc _) ((zp.alloc _).alloc _)).mono ?_
      rintro e1 w1 ⟨rfl, hb⟩
      have hx0 : w1.cell? ⟨w.heap.size, 0, none⟩ = some (.slice A n c) := keep_cell hb (by simp)
      have hx1 : w1.cell? ⟨w.heap.size, 1, none⟩ = some (.slice B n e) := keep_cell hb (by simp)
      have hown := own_below (own_empty _ (w.heap.size + 1) (w.heap.size + 1) (by simp) (by simp)) hb
      have hw : Below w.heap.size w w1 := below_alloc (below_alloc (hb))
      clear hb
      clear HG1
      obtain ⟨i0, hi, hz0, hz1, hz2⟩ := info_parts info_int
      have hs1 := (hown.lt (w.heap.size + 1) rfl).2
      have hn0 : 0 < n := by omega
      go_wp2_with fail
      refine (HE.out _ (h.below hw)).mono ?_
      rintro e1 w2 ⟨A1, c1, rfl, ho, hb2⟩
      replace hx0 := keep_cell hb2 hx0
      replace hx1 := keep_cell hb2 hx1
      replace hown := own_below hown hb2
      replace hw := keep_below hb2 hw
      clear hb2
      obtain ⟨gE, rfl, hgE, hE⟩ := ho.pos hep
      have hgE' : w.heap.size + 1 < gE := by omega
      clear ho HE hgE hs1
      go_wp2
      go_loopw [10, 12] (fun v i wr => ∃ j : Nat, j ≤ E.length ∧ i = .int .i64 j ∧ wr.ownsRow (w.heap.size + 1) 3 1 v (mapI f E j).length (i64s (mapI f E j)) ∧ v.ownBlock ≠ some gE ∧ Row wr gE E ∧ wr.cell? ⟨w.heap.size, 0, none⟩ = some (.slice A n c) ∧ wr.cell? ⟨w.heap.size, 1, none⟩ = some (.slice B n e) ∧ Below w.heap.size w wr) (fun _ i _ => E.length - (intOf i).toNat)
      case atStart => exact ⟨0, by omega, rfl, hown, by simp [Value.ownBlock]; omega, hE, hx0, hx1, hw⟩
      case round =>
        clear hown hE hx0 hx1 hw
        obtain ⟨j, hj, rfl, hown, hne, hE, hx0, hx1, hw⟩ := hrel
        by_cases hlt : j < E.length
        · obtain ⟨y, hy, hyn⟩ := HEM.out j hlt
          have hcE := hE.cell hlt
          rw [hy] at hcE
          have hlt' : (j : Int) < E.length := by omega
          have hms := HMS.out j hlt
          rw [hy, HF.out] at hms
          obtain ⟨hwl, hwm⟩ := HM.out y hyn
          have HWM := Lib.hid hwm
          have HWY := Lib.hid (fun W (h : IntS W A xs) => HW.out W h y hyn)
          have HMJ := Lib.hid (HML.out j hj)
          have HMS' := Lib.hid hms
          clear hy hms hwm
          generalize wayL xs y = K at *
          go_wp2
          go_still_tail 5, (by kernel_rfl)
          change wpList _ _ _ _ _ wr.drew
          go_wp2_with fail
          refine (HWY.out _ (h.below hw).drew).mono ?_
          rintro e1 w2 ⟨A2, c2, rfl, ho2, hb2⟩
          replace hb2 : Below wr.heap.size wr w2 := ⟨hb2.os, hb2.tape, hb2.output, hb2.size, hb2.block⟩
          replace hown := own_below hown hb2
          replace hE := hE.below hb2
          replace hx0 := keep_cell hb2 hx0
          replace hx1 := keep_cell hb2 hx1
          replace hw := keep_below hb2 hw
          have hI := ho2.ints
          clear hb2 ho2
          go_wp2
          go_loop [14, 15, 16] (fun mv bv kv => ∃ q : Nat, q ≤ K.length ∧ kv = .int .i64 q ∧ mv = .int .i64 (crsW lw9 up9 ps K q).1 ∧ bv = .bool (crsW lw9 up9 ps K q).2) (fun _ _ kv => K.length - (intOf kv).toNat)
          case atStart => exact ⟨0, by omega, rfl, rfl, rfl⟩
          case round =>
            obtain ⟨q, hq, rfl, rfl, rfl⟩ := hrel
            by_cases hlq : q < K.length
            · obtain ⟨b2, o2, rfl, hcK⟩ := hI.at_ hlq
              obtain ⟨z, hz, hzn⟩ := HWM.out q hlq
              rw [hz] at hcK
              obtain ⟨b4, o4, rfl, hcz⟩ := (zp.below hw).at_ (j := z) (by rw [← HP.out]; exact hzn)
              have HMX : Hid (crsW lw9 up9 ps K (q + 1) = crsS lw9 up9 (crsW lw9 up9 ps K q) (nth ps z)) := by show crsS _ _ _ _ = _; rw [hz]; rfl
              have hbd := crsW_bd lw9 up9 ps K q
              clear hz
              generalize nth ps z = v at *
              generalize crsW lw9 up9 ps K q = s at *
              obtain ⟨a, b⟩ := s
              simp only at hbd
              cases b
              · by_cases hv : v ≤ lw9
                · have hx := crs_in lw9 up9 a v hv
                  have HX : Hid (crsW lw9 up9 ps K (q + 1) = (a, true)) := by show _ = _; rw [HMX.out, hx]
                  clear hx HMX
                  go_wp2
                  go_round
                  case rel => exact ⟨q + 1, by omega, by go_num, by rw [HX.out], by rw [HX.out]⟩
                  case measure => simp [intOf]; omega
                · have hx := crs_out lw9 up9 a v hv
                  have HX : Hid (crsW lw9 up9 ps K (q + 1) = (a, false)) := by show _ = _; rw [HMX.out, hx]
                  clear hx HMX
                  go_wp2
                  go_round
                  case rel => exact ⟨q + 1, by omega, by go_num, by rw [HX.out], by rw [HX.out]⟩
                  case measure => simp [intOf]; omega
              · by_cases hv : up9 ≤ v
                · have hx := crs_up lw9 up9 a v hv
                  have hv2 : ¬ v ≤ lw9 := by omega
                  have HX : Hid (crsW lw9 up9 ps K (q + 1) = (a + 1, false)) := by show _ = _; rw [HMX.out, hx]
                  clear hx HMX
                  go_wp2
                  go_round
                  case rel => exact ⟨q + 1, by omega, by go_num, by rw [HX.out], by rw [HX.out]⟩
                  case measure => simp [intOf]; omega
                · have hx := crs_stay lw9 up9 a v hv
                  have HX : Hid (crsW lw9 up9 ps K (q + 1) = (a, true)) := by show _ = _; rw [HMX.out, hx]
                  clear hx HMX
                  go_wp2
                  go_round
                  case rel => exact ⟨q + 1, by omega, by go_num, by rw [HX.out], by rw [HX.out]⟩
                  case measure => simp [intOf]; omega
            · have hqe : q = K.length := by omega
              subst hqe
              generalize (crsW lw9 up9 ps K K.length).1 = v at *
              have hlm := HMJ.out
              have HPX : Hid (i64s (mapI f E (j + 1)) = i64s (mapI f E j) ++ [Value.int .i64 v] ∧ (mapI f E (j + 1)).length = (mapI f E j).length + 1) := by rw [HMS'.out]; exact ⟨i64s_app _ _, by simp⟩
              have hlen : (mapI f E j).length ≤ 24 := by rw [hlm]; omega
              clear hlm
              generalize mapI f E j = L at *
              have hlx := World.block_lt_of_cell? _ _ hx0
              replace hlx : w.heap.size < w2.heap.size := hlx
              go_wp2_with (at_builtin; (refine wpList_append_own_at _ rfl _ _ 22 rfl (w.heap.size + 1) 3 i0 (.int .i64 0) 1 8 Try.underlying22 hi hz0 hz1 hz2 rfl (by decide) _ _ _ rfl (hown.alloc _) ⟨w2.heap.size, 0, none⟩ 1 1 [.int .i64 (v)] rfl rfl (cell_one_new _ _ _) (by simp [Value.oneCell']) (by unfold maxLen; omega) (by omega) (by simp; omega) ?_); intro v' w1 hown1 hgrow _ hat)
              have hrow1 := (hE.alloc (.cells #[.int .i64 v] 3)).grown hgrow (fun e => hne e.symm)
              have hxx0 := grown_cell hgrow (p := ⟨w.heap.size, 0, none⟩) (by rw [World.cell?_alloc_lt _ _ _ hlx]; exact hx0) (own_ne (g := w.heap.size) hown (by omega))
              have hxx1 := grown_cell hgrow (p := ⟨w.heap.size, 1, none⟩) (by rw [World.cell?_alloc_lt _ _ _ hlx]; exact hx1) (own_ne (g := w.heap.size) hown (by omega))
              have hb3 : Below w.heap.size w w1 := Below.grown (hw.alloc hw.size _) hgrow (by simp; omega) (fun g hg => by have := (hown.lt g hg).1; omega)
              have hgl := hE.lt
              have hne1 : v'.ownBlock ≠ some gE := by
                rcases hat with e | e
                · rw [e]; exact hne
                · rw [e]; simp; omega
              rw [← HPX.out.1, ← HPX.out.2] at hown1
              clear hown hgrow hE hw HPX hx0 hx1 hne hat hI
              go_wp2
              go_roundw
              case rel => exact ⟨j + 1, by omega, by go_num, hown1, hne1, hrow1, hxx0, hxx1, hb3⟩
              case measure => simp only [intOf]; omega
        · have hkn : j = E.length := by omega
          rw [hkn] at hown
          obtain ⟨A', c', rfl, hO⟩ := own_form hown
          clear hkn hown
          go_wp2
          go_ret2
          exact ⟨A', c', rfl, hO.mono (by omega), hw⟩
set_option maxHeartbeats 1000000 in
set_option maxRecDepth 100000 in
theorem implCrossings_any (A B : Option Addr) (c e : Nat) (xs ys : List Int) (P : Option Addr) (cp : Nat) (ps : List Int) (lw9 : Int) (up9 : Int) (w : World) (h : IntS w A xs) (k : IntS w B ys) (zp : IntS w P ps) (_hx : Bd xs) (_hy : Bd ys) (_bp : Bd ps) (_hlw9 : -9223372036854775808 ≤ lw9 ∧ lw9 ≤ 9223372036854775807) (_hup9 : -9223372036854775808 ≤ up9 ∧ up9 ≤ 9223372036854775807) (hn : xs.length ≤ 1048576) (hm : ys.length ≤ 1048576) (lp : ps.length ≤ 1048576) :
    Calls Try.prog 48 #[.agg #[.slice A xs.length c, .slice B ys.length e], .slice P ps.length cp, .int .i64 lw9, .int .i64 up9] w (RetIB w (crossR xs ys ps lw9 up9) (crossOk xs ys ps lw9 up9)) := by
  obtain ⟨r1, q1⟩ : ∃ r, (good xs ys) = r := ⟨_, rfl⟩
  cases r1
  case false =>
    have hO : crossOk xs ys ps lw9 up9 = false := by unfold crossOk ; simp [q1]
    have hV_crossR := crossR_no hO
    rw [hV_crossR]
    rw [hO]
    clear hO hV_crossR
    have HG1 := Lib.hid (fun W (h : IntS W A xs) (k : IntS W B ys) => isTree_any A B c e xs ys W h k _hx _hy hn hm)
    rw [q1] at HG1
    clear q1 _hx _hy _bp
    go_enter Try.func48, Try.ntmps48
    go_wp2_with fail
    refine (HG1.out _ (h.alloc _) (k.alloc _)).mono ?_
    rintro e1 w1 ⟨rfl, hb⟩
    have hx0 : w1.cell? ⟨w.heap.size, 0, none⟩ = some (.slice A xs.length c) := keep_cell hb (by simp)
    have hx1 : w1.cell? ⟨w.heap.size, 1, none⟩ = some (.slice B ys.length e) := keep_cell hb (by simp)
    have hw : Below w.heap.size w w1 := below_alloc (hb)
    clear hb
    go_wp2
    go_ret2
    exact ⟨none, 0, rfl, .inl ⟨rfl, rfl⟩, hw⟩
  case true =>
    obtain ⟨r2, q2⟩ : ∃ r, (isProc xs.length ps) = r := ⟨_, rfl⟩
    cases r2
    case false =>
      have hO : crossOk xs ys ps lw9 up9 = false := by unfold crossOk ; simp [q1, q2]
      have hV_crossR := crossR_no hO
      rw [hV_crossR]
      rw [hO]
      clear hO hV_crossR
      have HG1 := Lib.hid (fun W (h : IntS W A xs) (k : IntS W B ys) => isTree_any A B c e xs ys W h k _hx _hy hn hm)
      rw [q1] at HG1
      have HG2 := Lib.hid (fun W (zp : IntS W P ps) => isProcess_any A B P c ys.length e cp xs.length ps W zp lp hn)
      rw [q2] at HG2
      clear q1 q2 _hx _hy _bp
      go_enter Try.func48, Try.ntmps48
      go_wp2_with fail
      refine (HG1.out _ (h.alloc _) (k.alloc _)).mono ?_
      rintro e1 w1 ⟨rfl, hb⟩
      have hx0 : w1.cell? ⟨w.heap.size, 0, none⟩ = some (.slice A xs.length c) := keep_cell hb (by simp)
      have hx1 : w1.cell? ⟨w.heap.size, 1, none⟩ = some (.slice B ys.length e) := keep_cell hb (by simp)
      have hw : Below w.heap.size w w1 := below_alloc (hb)
      clear hb
      go_wp2_with fail
      refine (HG2.out _ (zp.below hw)).mono ?_
      rintro e1 w2 ⟨rfl, hb⟩
      replace hx0 := keep_cell hb hx0
      replace hx1 := keep_cell hb hx1
      replace hw := keep_below hb hw
      clear hb
      go_wp2
      go_ret2
      exact ⟨none, 0, rfl, .inl ⟨rfl, rfl⟩, hw⟩
    case true =>
      obtain ⟨r3, q3⟩ : ∃ r, (decide (lw9 < up9)) = r := ⟨_, rfl⟩
      cases r3
      case false =>
        have hO : crossOk xs ys ps lw9 up9 = false := by unfold crossOk ; simp [q1, q2, q3]
        have hV_crossR := crossR_no hO
        rw [hV_crossR]
        rw [hO]
        clear hO hV_crossR
        have HG1 := Lib.hid (fun W (h : IntS W A xs) (k : IntS W B ys) => isTree_any A B c e xs ys W h k _hx _hy hn hm)
        rw [q1] at HG1
        have HG2 := Lib.hid (fun W (zp : IntS W P ps) => isProcess_any A B P c ys.length e cp xs.length ps W zp lp hn)
        rw [q2] at HG2
        have hd : up9 ≤ lw9 := by have := of_decide_eq_false q3; omega
        clear q1 q2 q3 _hx _hy _bp
        go_enter Try.func48, Try.ntmps48
        go_wp2_with fail
        refine (HG1.out _ (h.alloc _) (k.alloc _)).mono ?_
        rintro e1 w1 ⟨rfl, hb⟩
        have hx0 : w1.cell? ⟨w.heap.size, 0, none⟩ = some (.slice A xs.length c) := keep_cell hb (by simp)
        have hx1 : w1.cell? ⟨w.heap.size, 1, none⟩ = some (.slice B ys.length e) := keep_cell hb (by simp)
        have hw : Below w.heap.size w w1 := below_alloc (hb)
        clear hb
        go_wp2_with fail
        refine (HG2.out _ (zp.below hw)).mono ?_
        rintro e1 w2 ⟨rfl, hb⟩
        replace hx0 := keep_cell hb hx0
        replace hx1 := keep_cell hb hx1
        replace hw := keep_below hb hw
        clear hb
        go_wp2
        go_ret2
        exact ⟨none, 0, rfl, .inl ⟨rfl, rfl⟩, hw⟩
      case true =>
        have hO : crossOk xs ys ps lw9 up9 = true := by unfold crossOk ; simp [q1, q2, q3]
        have hV_crossR := crossR_yes hO
        rw [hV_crossR]
        rw [hO]
        clear hO hV_crossR
        have HG1 := Lib.hid (fun W (h : IntS W A xs) (k : IntS W B ys) => isTree_any A B c e xs ys W h k _hx _hy hn hm)
        rw [q1] at HG1
        have HG2 := Lib.hid (fun W (zp : IntS W P ps) => isProcess_any A B P c ys.length e cp xs.length ps W zp lp hn)
        rw [q2] at HG2
        have hd : lw9 < up9 := of_decide_eq_true q3
        have hgl := good_len q1
        have hU := good_upL q1
        have hp := isProc_iff q2
        have HW := Lib.hid (fun W (h : IntS W A xs) (x : Nat) (hx : x < xs.length) => way_any q1 A B c ys.length e x W h hx)
        have HE := Lib.hid (fun W (h : IntS W A xs) => ends_any A B c ys.length e xs W h (by omega) (good_iff.1 q1).2.1 (good_root q1))
        have HM : Hid (∀ y, y < xs.length → (wayL xs y).length ≤ 24 ∧ ∀ j, j < (wayL xs y).length → ∃ q : Nat, nth (wayL xs y) j = q ∧ q < xs.length) := fun y hy => ⟨by have := way_len xs y; omega, fun j hj => by obtain ⟨q, h1, h2⟩ := way_mem hU hy hj; exact ⟨q, h1, by omega⟩⟩
        have HEM : Hid (∀ j, j < (endsL xs).length → ∃ y : Nat, nth (endsL xs) j = y ∧ y < xs.length) := fun j hj => by obtain ⟨y, h1, h2, _⟩ := ends_mem hj; exact ⟨y, h1, h2⟩
        have HB := Lib.hid hp.2
        have hel := ends_len xs
        have hep := ends_pos q1
        obtain ⟨n, e1⟩ : ∃ n, xs.length = n := ⟨_, rfl⟩
        have e2 : ys.length = n := by rw [hgl.2.2]; exact e1
        have e3 : ps.length = n := by rw [hp.1]; exact e1
        clear hp hU
        simp only [e1, e2, e3] at HG1 HG2 HW HE HM HEM hn hm lp hgl hel ⊢
        have HN := Lib.hid e1.symm
        have HP := Lib.hid e3.symm
        obtain ⟨hgl1, hgl2, _⟩ := hgl
        clear e1 e2 e3
        unfold crossL
        have HF : Hid (∀ y : Nat, crossE xs ps lw9 up9 y = (crsW lw9 up9 ps (wayL xs y) (wayL xs y).length).1) := fun y => rfl
        generalize crossE xs ps lw9 up9 = f at *
        have HMS := Lib.hid (fun i (h : i < (endsL xs).length) => mapI_succ f (endsL xs) h)
        have HML := Lib.hid (fun i (h : i ≤ (endsL xs).length) => mapI_len f (endsL xs) h)
        generalize endsL xs = E at *
        clear q1 q2 q3 _hx _hy _bp
        go_enter Try.func48, Try.ntmps48
        go_wp2_with fail
        refine (HG1.out _ (h.alloc _) (k.alloc _)).mono ?_
        rintro e1 w1 ⟨rfl, hb⟩
        have hx0 : w1.cell? ⟨w.heap.size, 0, none⟩ = some (.slice A n c) := keep_cell hb (by simp)
        have hx1 : w1.cell? ⟨w.heap.size, 1, none⟩ = some (.slice B n e) := keep_cell hb (by simp)
        have hw : Below w.heap.size w w1 := below_alloc (hb)
        clear hb
        go_wp2_with fail
        refine (HG2.out _ (zp.below hw)).mono ?_
        rintro e1 w2 ⟨rfl, hb⟩
        replace hx0 := keep_cell hb hx0
        replace hx1 := keep_cell hb hx1
        replace hw := keep_below hb hw
        clear hb
        clear HG1 HG2
        obtain ⟨i0, hi, hz0, hz1, hz2⟩ := info_parts info_int
        have hsW := World.block_lt_of_cell? _ _ hx0
        replace hsW : w.heap.size < w2.heap.size := hsW
        have hown := own_empty w2 (w.heap.size + 1) w2.heap.size rfl hsW
        have hn0 : 0 < n := by omega
        go_wp2_with fail
        refine (HE.out _ ((h.below hw).alloc _)).mono ?_
        rintro e1 w9 ⟨A1, c1, rfl, ho, hb2⟩
        replace hx0 : w9.cell? ⟨w.heap.size, 0, none⟩ = some (.slice A n c) := keep_cell hb2 (by rw [World.cell?_alloc_lt _ _ _ hsW]; exact hx0)
        replace hx1 : w9.cell? ⟨w.heap.size, 1, none⟩ = some (.slice B n e) := keep_cell hb2 (by rw [World.cell?_alloc_lt _ _ _ hsW]; exact hx1)
        replace hown := own_below hown hb2
        replace hw := keep_below hb2 (keep_below_alloc hw _)
        clear hb2
        obtain ⟨gE, rfl, hgE, hE⟩ := ho.pos hep
        have hgE' : w2.heap.size < gE := by simp at hgE; omega
        clear ho HE hgE
        go_wp2
        go_loopw [10, 35] (fun v i wr => ∃ j : Nat, j ≤ E.length ∧ i = .int .i64 j ∧ wr.ownsRow (w.heap.size + 1) 3 1 v (mapI f E j).length (i64s (mapI f E j)) ∧ v.ownBlock ≠ some gE ∧ Row wr gE E ∧ wr.cell? ⟨w.heap.size, 0, none⟩ = some (.slice A n c) ∧ wr.cell? ⟨w.heap.size, 1, none⟩ = some (.slice B n e) ∧ Below w.heap.size w wr) (fun _ i _ => E.length - (intOf i).toNat)
        case atStart => exact ⟨0, by omega, rfl, hown, by simp [Value.ownBlock]; omega, hE, hx0, hx1, hw⟩
        case round =>
          clear hown hE hx0 hx1 hw
          obtain ⟨j, hj, rfl, hown, hne, hE, hx0, hx1, hw⟩ := hrel
          by_cases hlt : j < E.length
          · obtain ⟨y, hy, hyn⟩ := HEM.out j hlt
            have hcE := hE.cell hlt
            rw [hy] at hcE
            have hlt' : (j : Int) < E.length := by omega
            have hms := HMS.out j hlt
            rw [hy, HF.out] at hms
            obtain ⟨hwl, hwm⟩ := HM.out y hyn
            have HWM := Lib.hid hwm
            have HWY := Lib.hid (fun W (h : IntS W A xs) => HW.out W h y hyn)
            have HMJ := Lib.hid (HML.out j hj)
            have HMS' := Lib.hid hms
            clear hy hms hwm
            generalize wayL xs y = K at *
            go_wp2_with fail
            refine (HWY.out _ (h.below hw)).mono ?_
            rintro e1 w2 ⟨A2, c2, rfl, ho2, hb2⟩
            replace hown := own_below hown hb2
            replace hE := hE.below hb2
            replace hx0 := keep_cell hb2 hx0
            replace hx1 := keep_cell hb2 hx1
            replace hw := keep_below hb2 hw
            have hI := ho2.ints
            clear hb2 ho2
            go_wp2
            go_loop [13, 14, 43] (fun mv bv kv => ∃ q : Nat, q ≤ K.length ∧ kv = .int .i64 q ∧ mv = .int .i64 (crsW lw9 up9 ps K q).1 ∧ bv = .bool (crsW lw9 up9 ps K q).2) (fun _ _ kv => K.length - (intOf kv).toNat)
            case atStart => exact ⟨0, by omega, rfl, rfl, rfl⟩
            case round =>
              obtain ⟨q, hq, rfl, rfl, rfl⟩ := hrel
              by_cases hlq : q < K.length
              · obtain ⟨b2, o2, rfl, hcK⟩ := hI.at_ hlq
                obtain ⟨z, hz, hzn⟩ := HWM.out q hlq
                rw [hz] at hcK
                obtain ⟨b4, o4, rfl, hcz⟩ := (zp.below hw).at_ (j := z) (by rw [← HP.out]; exact hzn)
                have HMX : Hid (crsW lw9 up9 ps K (q + 1) = crsS lw9 up9 (crsW lw9 up9 ps K q) (nth ps z)) := by show crsS _ _ _ _ = _; rw [hz]; rfl
                have hbd := crsW_bd lw9 up9 ps K q
                clear hz
                generalize nth ps z = v at *
                generalize crsW lw9 up9 ps K q = s at *
                obtain ⟨a, b⟩ := s
                simp only at hbd
                cases b
                · by_cases hv : v ≤ lw9
                  · have hx := crs_in lw9 up9 a v hv
                    have HX : Hid (crsW lw9 up9 ps K (q + 1) = (a, true)) := by show _ = _; rw [HMX.out, hx]
                    clear hx HMX
                    go_wp2
                    go_round
                    case rel => exact ⟨q + 1, by omega, by go_num, by rw [HX.out], by rw [HX.out]⟩
                    case measure => simp [intOf]; omega
                  · have hx := crs_out lw9 up9 a v hv
                    have HX : Hid (crsW lw9 up9 ps K (q + 1) = (a, false)) := by show _ = _; rw [HMX.out, hx]
                    clear hx HMX
                    go_wp2
                    go_round
                    case rel => exact ⟨q + 1, by omega, by go_num, by rw [HX.out], by rw [HX.out]⟩
                    case measure => simp [intOf]; omega
                · by_cases hv : up9 ≤ v
                  · have hx := crs_up lw9 up9 a v hv
                    have hv2 : ¬ v ≤ lw9 := by omega
                    have HX : Hid (crsW lw9 up9 ps K (q + 1) = (a + 1, false)) := by show _ = _; rw [HMX.out, hx]
                    clear hx HMX
                    go_wp2
                    go_round
                    case rel => exact ⟨q + 1, by omega, by go_num, by rw [HX.out], by rw [HX.out]⟩
                    case measure => simp [intOf]; omega
                  · have hx := crs_stay lw9 up9 a v hv
                    have HX : Hid (crsW lw9 up9 ps K (q + 1) = (a, true)) := by show _ = _; rw [HMX.out, hx]
                    clear hx HMX
                    go_wp2
                    go_round
                    case rel => exact ⟨q + 1, by omega, by go_num, by rw [HX.out], by rw [HX.out]⟩
                    case measure => simp [intOf]; omega
              · have hqe : q = K.length := by omega
                subst hqe
                generalize (crsW lw9 up9 ps K K.length).1 = v at *
                have hlm := HMJ.out
                have HPX : Hid (i64s (mapI f E (j + 1)) = i64s (mapI f E j) ++ [Value.int .i64 v] ∧ (mapI f E (j + 1)).length = (mapI f E j).length + 1) := by rw [HMS'.out]; exact ⟨i64s_app _ _, by simp⟩
                have hlen : (mapI f E j).length ≤ 24 := by rw [hlm]; omega
                clear hlm
                generalize mapI f E j = L at *
                have hlx := World.block_lt_of_cell? _ _ hx0
                replace hlx : w.heap.size < w2.heap.size := hlx
                go_wp2_with (at_builtin; (refine wpList_append_own_at _ rfl _ _ 22 rfl (w.heap.size + 1) 3 i0 (.int .i64 0) 1 8 Try.underlying22 hi hz0 hz1 hz2 rfl (by decide) _ _ _ rfl (hown.alloc _) ⟨w2.heap.size, 0, none⟩ 1 1 [.int .i64 (v)] rfl rfl (cell_one_new _ _ _) (by simp [Value.oneCell']) (by unfold maxLen; omega) (by omega) (by simp; omega) ?_); intro v' w1 hown1 hgrow _ hat)
                have hrow1 := (hE.alloc (.cells #[.int .i64 v] 3)).grown hgrow (fun e => hne e.symm)
                have hxx0 := grown_cell hgrow (p := ⟨w.heap.size, 0, none⟩) (by rw [World.cell?_alloc_lt _ _ _ hlx]; exact hx0) (own_ne (g := w.heap.size) hown (by omega))
                have hxx1 := grown_cell hgrow (p := ⟨w.heap.size, 1, none⟩) (by rw [World.cell?_alloc_lt _ _ _ hlx]; exact hx1) (own_ne (g := w.heap.size) hown (by omega))
                have hb3 : Below w.heap.size w w1 := Below.grown (hw.alloc hw.size _) hgrow (by simp; omega) (fun g hg => by have := (hown.lt g hg).1; omega)
                have hgl := hE.lt
                have hne1 : v'.ownBlock ≠ some gE := by
                  rcases hat with e | e
                  · rw [e]; exact hne
                  · rw [e]; simp; omega
                rw [← HPX.out.1, ← HPX.out.2] at hown1
                clear hown hgrow hE hw HPX hx0 hx1 hne hat hI
                go_wp2
                go_roundw
                case rel => exact ⟨j + 1, by omega, by go_num, hown1, hne1, hrow1, hxx0, hxx1, hb3⟩
                case measure => simp only [intOf]; omega
          · have hkn : j = E.length := by omega
            rw [hkn] at hown
            obtain ⟨A', c', rfl, hO⟩ := own_form hown
            clear hkn hown
            go_wp2
            go_ret2
            exact ⟨A', c', rfl, hO.mono (by omega), hw⟩
end Go.Proofs.Ytkghljcahbkfdaa
