/- The walk of FnEvents. -/
import Derived.IntWalk
import Derived.StillTailTactics
import Derived.Deep.DeepCutAuto
import Derived.Deep.QuietTactic
import Derived.BigQuiet
import Derived.Test.YtombfbmcplefgaaMgEv21
import Derived.Test.YtombfbmcplefgaaMgEv16
import Derived.Test.YtombfbmcplefgaaMgEv18
import Derived.Test.YtombfbmcplefgaaMgEv20
import Derived.Test.YtombfbmcplefgaaMgEv11
namespace Go.Proofs.Ytombfbmcplefgaa
open Go.ChangeShapes Go.WideShapes Go.ChangeAt Go.RowKit
open Go.ChangeMaps (open_string shut_string)
set_option maxHeartbeats 16000000 in
set_option maxRecDepth 100000 in
theorem FnEvents_walk (C : Option Addr) (n cc : Nat) (w : World) (hC : n ≤ cc ∧ cc ≤ maxLen ∧ Byt w C n) :
    Calls Try.prog 9 #[.slice C n cc] w fun e w' => e = .returned (.bool true) ∧ Below w.heap.size w w' := by
  obtain ⟨_, _, hB⟩ := hC
  by_cases hbig : 65536 < n
  · have HBg := Lib.hid (fun W => rBig_any C n cc W)
    rw [decide_eq_true hbig] at HBg
    clear hB
    go_enter Try.func9, Try.ntmps9
    go_wp2_with fail
    refine (HBg.out _).mono ?_
    rintro e1 w1 ⟨rfl, rfl⟩
    go_wp2
    go_ret
    exact ⟨rfl, Below.refl _ _⟩
  have HBg := Lib.hid (fun W => rBig_any C n cc W)
  rw [decide_eq_false hbig] at HBg
  have hn : n ≤ 1000000 := by omega
  have hw := Below.refl w.heap.size w
  have HD1 := Lib.hid (fun W (h : Byt W C n) => drawGiven_any C n cc W h hn)
  have HD2 := Lib.hid (fun W (h : Byt W C n) => drawIndep_any C n cc W h hn)
  clear hbig hn
  go_enter Try.func9, Try.ntmps9
  go_wp2_with fail
  refine (HBg.out _).mono ?_
  rintro e1 w1 ⟨rfl, e9⟩
  have e8 := e9.symm
  clear e9
  subst e8
  clear HBg
  go_wp2_with fail
  refine (HD1.out _ hB).mono ?_
  rintro e1 wl1 ⟨X, Y, L, M, A, B, Q1, Q2, c, d, p, q, rfl, hA, hY, hL, hM, hX, hYl, hLl, hMl, bX, bY, bL, bM, hb⟩
  replace hB := hB.below hb
  replace hw := keep_below hb hw
  clear hb
  clear HD1
  go_upto_region 4 with (fail)
  obtain ⟨wb2, hwn⟩ : ∃ W, W = wl1.alloc (.cells #[.slice A X.length c, .slice B Y.length d] 28) := ⟨_, rfl⟩
  have hT : BlkT wb2 wl1.heap.size (.slice A X.length c) (.slice B Y.length d) := by rw [hwn]; exact BlkT.new wl1 _ _ rfl
  have hbA : Below wl1.heap.size wl1 wb2 := by rw [hwn]; exact (Below.refl _ _).alloc (Nat.le_refl _) _
  replace hB := hB.below hbA
  replace hA := hA.below hbA
  replace hY := hY.below hbA
  replace hL := hL.below hbA
  replace hM := hM.below hbA
  replace hw := keep_below hbA hw
  (try rw [← hwn])
  clear hwn hbA
  generalize wl1.heap.size = gT at hT ⊢
  have HC1 := fun W (h : IntS W A X) (k : IntS W B Y) (z1 : IntS W Q1 L) (z2 : IntS W Q2 M) => implChanceGiven_any A B c d X Y Q1 p L Q2 q M W h k z1 z2 bX bY bL bM (by omega) (by omega) (by omega) (by omega)
  have HC2 := fun W (h : IntS W A X) (k : IntS W B Y) (z1 : IntS W Q1 L) (z2 : IntS W Q2 M) => specChanceGiven_any A B c d X Y Q1 p L Q2 q M W h k z1 z2 bX bY bL bM (by omega) (by omega) (by omega) (by omega)
  have HE1 := fun W (h : IntS W A X) (k : IntS W B Y) (z1 : IntS W Q1 L) => implEventChance_any A B c d X Y Q1 p L W h k z1 bX bY bL (by omega) (by omega) (by omega)
  have HE2 := fun W (h : IntS W A X) (k : IntS W B Y) (z1 : IntS W Q1 L) => specEventChance_any A B c d X Y Q1 p L W h k z1 bX bY bL (by omega) (by omega) (by omega)
  have HO1 := fun W (h : IntS W A X) (k : IntS W B Y) (z1 : IntS W Q1 L) => implOtherEnds_any A B c d X Y Q1 p L W h k z1 bX bY bL (by omega) (by omega) (by omega)
  have HO2 := fun W (h : IntS W A X) (k : IntS W B Y) (z1 : IntS W Q1 L) => specOtherEnds_any A B c d X Y Q1 p L W h k z1 bX bY bL (by omega) (by omega) (by omega)
  have HI1 := fun W (h : IntS W A X) (k : IntS W B Y) (z1 : IntS W Q1 L) => implIndicatorOf_any A B c d X Y Q1 p L W h k z1 bX bY bL (by omega) (by omega) (by omega)
  have HI2 := fun W (h : IntS W A X) (k : IntS W B Y) (z1 : IntS W Q1 L) => specIndicatorOf_any A B c d X Y Q1 p L W h k z1 bX bY bL (by omega) (by omega) (by omega)
  have HB := fun W (h : IntS W A X) (k : IntS W B Y) (z2 : IntS W Q2 M) => implEventChance_any A B c d X Y Q2 q M W h k z2 bX bY bM (by omega) (by omega) (by omega)
  have HAt := fun W P9 p9 (h : IntS W A X) (k : IntS W B Y) (z : IntS W P9 (bothL L M)) => implEventChance_any A B c d X Y P9 p9 (bothL L M) W h k z bX bY (bd_both bL M) (by omega) (by omega) (by have := bothL_len L M; omega)
  have hol : (othR X Y L).length ≤ 25 := oth_len25 X Y L (by omega)
  have hob : Bd (othR X Y L) := oth_bd X Y L (by omega)
  have hil : (indcR X Y L).length ≤ 25 := ind_len25 X Y L (by omega)
  have hib : Bd (indcR X Y L) := ind_bd X Y L
  have HRe := fun W P9 p9 (h : IntS W A X) (k : IntS W B Y) (z : IntS W P9 (othR X Y L)) => implEventChance_any A B c d X Y P9 p9 (othR X Y L) W h k z bX bY hob (by omega) (by omega) (by omega)
  have HM1 := fun W P9 p9 (h : IntS W A X) (k : IntS W B Y) (z : IntS W P9 (indcR X Y L)) => implMeansOf_any A B c d X Y P9 p9 (indcR X Y L) W h k z bX bY hib (by omega) (by omega) (by omega)
  have HM2 := fun W P9 p9 (h : IntS W A X) (k : IntS W B Y) (z : IntS W P9 (indcR X Y L)) => specMeansOf_any A B c d X Y P9 p9 (indcR X Y L) W h k z bX bY hib (by omega) (by omega) (by omega)
  have HAd := fun W => implAdd_any (evcN X Y L) (evcM X Y L) (evcN X Y (othR X Y L)) (evcM X Y (othR X Y L)) W
  change ∀ W, Calls _ _ _ W fun e w' => e = .returned (FracV (addN (evcN X Y L) (evcM X Y L) (evcN X Y (othR X Y L)) (evcM X Y (othR X Y L))) (addM (evcN X Y L) (evcM X Y L) (evcN X Y (othR X Y L)) (evcM X Y (othR X Y L))) (addOk (evcN X Y L) (evcM X Y L) (evcN X Y (othR X Y L)) (evcM X Y (othR X Y L)))) ∧ _ at HAd
  have HTm := fun W => implTimes_any (gvnN X Y L M) (gvnM X Y L M) (evcN X Y M) (evcM X Y M) W
  change ∀ W, Calls _ _ _ W fun e w' => e = .returned (FracV (tmN (gvnN X Y L M) (gvnM X Y L M) (evcN X Y M) (evcM X Y M)) (tmM (gvnN X Y L M) (gvnM X Y L M) (evcN X Y M) (evcM X Y M)) (tmOk (gvnN X Y L M) (gvnM X Y L M) (evcN X Y M) (evcM X Y M))) ∧ _ at HTm
  unfold FracV at HAd HTm
  have f1 := fun (h : evOk X Y L = true) => oth_ok h
  have f2 := fun (h : evOk X Y L = true) => oth_whole h
  have f3 := fun (h : evOk X Y L = true) => ind_mean h
  have f4 := fun (h : gvnOk X Y L M = true) => given_both h
  have f5 := fun (h : gvnOk X Y L M = true) => given_ev h
  have hml := fun (h : evOk X Y L = true) => ev_len1 h
  simp only [ok_ev X Y L] at HE1 HE2
  clear bX bY bL bM hYl hob hib
  generalize gvnN X Y L M = gN at HC1 HC2 HTm f4
  generalize gvnM X Y L M = gM at HC1 HC2 HTm f4
  generalize gvnOk X Y L M = gok at HC1 HC2 f4 f5
  generalize evcN X Y L = eN at HE1 HE2 HAd f2 f3
  generalize evcM X Y L = eM at HE1 HE2 HAd f2 f3
  generalize evcN X Y (othR X Y L) = rN at HRe HAd f2
  generalize evcM X Y (othR X Y L) = rM at HRe HAd f2
  generalize evcOk X Y (othR X Y L) = rok at HRe f1
  generalize othR X Y L = OO at HO1 HO2 HRe hol
  generalize mnsR X Y (indcR X Y L) = RM at HM1 HM2 f3
  generalize mnsOk X Y (indcR X Y L) = mok at HM1 HM2 f3
  generalize indcR X Y L = II at HI1 HI2 HM1 HM2 hil
  generalize evOk X Y L = ek at HE1 HE2 HO1 HO2 HI1 HI2 f1 f2 f3 f5 hml
  generalize evcN X Y M = bN at HB HTm f4
  generalize evcM X Y M = bM at HB HTm f4
  generalize evcOk X Y M = bok at HB f4
  generalize evcN X Y (bothL L M) = tN at HAt f4
  generalize evcM X Y (bothL L M) = tM at HAt f4
  generalize evcOk X Y (bothL L M) = tok at HAt f4
  have F1 := Lib.hid f1
  have F2 := Lib.hid f2
  have F3 := Lib.hid f3
  have F4 := Lib.hid f4
  have F5 := Lib.hid f5
  have HML := Lib.hid hml
  have HX := Lib.hid hX
  clear f1 f2 f3 f4 f5 hml hX
  replace HC1 := Lib.hid HC1
  replace HC2 := Lib.hid HC2
  replace HE1 := Lib.hid HE1
  replace HE2 := Lib.hid HE2
  replace HO1 := Lib.hid HO1
  replace HO2 := Lib.hid HO2
  replace HI1 := Lib.hid HI1
  replace HI2 := Lib.hid HI2
  replace HB := Lib.hid HB
  replace HAt := Lib.hid HAt
  replace HRe := Lib.hid HRe
  replace HM1 := Lib.hid HM1
  replace HM2 := Lib.hid HM2
  replace HAd := Lib.hid HAd
  replace HTm := Lib.hid HTm
  have tt30 := hT.c0
  have tt31 := hT.c1
  go_wp2_with fail
  refine (HC1.out _ hA hY hL hM).mono ?_
  rintro e1 wl4 ⟨rfl, hb⟩
  replace hB := hB.below hb
  replace hA := hA.below hb
  replace hY := hY.below hb
  replace hL := hL.below hb
  replace hM := hM.below hb
  replace hT := hT.below hb
  replace hw := keep_below hb hw
  clear hb tt30 tt31
  clear HC1
  go_upto_region 5 with (fail)
  obtain ⟨wb5, hwn⟩ : ∃ W, W = wl4.alloc (.cells #[.int .i64 gN, .int .i64 gM] 51) := ⟨_, rfl⟩
  have hGv : PairB wb5 wl4.heap.size (gN) (gM) := by rw [hwn]; exact heap_alloc_new wl4 _
  have hbA : Below wl4.heap.size wl4 wb5 := by rw [hwn]; exact (Below.refl _ _).alloc (Nat.le_refl _) _
  replace hB := hB.below hbA
  replace hA := hA.below hbA
  replace hY := hY.below hbA
  replace hL := hL.below hbA
  replace hM := hM.below hbA
  replace hT := hT.below hbA
  replace hw := keep_below hbA hw
  (try rw [← hwn])
  clear hwn hbA
  generalize wl4.heap.size = gGv at hGv ⊢
  have tt60 := hT.c0
  have tt61 := hT.c1
  go_wp2_with fail
  refine (HC2.out _ hA hY hL hM).mono ?_
  rintro e1 wl7 ⟨rfl, hb⟩
  replace hB := hB.below hb
  replace hA := hA.below hb
  replace hY := hY.below hb
  replace hL := hL.below hb
  replace hM := hM.below hb
  replace hT := hT.below hb
  replace hGv := hGv.below hb
  replace hw := keep_below hb hw
  clear hb tt60 tt61
  clear HC2
  go_upto_region 6 with (fail)
  obtain ⟨wb8, hwn⟩ : ∃ W, W = wl7.alloc (.cells #[.int .i64 gN, .int .i64 gM] 51) := ⟨_, rfl⟩
  have hZ2 : PairB wb8 wl7.heap.size (gN) (gM) := by rw [hwn]; exact heap_alloc_new wl7 _
  have hbA : Below wl7.heap.size wl7 wb8 := by rw [hwn]; exact (Below.refl _ _).alloc (Nat.le_refl _) _
  replace hB := hB.below hbA
  replace hA := hA.below hbA
  replace hY := hY.below hbA
  replace hL := hL.below hbA
  replace hM := hM.below hbA
  replace hT := hT.below hbA
  replace hGv := hGv.below hbA
  replace hw := keep_below hbA hw
  (try rw [← hwn])
  clear hwn hbA
  generalize wl7.heap.size = gZ2 at hZ2 ⊢
  have hQ1 := eqA2_same gN gM
  have tt90 := hGv.c0
  have tt91 := hGv.c1
  have tt100 := hZ2.c0
  have tt101 := hZ2.c1
  go_upto_region 8 with (fail)
  clear tt90 tt91 tt100 tt101 hZ2 hQ1
  have tt110 := hT.c0
  have tt111 := hT.c1
  go_wp2_with fail
  refine (HE1.out _ hA hY hL).mono ?_
  rintro e1 wl12 ⟨rfl, hb⟩
  replace hB := hB.below hb
  replace hA := hA.below hb
  replace hY := hY.below hb
  replace hL := hL.below hb
  replace hM := hM.below hb
  replace hT := hT.below hb
  replace hGv := hGv.below hb
  replace hw := keep_below hb hw
  clear hb tt110 tt111
  clear HE1
  go_upto_region 9 with (fail)
  obtain ⟨wb13, hwn⟩ : ∃ W, W = wl12.alloc (.cells #[.int .i64 eN, .int .i64 eM] 51) := ⟨_, rfl⟩
  have hCh : PairB wb13 wl12.heap.size (eN) (eM) := by rw [hwn]; exact heap_alloc_new wl12 _
  have hbA : Below wl12.heap.size wl12 wb13 := by rw [hwn]; exact (Below.refl _ _).alloc (Nat.le_refl _) _
  replace hB := hB.below hbA
  replace hA := hA.below hbA
  replace hY := hY.below hbA
  replace hL := hL.below hbA
  replace hM := hM.below hbA
  replace hT := hT.below hbA
  replace hGv := hGv.below hbA
  replace hw := keep_below hbA hw
  (try rw [← hwn])
  clear hwn hbA
  generalize wl12.heap.size = gCh at hCh ⊢
  have tt140 := hT.c0
  have tt141 := hT.c1
  go_wp2_with fail
  refine (HE2.out _ hA hY hL).mono ?_
  rintro e1 wl15 ⟨rfl, hb⟩
  replace hB := hB.below hb
  replace hA := hA.below hb
  replace hY := hY.below hb
  replace hL := hL.below hb
  replace hM := hM.below hb
  replace hT := hT.below hb
  replace hGv := hGv.below hb
  replace hCh := hCh.below hb
  replace hw := keep_below hb hw
  clear hb tt140 tt141
  clear HE2
  go_upto_region 10 with (fail)
  obtain ⟨wb16, hwn⟩ : ∃ W, W = wl15.alloc (.cells #[.int .i64 eN, .int .i64 eM] 51) := ⟨_, rfl⟩
  have hZ2 : PairB wb16 wl15.heap.size (eN) (eM) := by rw [hwn]; exact heap_alloc_new wl15 _
  have hbA : Below wl15.heap.size wl15 wb16 := by rw [hwn]; exact (Below.refl _ _).alloc (Nat.le_refl _) _
  replace hB := hB.below hbA
  replace hA := hA.below hbA
  replace hY := hY.below hbA
  replace hL := hL.below hbA
  replace hM := hM.below hbA
  replace hT := hT.below hbA
  replace hGv := hGv.below hbA
  replace hCh := hCh.below hbA
  replace hw := keep_below hbA hw
  (try rw [← hwn])
  clear hwn hbA
  generalize wl15.heap.size = gZ3 at hZ2 ⊢
  have hQ1 := eqA2_same eN eM
  have tt170 := hCh.c0
  have tt171 := hCh.c1
  have tt180 := hZ2.c0
  have tt181 := hZ2.c1
  go_upto_region 12 with (fail)
  clear tt170 tt171 tt180 tt181 hZ2 hQ1
  have tt190 := hT.c0
  have tt191 := hT.c1
  go_wp2_with fail
  refine (HO1.out _ hA hY hL).mono ?_
  rintro e1 wl20 ⟨O1, O1c, rfl, hO, hb⟩
  replace hB := hB.below hb
  replace hA := hA.below hb
  replace hY := hY.below hb
  replace hL := hL.below hb
  replace hM := hM.below hb
  replace hT := hT.below hb
  replace hGv := hGv.below hb
  replace hCh := hCh.below hb
  replace hw := keep_below hb hw
  clear hb tt190 tt191
  clear HO1
  have tt210 := hT.c0
  have tt211 := hT.c1
  go_wp2_with fail
  refine (HO2.out _ hA hY hL).mono ?_
  rintro e1 wl22 ⟨O2, O2c, rfl, hO2, hb⟩
  replace hB := hB.below hb
  replace hA := hA.below hb
  replace hY := hY.below hb
  replace hL := hL.below hb
  replace hM := hM.below hb
  replace hT := hT.below hb
  replace hGv := hGv.below hb
  replace hCh := hCh.below hb
  replace hO := hO.below hb
  replace hw := keep_below hb hw
  clear hb tt210 tt211
  clear HO2
  replace hO := hO.ints
  replace hO2 := hO2.ints
  go_wp2_with fail
  refine (rInts_same O1 O2 O1c O2c OO _ hO hO2 (by omega)).mono ?_
  rintro e1 wl23 ⟨rfl, hb⟩
  replace hB := hB.below hb
  replace hA := hA.below hb
  replace hY := hY.below hb
  replace hL := hL.below hb
  replace hM := hM.below hb
  replace hT := hT.below hb
  replace hGv := hGv.below hb
  replace hCh := hCh.below hb
  replace hO := hO.below hb
  replace hw := keep_below hb hw
  clear hb
  clear hO2
  go_upto_region 16 with (fail)
  have tt240 := hT.c0
  have tt241 := hT.c1
  go_wp2_with fail
  refine (HI1.out _ hA hY hL).mono ?_
  rintro e1 wl25 ⟨I1, I1c, rfl, hI, hb⟩
  replace hB := hB.below hb
  replace hA := hA.below hb
  replace hY := hY.below hb
  replace hL := hL.below hb
  replace hM := hM.below hb
  replace hT := hT.below hb
  replace hGv := hGv.below hb
  replace hCh := hCh.below hb
  replace hO := hO.below hb
  replace hw := keep_below hb hw
  clear hb tt240 tt241
  clear HI1
  have tt260 := hT.c0
  have tt261 := hT.c1
  go_wp2_with fail
  refine (HI2.out _ hA hY hL).mono ?_
  rintro e1 wl27 ⟨I2, I2c, rfl, hI2, hb⟩
  replace hB := hB.below hb
  replace hA := hA.below hb
  replace hY := hY.below hb
  replace hL := hL.below hb
  replace hM := hM.below hb
  replace hT := hT.below hb
  replace hGv := hGv.below hb
  replace hCh := hCh.below hb
  replace hO := hO.below hb
  replace hI := hI.below hb
  replace hw := keep_below hb hw
  clear hb tt260 tt261
  clear HI2
  replace hI := hI.ints
  replace hI2 := hI2.ints
  go_wp2_with fail
  refine (rInts_same I1 I2 I1c I2c II _ hI hI2 (by omega)).mono ?_
  rintro e1 wl28 ⟨rfl, hb⟩
  replace hB := hB.below hb
  replace hA := hA.below hb
  replace hY := hY.below hb
  replace hL := hL.below hb
  replace hM := hM.below hb
  replace hT := hT.below hb
  replace hGv := hGv.below hb
  replace hCh := hCh.below hb
  replace hO := hO.below hb
  replace hI := hI.below hb
  replace hw := keep_below hb hw
  clear hb
  clear hI2
  go_upto_region 20 with (fail)
  go_wp2_with fail
  refine (HD2.out _ hB).mono ?_
  rintro e1 wl29 ⟨X2, Y2, L2, M2, A2, B2, Q3, Q4, c2, d2, p2, q2, rfl, hA2, hY2, hL2, hM2, hX2, hYl2, hLl2, hMl2, bX2, bY2, bL2, bM2, hb⟩
  replace hA := hA.below hb
  replace hY := hY.below hb
  replace hL := hL.below hb
  replace hM := hM.below hb
  replace hT := hT.below hb
  replace hGv := hGv.below hb
  replace hCh := hCh.below hb
  replace hO := hO.below hb
  replace hI := hI.below hb
  replace hw := keep_below hb hw
  clear hb
  clear HD2 hB
  go_upto_region 21 with (fail)
  obtain ⟨wb30, hwn⟩ : ∃ W, W = wl29.alloc (.cells #[.slice A2 X2.length c2, .slice B2 Y2.length d2] 28) := ⟨_, rfl⟩
  have hG : BlkT wb30 wl29.heap.size (.slice A2 X2.length c2) (.slice B2 Y2.length d2) := by rw [hwn]; exact BlkT.new wl29 _ _ rfl
  have hbA : Below wl29.heap.size wl29 wb30 := by rw [hwn]; exact (Below.refl _ _).alloc (Nat.le_refl _) _
  replace hA := hA.below hbA
  replace hY := hY.below hbA
  replace hL := hL.below hbA
  replace hM := hM.below hbA
  replace hT := hT.below hbA
  replace hGv := hGv.below hbA
  replace hCh := hCh.below hbA
  replace hO := hO.below hbA
  replace hI := hI.below hbA
  replace hA2 := hA2.below hbA
  replace hY2 := hY2.below hbA
  replace hL2 := hL2.below hbA
  replace hM2 := hM2.below hbA
  replace hw := keep_below hbA hw
  (try rw [← hwn])
  clear hwn hbA
  generalize wl29.heap.size = gG at hG ⊢
  have HJ1 := fun W (h : IntS W A2 X2) (k : IntS W B2 Y2) (z1 : IntS W Q3 L2) (z2 : IntS W Q4 M2) => implAreIndependent_any A2 B2 c2 d2 X2 Y2 Q3 p2 L2 Q4 q2 M2 W h k z1 z2 bX2 bY2 bL2 bM2 (by omega) (by omega) (by omega) (by omega)
  have HJ2 := fun W (h : IntS W A2 X2) (k : IntS W B2 Y2) (z1 : IntS W Q3 L2) (z2 : IntS W Q4 M2) => specAreIndependent_any A2 B2 c2 d2 X2 Y2 Q3 p2 L2 Q4 q2 M2 W h k z1 z2 bX2 bY2 bL2 bM2 (by omega) (by omega) (by omega) (by omega)
  have HK1 := fun W (h : IntS W A2 X2) (k : IntS W B2 Y2) (z1 : IntS W Q3 L2) => implOtherEnds_any A2 B2 c2 d2 X2 Y2 Q3 p2 L2 W h k z1 bX2 bY2 bL2 (by omega) (by omega) (by omega)
  have HK2 := fun W (h : IntS W A2 X2) (k : IntS W B2 Y2) (z1 : IntS W Q3 L2) => specOtherEnds_any A2 B2 c2 d2 X2 Y2 Q3 p2 L2 W h k z1 bX2 bY2 bL2 (by omega) (by omega) (by omega)
  have hol2 : (othR X2 Y2 L2).length ≤ 25 := oth_len25 X2 Y2 L2 (by omega)
  have hob2 : Bd (othR X2 Y2 L2) := oth_bd X2 Y2 L2 (by omega)
  have HJ3 := fun W P9 p9 (h : IntS W A2 X2) (k : IntS W B2 Y2) (z1 : IntS W P9 (othR X2 Y2 L2)) (z2 : IntS W Q4 M2) => implAreIndependent_any A2 B2 c2 d2 X2 Y2 P9 p9 (othR X2 Y2 L2) Q4 q2 M2 W h k z1 z2 bX2 bY2 hob2 bM2 (by omega) (by omega) (by omega) (by omega)
  have f6 := fun (h : indOk X2 Y2 L2 M2 = true) => ind_oth h
  clear hob2 bX2 bY2 bL2 bM2 hX2 hYl2 hLl2 hMl2
  generalize indOk X2 Y2 L2 M2 = fo at HJ1 HJ2 f6
  generalize indR X2 Y2 L2 M2 = fr at HJ1 HJ2 f6
  generalize indOk X2 Y2 (othR X2 Y2 L2) M2 = so at HJ3 f6
  generalize indR X2 Y2 (othR X2 Y2 L2) M2 = sr at HJ3 f6
  generalize othR X2 Y2 L2 = O5 at HK1 HK2 HJ3 hol2
  generalize evOk X2 Y2 L2 = ek2 at HK1 HK2 f6
  have F6 := Lib.hid f6
  clear f6
  replace HJ1 := Lib.hid HJ1
  replace HJ2 := Lib.hid HJ2
  replace HJ3 := Lib.hid HJ3
  replace HK1 := Lib.hid HK1
  replace HK2 := Lib.hid HK2
  have tt310 := hG.c0
  have tt311 := hG.c1
  go_wp2_with fail
  refine (HJ1.out _ hA2 hY2 hL2 hM2).mono ?_
  rintro e1 wl32 ⟨rfl, hb⟩
  replace hA := hA.below hb
  replace hY := hY.below hb
  replace hL := hL.below hb
  replace hM := hM.below hb
  replace hT := hT.below hb
  replace hGv := hGv.below hb
  replace hCh := hCh.below hb
  replace hO := hO.below hb
  replace hI := hI.below hb
  replace hA2 := hA2.below hb
  replace hY2 := hY2.below hb
  replace hL2 := hL2.below hb
  replace hM2 := hM2.below hb
  replace hG := hG.below hb
  replace hw := keep_below hb hw
  clear hb tt310 tt311
  clear HJ1
  have tt330 := hG.c0
  have tt331 := hG.c1
  go_wp2_with fail
  refine (HJ2.out _ hA2 hY2 hL2 hM2).mono ?_
  rintro e1 wl34 ⟨rfl, hb⟩
  replace hA := hA.below hb
  replace hY := hY.below hb
  replace hL := hL.below hb
  replace hM := hM.below hb
  replace hT := hT.below hb
  replace hGv := hGv.below hb
  replace hCh := hCh.below hb
  replace hO := hO.below hb
  replace hI := hI.below hb
  replace hA2 := hA2.below hb
  replace hY2 := hY2.below hb
  replace hL2 := hL2.below hb
  replace hM2 := hM2.below hb
  replace hG := hG.below hb
  replace hw := keep_below hb hw
  clear hb tt330 tt331
  clear HJ2
  go_upto_if 181 with (fail)
  go_cut [] (fun wr => IntS wr A X ∧ IntS wr B Y ∧ IntS wr Q1 L ∧ IntS wr Q2 M ∧ BlkT wr gT (.slice A X.length c) (.slice B Y.length d) ∧ PairB wr gGv gN gM ∧ PairB wr gCh eN eM ∧ IntS wr O1 OO ∧ IntS wr I1 II ∧ Below w.heap.size w wr)
  case first =>
    cases fo with
    | false =>
      go_wp2_with fail
      go_meet
      go_split_ands
      exact ⟨hA, hY, hL, hM, hT, hGv, hCh, hO, hI, hw⟩
    | true =>
      obtain ⟨e1, e2, e3⟩ := F6.out rfl
      subst e1 e2 e3
      have tt350 := hG.c0
      have tt351 := hG.c1
      go_wp2_with fail
      refine (HK1.out _ hA2 hY2 hL2).mono ?_
      rintro e1 wl36 ⟨U1, u1, rfl, hU, hb⟩
      replace hA := hA.below hb
      replace hY := hY.below hb
      replace hL := hL.below hb
      replace hM := hM.below hb
      replace hT := hT.below hb
      replace hGv := hGv.below hb
      replace hCh := hCh.below hb
      replace hO := hO.below hb
      replace hI := hI.below hb
      replace hA2 := hA2.below hb
      replace hY2 := hY2.below hb
      replace hL2 := hL2.below hb
      replace hM2 := hM2.below hb
      replace hG := hG.below hb
      replace hw := keep_below hb hw
      clear hb tt350 tt351
      replace hU := hU.ints
      have tt370 := hG.c0
      have tt371 := hG.c1
      go_wp2_with fail
      refine (HJ3.out _ _ _ hA2 hY2 hU hM2).mono ?_
      rintro e1 wl38 ⟨rfl, hb⟩
      replace hA := hA.below hb
      replace hY := hY.below hb
      replace hL := hL.below hb
      replace hM := hM.below hb
      replace hT := hT.below hb
      replace hGv := hGv.below hb
      replace hCh := hCh.below hb
      replace hO := hO.below hb
      replace hI := hI.below hb
      replace hA2 := hA2.below hb
      replace hY2 := hY2.below hb
      replace hL2 := hL2.below hb
      replace hM2 := hM2.below hb
      replace hG := hG.below hb
      replace hU := hU.below hb
      replace hw := keep_below hb hw
      clear hb tt370 tt371
      have tt390 := hG.c0
      have tt391 := hG.c1
      go_wp2_with fail
      refine (HK2.out _ hA2 hY2 hL2).mono ?_
      rintro e1 wl40 ⟨U2, u2, rfl, hU2, hb⟩
      replace hA := hA.below hb
      replace hY := hY.below hb
      replace hL := hL.below hb
      replace hM := hM.below hb
      replace hT := hT.below hb
      replace hGv := hGv.below hb
      replace hCh := hCh.below hb
      replace hO := hO.below hb
      replace hI := hI.below hb
      replace hA2 := hA2.below hb
      replace hY2 := hY2.below hb
      replace hL2 := hL2.below hb
      replace hM2 := hM2.below hb
      replace hG := hG.below hb
      replace hU := hU.below hb
      replace hw := keep_below hb hw
      clear hb tt390 tt391
      replace hU2 := hU2.ints
      go_wp2_with fail
      refine (rInts_same U1 U2 u1 u2 O5 _ hU hU2 (by omega)).mono ?_
      rintro e1 wl41 ⟨rfl, hb⟩
      replace hA := hA.below hb
      replace hY := hY.below hb
      replace hL := hL.below hb
      replace hM := hM.below hb
      replace hT := hT.below hb
      replace hGv := hGv.below hb
      replace hCh := hCh.below hb
      replace hO := hO.below hb
      replace hI := hI.below hb
      replace hA2 := hA2.below hb
      replace hY2 := hY2.below hb
      replace hL2 := hL2.below hb
      replace hM2 := hM2.below hb
      replace hG := hG.below hb
      replace hU := hU.below hb
      replace hU2 := hU2.below hb
      replace hw := keep_below hb hw
      clear hb
      go_wp2_with fail
      go_meet
      go_split_ands
      exact ⟨hA, hY, hL, hM, hT, hGv, hCh, hO, hI, hw⟩
  clear hA2 hY2 hL2 hM2 hG HJ3 HK1 HK2 F6
  clear hA hY hL hM hT hGv hCh hO hI hw
  obtain ⟨hA, hY, hL, hM, hT, hGv, hCh, hO, hI, hw⟩ := hcut
  as_aux_lemma =>
    cases ek with
    | false =>
      have hgk : gok = false := by
        cases gok
        · rfl
        · exact absurd (F5.out rfl) (by decide)
      subst hgk
      go_wp2
      go_ret
      exact ⟨rfl, hw⟩
    | true =>
      have e1 := F1.out rfl
      obtain ⟨e2, e3, e4⟩ := F2.out rfl
      obtain ⟨e5, e6, e7⟩ := F3.out rfl
      have hml := HML.out rfl
      subst e1 e5
      have hAd := HAd.out
      rw [e2, e3, e4] at hAd
      replace HAd := Lib.hid hAd
      have HR6 := Lib.hid e6
      have HR7 := Lib.hid e7
      clear e2 e3 e4 e6 e7 hAd F1 F2 F3 F5 HML
      have tt420 := hT.c0
      have tt421 := hT.c1
      go_wp2_with fail
      refine (HRe.out _ _ _ hA hY hO).mono ?_
      rintro e1 wl43 ⟨rfl, hb⟩
      replace hA := hA.below hb
      replace hY := hY.below hb
      replace hL := hL.below hb
      replace hM := hM.below hb
      replace hT := hT.below hb
      replace hGv := hGv.below hb
      replace hCh := hCh.below hb
      replace hI := hI.below hb
      replace hw := keep_below hb hw
      clear hb tt420 tt421
      clear HRe hO
      go_upto_region 34 with (fail)
      obtain ⟨wb44, hwn⟩ : ∃ W, W = wl43.alloc (.cells #[.int .i64 rN, .int .i64 rM] 51) := ⟨_, rfl⟩
      have hRs : PairB wb44 wl43.heap.size (rN) (rM) := by rw [hwn]; exact heap_alloc_new wl43 _
      have hbA : Below wl43.heap.size wl43 wb44 := by rw [hwn]; exact (Below.refl _ _).alloc (Nat.le_refl _) _
      replace hA := hA.below hbA
      replace hY := hY.below hbA
      replace hL := hL.below hbA
      replace hM := hM.below hbA
      replace hT := hT.below hbA
      replace hGv := hGv.below hbA
      replace hCh := hCh.below hbA
      replace hI := hI.below hbA
      replace hw := keep_below hbA hw
      (try rw [← hwn])
      clear hwn hbA
      generalize wl43.heap.size = gRs at hRs ⊢
      have tt450 := hCh.c0
      have tt451 := hCh.c1
      have tt460 := hRs.c0
      have tt461 := hRs.c1
      go_wp2_with fail
      refine (HAd.out _).mono ?_
      rintro e1 wl47 ⟨rfl, hb⟩
      replace hA := hA.below hb
      replace hY := hY.below hb
      replace hL := hL.below hb
      replace hM := hM.below hb
      replace hT := hT.below hb
      replace hGv := hGv.below hb
      replace hCh := hCh.below hb
      replace hI := hI.below hb
      replace hw := keep_below hb hw
      clear hb tt450 tt451 tt460 tt461
      clear HAd hRs
      go_upto_region 35 with (fail)
      obtain ⟨wb48, hwn⟩ : ∃ W, W = wl47.alloc (.cells #[.int .i64 1, .int .i64 1] 51) := ⟨_, rfl⟩
      have hWh : PairB wb48 wl47.heap.size (1) (1) := by rw [hwn]; exact heap_alloc_new wl47 _
      have hbA : Below wl47.heap.size wl47 wb48 := by rw [hwn]; exact (Below.refl _ _).alloc (Nat.le_refl _) _
      replace hA := hA.below hbA
      replace hY := hY.below hbA
      replace hL := hL.below hbA
      replace hM := hM.below hbA
      replace hT := hT.below hbA
      replace hGv := hGv.below hbA
      replace hCh := hCh.below hbA
      replace hI := hI.below hbA
      replace hw := keep_below hbA hw
      (try rw [← hwn])
      clear hwn hbA
      generalize wl47.heap.size = gWh at hWh ⊢
      have tt490 := hT.c0
      have tt491 := hT.c1
      go_wp2_with fail
      refine (HM1.out _ _ _ hA hY hI).mono ?_
      rintro e1 wl50 ⟨R1, r1, rfl, ho1, hb⟩
      replace hA := hA.below hb
      replace hY := hY.below hb
      replace hL := hL.below hb
      replace hM := hM.below hb
      replace hT := hT.below hb
      replace hGv := hGv.below hb
      replace hCh := hCh.below hb
      replace hI := hI.below hb
      replace hWh := hWh.below hb
      replace hw := keep_below hb hw
      clear hb tt490 tt491
      clear HM1
      have tt510 := hT.c0
      have tt511 := hT.c1
      go_wp2_with fail
      refine (HM2.out _ _ _ hA hY hI).mono ?_
      rintro e1 wl52 ⟨R2, r2, rfl, ho2, hb⟩
      replace hA := hA.below hb
      replace hY := hY.below hb
      replace hL := hL.below hb
      replace hM := hM.below hb
      replace hT := hT.below hb
      replace hGv := hGv.below hb
      replace hCh := hCh.below hb
      replace hWh := hWh.below hb
      replace ho1 := ho1.below hb
      replace hw := keep_below hb hw
      clear hb tt510 tt511
      clear HM2 hI
      go_upto_region 37 with (fail)
      obtain ⟨gR1, rfl, -, hr1⟩ := ho1.pos (by rw [HR6.out]; exact hml)
      obtain ⟨gR2, rfl, -, hr2⟩ := ho2.pos (by rw [HR6.out]; exact hml)
      have hp1 : Prs wl52 (some ⟨gR1, 0, none⟩) RM := fun _ => ⟨_, rfl, hr1⟩
      have hp2 : Prs wl52 (some ⟨gR2, 0, none⟩) RM := fun _ => ⟨_, rfl, hr2⟩
      have c0 := hr1.cell0 (j := 0) (by rw [HR6.out]; exact hml)
      have c1 := hr1.cell1 (j := 0) (by rw [HR6.out]; exact hml)
      rw [HR7.out] at c0 c1
      dsimp only at c0 c1
      rw [Nat.zero_mul] at c0 c1
      have hRX : RM.length ≤ 2000000 := by rw [HR6.out]; have := HX.out; omega
      have hRZ : (0 : Int) < RM.length := by rw [HR6.out]; omega
      have hQ1 := eqA2_same eN eM
      have hQ2 := eqA2_same 1 1
      have HRq := Lib.hid (fun W (h : Prs W (some ⟨gR1, 0, none⟩) RM) (k : Prs W (some ⟨gR2, 0, none⟩) RM) => rFracs_q _ _ r1 r2 RM W h k hRX)
      clear ho1 ho2 hr1 hr2
      have tt530 := hCh.c0
      have tt531 := hCh.c1
      have tt540 := hWh.c0
      have tt541 := hWh.c1
      go_quiet ((go_at_call 63; exact Calls.quiet_of (HRq.out _ hp1 hp2)))
      obtain ⟨wy, hwy⟩ : ∃ W, W = wl52.drewN nq := ⟨_, rfl⟩
      rw [← hwy]
      have hb : Below wl52.heap.size wl52 wy := by rw [hwy]; exact Below.drewN' (Below.refl _ _) nq
      clear hwy hp1 hp2 HRq hQ1 hQ2 hRX hRZ HR6 HR7 hml c0 c1 hol hil
      replace hA := hA.below hb
      replace hY := hY.below hb
      replace hL := hL.below hb
      replace hM := hM.below hb
      replace hT := hT.below hb
      replace hGv := hGv.below hb
      replace hw := keep_below hb hw
      clear hb tt530 tt531 tt540 tt541
      clear hCh hWh
      cases gok with
      | false =>
        go_wp2
        go_ret
        exact ⟨rfl, hw⟩
      | true =>
        obtain ⟨g1, g2, g3, g4, g5⟩ := F4.out rfl
        subst g1 g2
        have hTm := HTm.out
        rw [g3, g4, g5] at hTm
        replace HTm := Lib.hid hTm
        clear g3 g4 g5 hTm F4
        have HH := Lib.hid (fun W v (h : IntS W Q2 M) => rHas_any Q2 q M v W h (by omega))
        obtain ⟨i0, hi, hz0, hz1, hz2⟩ := info_parts info_int
        have hX25 := HX.out
        have hbs := Below.refl wy.heap.size wy
        go_wp2
        go_loopw [43, 44] (fun v i wr => ∃ j : Nat, j ≤ L.length ∧ i = .int .i64 (j : Int) ∧ wr.ownsRow wy.heap.size 3 1 v (bothK L M j).length (i64s (bothK L M j)) ∧ Below wy.heap.size wy wr) (fun _ i _ => L.length - (intOf i).toNat)
        case atStart => exact ⟨0, Nat.zero_le _, rfl, own_empty _ _ _ rfl (Nat.le_refl _), hbs.alloc (Nat.le_refl _) _⟩
        case round =>
          obtain ⟨j, hj, rfl, hown, hwb⟩ := hrel
          have hlen := bothK_len L M j
          by_cases hlt : j < L.length
          case pos =>
            obtain ⟨b, o, rfl, hc⟩ := (hL.below hwb).at_ (j := j) hlt
            have hM9 := hM.below hwb
            have i0' : (0 : Int) ≤ j := by omega
            have i1 : (j : Int) < L.length := by omega
            have HQ := Lib.hid (fun W (h : IntS W Q2 M) => HH.out W (nth L j) h)
            have hsz := hwb.size
            cases hv : hasB M (nth L j)
            · have hp := bothK_no hlt hv
              rw [hv] at HQ
              rw [← hp] at hown
              clear hp hv hL hM hA hY hT hGv
              generalize nth L j = x at HQ hc
              go_wp2_with fail
              refine (HQ.out _ hM9).mono ?_
              rintro e1 w1 ⟨rfl, e9⟩
              have e8 := e9.symm
              clear e9
              subst e8
              go_wp2
              go_roundw
              case rel => exact ⟨j + 1, by omega, by go_num, hown, hwb⟩
              case measure => simp [intOf]; omega
            · have HP : Hid (i64s (bothK L M (j + 1)) = i64s (bothK L M j) ++ [Value.int .i64 (nth L j)] ∧ (bothK L M (j + 1)).length = (bothK L M j).length + 1) := by
                rw [bothK_yes hlt hv]; exact ⟨i64s_app _ _, by simp⟩
              rw [hv] at HQ
              clear hv hL hM hA hY hT hGv
              generalize nth L j = x at HQ hc HP
              generalize bothK L M j = L9 at hown hlen HP
              go_wp2_with fail
              refine (HQ.out _ hM9).mono ?_
              rintro e1 w1 ⟨rfl, e9⟩
              have e8 := e9.symm
              clear e9
              subst e8
              go_wp2_with (at_builtin; (refine wpList_append_own_at _ rfl _ _ 22 rfl (wy.heap.size) 3 i0 (.int .i64 0) 1 8 Try.underlying22 hi hz0 hz1 hz2 rfl (by decide) _ _ _ rfl (hown.alloc _) ⟨wr.heap.size, 0, none⟩ 1 1 [.int .i64 (x)] rfl rfl (cell_one_new _ _ _) (by simp [Value.oneCell']) (by unfold maxLen; omega) (by omega) (by simp; omega) ?_); intro v' w1 hown1 hgrow _ hat)
              have hb3 : Below wy.heap.size wy w1 := Below.grown (hwb.alloc hsz _) hgrow (by simp; omega) (fun g hg => by have := (hown.lt g hg).1; omega)
              rw [← HP.out.1, ← HP.out.2] at hown1
              clear hown hgrow hwb HP hat hc
              go_wp2
              go_roundw
              case rel => exact ⟨j + 1, by omega, by go_num, hown1, hb3⟩
              case measure => simp [intOf]; omega
          have hje : j = L.length := by omega
          have i1 : ¬ (j : Int) < L.length := by omega
          rw [hje, bothK_all] at hown
          obtain ⟨A', c', rfl, hO⟩ := own_form hown
          replace hO := hO.ints
          clear hje hown hlen hlt hbs
          have hb := hwb
          clear hwb
          clear hL
          replace hA := hA.below hb
          replace hY := hY.below hb
          replace hM := hM.below hb
          replace hT := hT.below hb
          replace hGv := hGv.below hb
          replace hw := keep_below hb hw
          clear hb
          have tt550 := hT.c0
          have tt551 := hT.c1
          go_wp2_with fail
          refine (HB.out _ hA hY hM).mono ?_
          rintro e1 wl56 ⟨rfl, hb⟩
          replace hA := hA.below hb
          replace hY := hY.below hb
          replace hT := hT.below hb
          replace hGv := hGv.below hb
          replace hO := hO.below hb
          replace hw := keep_below hb hw
          clear hb tt550 tt551
          clear HB hM
          go_upto_region 48 with (fail)
          obtain ⟨wb57, hwn⟩ : ∃ W, W = wl56.alloc (.cells #[.int .i64 bN, .int .i64 bM] 51) := ⟨_, rfl⟩
          have hP1 : PairB wb57 wl56.heap.size (bN) (bM) := by rw [hwn]; exact heap_alloc_new wl56 _
          have hbA : Below wl56.heap.size wl56 wb57 := by rw [hwn]; exact (Below.refl _ _).alloc (Nat.le_refl _) _
          replace hA := hA.below hbA
          replace hY := hY.below hbA
          replace hT := hT.below hbA
          replace hGv := hGv.below hbA
          replace hO := hO.below hbA
          replace hw := keep_below hbA hw
          (try rw [← hwn])
          clear hwn hbA
          generalize wl56.heap.size = gP1 at hP1 ⊢
          have tt580 := hT.c0
          have tt581 := hT.c1
          go_wp2_with fail
          refine (HAt.out _ _ _ hA hY hO).mono ?_
          rintro e1 wl59 ⟨rfl, hb⟩
          replace hGv := hGv.below hb
          replace hP1 := hP1.below hb
          replace hw := keep_below hb hw
          clear hb tt580 tt581
          clear HAt hA hY hO hT
          go_upto_region 49 with (fail)
          obtain ⟨wb60, hwn⟩ : ∃ W, W = wl59.alloc (.cells #[.int .i64 tN, .int .i64 tM] 51) := ⟨_, rfl⟩
          have hP2 : PairB wb60 wl59.heap.size (tN) (tM) := by rw [hwn]; exact heap_alloc_new wl59 _
          have hbA : Below wl59.heap.size wl59 wb60 := by rw [hwn]; exact (Below.refl _ _).alloc (Nat.le_refl _) _
          replace hGv := hGv.below hbA
          replace hP1 := hP1.below hbA
          replace hw := keep_below hbA hw
          (try rw [← hwn])
          clear hwn hbA
          generalize wl59.heap.size = gP2 at hP2 ⊢
          have tt610 := hGv.c0
          have tt611 := hGv.c1
          have tt620 := hP1.c0
          have tt621 := hP1.c1
          go_wp2_with fail
          refine (HTm.out _).mono ?_
          rintro e1 wl63 ⟨rfl, hb⟩
          replace hP2 := hP2.below hb
          replace hw := keep_below hb hw
          clear hb tt610 tt611 tt620 tt621
          clear HTm hGv hP1
          go_upto_region 50 with (fail)
          obtain ⟨wb64, hwn⟩ : ∃ W, W = wl63.alloc (.cells #[.int .i64 tN, .int .i64 tM] 51) := ⟨_, rfl⟩
          have hP3 : PairB wb64 wl63.heap.size (tN) (tM) := by rw [hwn]; exact heap_alloc_new wl63 _
          have hbA : Below wl63.heap.size wl63 wb64 := by rw [hwn]; exact (Below.refl _ _).alloc (Nat.le_refl _) _
          replace hP2 := hP2.below hbA
          replace hw := keep_below hbA hw
          (try rw [← hwn])
          clear hwn hbA
          generalize wl63.heap.size = gP3 at hP3 ⊢
          have hQ1 := eqA2_same tN tM
          have tt650 := hP2.c0
          have tt651 := hP2.c1
          have tt660 := hP3.c0
          have tt661 := hP3.c1
          go_wp2
          go_ret
          exact ⟨rfl, hw⟩
end Go.Proofs.Ytombfbmcplefgaa
