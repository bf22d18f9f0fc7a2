/- The walk of FnMeans. -/
import Derived.IntWalk
import Derived.StillTailTactics
import Derived.Deep.DeepCutAuto
import Derived.Test.YtombfbmcplefgaaMgMn20
import Derived.Test.YtombfbmcplefgaaMgMn16
import Derived.Test.YtombfbmcplefgaaMgMn18
import Derived.Test.YtombfbmcplefgaaMgMn6
import Derived.Test.YtombfbmcplefgaaMgMn19
import Derived.Test.YtombfbmcplefgaaMgMn11
namespace Go.Proofs.Ytombfbmcplefgaa
open Go.ChangeShapes Go.WideShapes Go.ChangeAt Go.RowKit
open Go.ChangeMaps (open_string shut_string)
set_option maxHeartbeats 16000000 in
set_option maxRecDepth 100000 in
theorem FnMeans_walk (C : Option Addr) (n cc : Nat) (w : World) (hC : n ≤ cc ∧ cc ≤ maxLen ∧ Byt w C n) :
    Calls Try.prog 10 #[.slice C n cc] w fun e w' => e = .returned (.bool true) ∧ Below w.heap.size w w' := by
  obtain ⟨_, _, hB⟩ := hC
  by_cases hbig : 65536 < n
  · have HBg := Lib.hid (fun W => rBig_any C n cc W)
    rw [decide_eq_true hbig] at HBg
    clear hB
    go_enter Try.func10, Try.ntmps10
    go_wp2_with fail
    refine (HBg.out _).mono ?_
    rintro e1 w1 ⟨rfl, rfl⟩
    go_wp2
    go_ret
    exact ⟨rfl, Below.refl _ _⟩
  have HBg := Lib.hid (fun W => rBig_any C n cc W)
  rw [decide_eq_false hbig] at HBg
  have hn : n ≤ 1000000 := by omega
  have hw := Below.refl w.heap.size w
  have HD1 := Lib.hid (fun W (h : Byt W C n) => drawCov_any C n cc W h hn)
  have HD2 := Lib.hid (fun W (h : Byt W C n) => drawPaysCut_any C n cc W h hn)
  have HD3 := Lib.hid (fun W (h : Byt W C n) => drawKnown_any C n cc W h hn)
  clear hbig hn
  go_enter Try.func10, Try.ntmps10
  go_wp2_with fail
  refine (HBg.out _).mono ?_
  rintro e1 w1 ⟨rfl, e9⟩
  have e8 := e9.symm
  clear e9
  subst e8
  clear HBg
  go_wp2_with fail
  refine (HD1.out _ hB).mono ?_
  rintro e1 wl1 ⟨X, Y, L, M, A, B, Q1, Q2, c, d, p, q, rfl, hA, hY, hL, hM, hX, hYl, hLl, hMl, bX, bY, bL, bM, hb⟩
  replace hB := hB.below hb
  replace hw := keep_below hb hw
  clear hb
  clear HD1
  go_upto_region 4 with (fail)
  obtain ⟨wb2, hwn⟩ : ∃ W, W = wl1.alloc (.cells #[.slice A X.length c, .slice B Y.length d] 28) := ⟨_, rfl⟩
  have hT : BlkT wb2 wl1.heap.size (.slice A X.length c) (.slice B Y.length d) := by rw [hwn]; exact BlkT.new wl1 _ _ rfl
  have hbA : Below wl1.heap.size wl1 wb2 := by rw [hwn]; exact (Below.refl _ _).alloc (Nat.le_refl _) _
  replace hB := hB.below hbA
  replace hA := hA.below hbA
  replace hY := hY.below hbA
  replace hL := hL.below hbA
  replace hM := hM.below hbA
  replace hw := keep_below hbA hw
  (try rw [← hwn])
  clear hwn hbA
  generalize wl1.heap.size = gT at hT ⊢
  have HC1 := fun W (h : IntS W A X) (k : IntS W B Y) (z1 : IntS W Q1 L) (z2 : IntS W Q2 M) => implCovarianceOf_any A B c d X Y Q1 p L Q2 q M W h k z1 z2 bX bY bL bM (by omega) (by omega) (by omega) (by omega)
  have HC2 := fun W (h : IntS W A X) (k : IntS W B Y) (z1 : IntS W Q1 L) (z2 : IntS W Q2 M) => specCovarianceOf_any A B c d X Y Q1 p L Q2 q M W h k z1 z2 bX bY bL bM (by omega) (by omega) (by omega) (by omega)
  have HC3 := fun W (h : IntS W A X) (k : IntS W B Y) (z1 : IntS W Q1 L) (z2 : IntS W Q2 M) => implCovarianceOf_any A B c d X Y Q2 q M Q1 p L W h k z2 z1 bX bY bM bL (by omega) (by omega) (by omega) (by omega)
  have HM1 := fun W (h : IntS W A X) (k : IntS W B Y) (z1 : IntS W Q1 L) => implMeansOf_any A B c d X Y Q1 p L W h k z1 bX bY bL (by omega) (by omega) (by omega)
  have HM2 := fun W (h : IntS W A X) (k : IntS W B Y) (z1 : IntS W Q1 L) => specMeansOf_any A B c d X Y Q1 p L W h k z1 bX bY bL (by omega) (by omega) (by omega)
  have HV1 := fun W (h : IntS W A X) (k : IntS W B Y) (z1 : IntS W Q1 L) => implVarianceOf_any A B c d X Y Q1 p L W h k z1 bX bY bL (by omega) (by omega) (by omega)
  have HV2 := fun W (h : IntS W A X) (k : IntS W B Y) (z1 : IntS W Q1 L) => specVarianceOf_any A B c d X Y Q1 p L W h k z1 bX bY bL (by omega) (by omega) (by omega)
  have HS1 := fun W (h : IntS W A X) (k : IntS W B Y) => implSumsOf_any A B c d X Y W h k bX bY (by omega) (by omega)
  have HS2 := fun W (h : IntS W A X) (k : IntS W B Y) => specSumsOf_any A B c d X Y W h k bX bY (by omega) (by omega)
  have hct := cov_turn X Y L M
  simp only [hct.1, hct.2.1, hct.2.2] at HC3
  have hvn := var_num (xs := X) (ys := Y) (ps := L)
  have hco : covR X Y L M = true → mnsOk X Y L = true := cov_ok
  have hRl := mnsR_len X Y L (by omega)
  clear hct
  generalize covN X Y L M = cN at HC1 HC2 HC3
  generalize covM X Y L M = cM at HC1 HC2 HC3
  generalize covR X Y L M = cok at HC1 HC2 HC3 hco
  generalize covN X Y L L = vN at HV1 HV2 hvn
  generalize covM X Y L L = vM at HV1 HV2
  generalize covR X Y L L = vok at HV1 HV2
  obtain ⟨mo, hmo⟩ : ∃ r, mnsOk X Y L = r := ⟨_, rfl⟩
  obtain ⟨R, hR⟩ : ∃ R, mnsR X Y L = R := ⟨_, rfl⟩
  simp only [hmo, hR] at HM1 HM2 hco hRl
  have HMo := Lib.hid hmo
  have HR := Lib.hid hR
  have HCo := Lib.hid hco
  have HRl := Lib.hid hRl
  replace HC1 := Lib.hid HC1
  replace HC2 := Lib.hid HC2
  replace HC3 := Lib.hid HC3
  replace HM1 := Lib.hid HM1
  replace HM2 := Lib.hid HM2
  replace HV1 := Lib.hid HV1
  replace HV2 := Lib.hid HV2
  replace HS1 := Lib.hid HS1
  replace HS2 := Lib.hid HS2
  have HX := Lib.hid hX
  have HYl := Lib.hid hYl
  clear hmo hR hco hRl bX bY bM hLl hMl hX hYl
  have tt30 := hT.c0
  have tt31 := hT.c1
  go_wp2_with fail
  refine (HC1.out _ hA hY hL hM).mono ?_
  rintro e1 wl4 ⟨rfl, hb⟩
  replace hB := hB.below hb
  replace hA := hA.below hb
  replace hY := hY.below hb
  replace hL := hL.below hb
  replace hM := hM.below hb
  replace hT := hT.below hb
  replace hw := keep_below hb hw
  clear hb tt30 tt31
  clear HC1
  go_upto_region 5 with (fail)
  obtain ⟨wb5, hwn⟩ : ∃ W, W = wl4.alloc (.cells #[.int .i64 cN, .int .i64 cM] 51) := ⟨_, rfl⟩
  have hZ : PairB wb5 wl4.heap.size (cN) (cM) := by rw [hwn]; exact heap_alloc_new wl4 _
  have hbA : Below wl4.heap.size wl4 wb5 := by rw [hwn]; exact (Below.refl _ _).alloc (Nat.le_refl _) _
  replace hB := hB.below hbA
  replace hA := hA.below hbA
  replace hY := hY.below hbA
  replace hL := hL.below hbA
  replace hM := hM.below hbA
  replace hT := hT.below hbA
  replace hw := keep_below hbA hw
  (try rw [← hwn])
  clear hwn hbA
  generalize wl4.heap.size = gZ at hZ ⊢
  have tt60 := hT.c0
  have tt61 := hT.c1
  go_wp2_with fail
  refine (HC2.out _ hA hY hL hM).mono ?_
  rintro e1 wl7 ⟨rfl, hb⟩
  replace hB := hB.below hb
  replace hA := hA.below hb
  replace hY := hY.below hb
  replace hL := hL.below hb
  replace hM := hM.below hb
  replace hT := hT.below hb
  replace hZ := hZ.below hb
  replace hw := keep_below hb hw
  clear hb tt60 tt61
  clear HC2
  go_upto_region 6 with (fail)
  obtain ⟨wb8, hwn⟩ : ∃ W, W = wl7.alloc (.cells #[.int .i64 cN, .int .i64 cM] 51) := ⟨_, rfl⟩
  have hZ2 : PairB wb8 wl7.heap.size (cN) (cM) := by rw [hwn]; exact heap_alloc_new wl7 _
  have hbA : Below wl7.heap.size wl7 wb8 := by rw [hwn]; exact (Below.refl _ _).alloc (Nat.le_refl _) _
  replace hB := hB.below hbA
  replace hA := hA.below hbA
  replace hY := hY.below hbA
  replace hL := hL.below hbA
  replace hM := hM.below hbA
  replace hT := hT.below hbA
  replace hZ := hZ.below hbA
  replace hw := keep_below hbA hw
  (try rw [← hwn])
  clear hwn hbA
  generalize wl7.heap.size = gZ2 at hZ2 ⊢
  have hQ1 := eqA2_same cN cM
  have tt90 := hZ.c0
  have tt91 := hZ.c1
  have tt100 := hZ2.c0
  have tt101 := hZ2.c1
  go_upto_region 8 with (fail)
  clear tt90 tt91 tt100 tt101 hZ2
  have tt110 := hT.c0
  have tt111 := hT.c1
  go_wp2_with fail
  refine (HM1.out _ hA hY hL).mono ?_
  rintro e1 wl12 ⟨R1, r1, rfl, ho1, hb⟩
  replace hB := hB.below hb
  replace hA := hA.below hb
  replace hY := hY.below hb
  replace hL := hL.below hb
  replace hM := hM.below hb
  replace hT := hT.below hb
  replace hZ := hZ.below hb
  replace hw := keep_below hb hw
  clear hb tt110 tt111
  clear HM1
  have tt130 := hT.c0
  have tt131 := hT.c1
  go_wp2_with fail
  refine (HM2.out _ hA hY hL).mono ?_
  rintro e1 wl14 ⟨R2, r2, rfl, ho2, hb⟩
  replace hB := hB.below hb
  replace hA := hA.below hb
  replace hY := hY.below hb
  replace hL := hL.below hb
  replace hM := hM.below hb
  replace hT := hT.below hb
  replace hZ := hZ.below hb
  replace ho1 := ho1.below hb
  replace hw := keep_below hb hw
  clear hb tt130 tt131
  clear HM2
  go_upto_region 10 with (fail)
  replace ho1 := ho1.prs
  replace ho2 := ho2.prs
  go_cut [103] (fun s103 wr => s103 = .bool false ∧ Byt wr C n ∧ IntS wr A X ∧ IntS wr B Y ∧ IntS wr Q1 L ∧ IntS wr Q2 M ∧ BlkT wr gT (.slice A X.length c) (.slice B Y.length d) ∧ PairB wr gZ cN cM ∧ Prs wr R1 R ∧ Below w.heap.size w wr)
  case first =>
    cases mo with
    | false =>
      have hcf : cok = false := by
        cases cok
        · rfl
        · exact absurd (HCo.out rfl) (by decide)
      subst hcf
      go_wp2_with fail
      refine (rFracs_same R1 R2 r1 r2 R _ ho1 ho2 HRl.out).mono ?_
      rintro e1 wl15 ⟨rfl, hb⟩
      replace hB := hB.below hb
      replace hA := hA.below hb
      replace hY := hY.below hb
      replace hL := hL.below hb
      replace hM := hM.below hb
      replace hT := hT.below hb
      replace hZ := hZ.below hb
      replace ho1 := ho1.below hb
      replace hw := keep_below hb hw
      clear hb
      go_wp2_with fail
      go_meet
      go_split_ands
      exact ⟨rfl, hB, hA, hY, hL, hM, hT, hZ, ho1, hw⟩
    | true =>
      cases cok with
      | false =>
        go_wp2_with fail
        refine (rFracs_same R1 R2 r1 r2 R _ ho1 ho2 HRl.out).mono ?_
        rintro e1 wl16 ⟨rfl, hb⟩
        replace hB := hB.below hb
        replace hA := hA.below hb
        replace hY := hY.below hb
        replace hL := hL.below hb
        replace hM := hM.below hb
        replace hT := hT.below hb
        replace hZ := hZ.below hb
        replace ho1 := ho1.below hb
        replace hw := keep_below hb hw
        clear hb
        go_wp2_with fail
        go_meet
        go_split_ands
        exact ⟨rfl, hB, hA, hY, hL, hM, hT, hZ, ho1, hw⟩
      | true =>
        go_wp2_with fail
        refine (rFracs_same R1 R2 r1 r2 R _ ho1 ho2 HRl.out).mono ?_
        rintro e1 wl17 ⟨rfl, hb⟩
        replace hB := hB.below hb
        replace hA := hA.below hb
        replace hY := hY.below hb
        replace hL := hL.below hb
        replace hM := hM.below hb
        replace hT := hT.below hb
        replace hZ := hZ.below hb
        replace ho1 := ho1.below hb
        replace hw := keep_below hb hw
        clear hb
        go_wp2_with fail
        go_meet
        go_split_ands
        exact ⟨rfl, hB, hA, hY, hL, hM, hT, hZ, ho1, hw⟩
  clear ho2
  clear hB hA hY hL hM hT hZ ho1 hw
  obtain ⟨rfl, hB, hA, hY, hL, hM, hT, hZ, ho1, hw⟩ := hcut
  as_aux_lemma =>
    go_upto_region 12 with (fail)
    have tt180 := hT.c0
    have tt181 := hT.c1
    go_wp2_with fail
    refine (HV1.out _ hA hY hL).mono ?_
    rintro e1 wl19 ⟨rfl, hb⟩
    replace hB := hB.below hb
    replace hA := hA.below hb
    replace hY := hY.below hb
    replace hL := hL.below hb
    replace hM := hM.below hb
    replace hT := hT.below hb
    replace hZ := hZ.below hb
    replace ho1 := ho1.below hb
    replace hw := keep_below hb hw
    clear hb tt180 tt181
    clear HV1
    go_upto_region 13 with (fail)
    obtain ⟨wb20, hwn⟩ : ∃ W, W = wl19.alloc (.cells #[.int .i64 vN, .int .i64 vM] 51) := ⟨_, rfl⟩
    have hU : PairB wb20 wl19.heap.size (vN) (vM) := by rw [hwn]; exact heap_alloc_new wl19 _
    have hbA : Below wl19.heap.size wl19 wb20 := by rw [hwn]; exact (Below.refl _ _).alloc (Nat.le_refl _) _
    replace hB := hB.below hbA
    replace hA := hA.below hbA
    replace hY := hY.below hbA
    replace hL := hL.below hbA
    replace hM := hM.below hbA
    replace hT := hT.below hbA
    replace hZ := hZ.below hbA
    replace ho1 := ho1.below hbA
    replace hw := keep_below hbA hw
    (try rw [← hwn])
    clear hwn hbA
    generalize wl19.heap.size = gU at hU ⊢
    have tt210 := hT.c0
    have tt211 := hT.c1
    go_wp2_with fail
    refine (HV2.out _ hA hY hL).mono ?_
    rintro e1 wl22 ⟨rfl, hb⟩
    replace hB := hB.below hb
    replace hA := hA.below hb
    replace hY := hY.below hb
    replace hL := hL.below hb
    replace hM := hM.below hb
    replace hT := hT.below hb
    replace hZ := hZ.below hb
    replace ho1 := ho1.below hb
    replace hU := hU.below hb
    replace hw := keep_below hb hw
    clear hb tt210 tt211
    clear HV2
    go_upto_region 14 with (fail)
    obtain ⟨wb23, hwn⟩ : ∃ W, W = wl22.alloc (.cells #[.int .i64 vN, .int .i64 vM] 51) := ⟨_, rfl⟩
    have hU2 : PairB wb23 wl22.heap.size (vN) (vM) := by rw [hwn]; exact heap_alloc_new wl22 _
    have hbA : Below wl22.heap.size wl22 wb23 := by rw [hwn]; exact (Below.refl _ _).alloc (Nat.le_refl _) _
    replace hB := hB.below hbA
    replace hA := hA.below hbA
    replace hY := hY.below hbA
    replace hL := hL.below hbA
    replace hM := hM.below hbA
    replace hT := hT.below hbA
    replace hZ := hZ.below hbA
    replace ho1 := ho1.below hbA
    replace hU := hU.below hbA
    replace hw := keep_below hbA hw
    (try rw [← hwn])
    clear hwn hbA
    generalize wl22.heap.size = gU2 at hU2 ⊢
    have hQ2 := eqA2_same vN vM
    have hv0 : ¬ vN < 0 := by omega
    have tt240 := hU.c0
    have tt241 := hU.c1
    have tt250 := hU2.c0
    have tt251 := hU2.c1
    go_upto_region 16 with (fail)
    clear tt240 tt241 tt250 tt251 hU hU2 hQ2 hv0 hvn
    go_wp2_with fail
    refine (HD2.out _ hB).mono ?_
    rintro e1 wl26 ⟨X2, Y2, M2, z, A2, B2, Q3, c2, d2, q2, rfl, hA2, hY2, hV, hX2, hYl2, hMl2, bX2, bY2, hz, bV, hb⟩
    replace hB := hB.below hb
    replace hA := hA.below hb
    replace hY := hY.below hb
    replace hL := hL.below hb
    replace hM := hM.below hb
    replace hT := hT.below hb
    replace hZ := hZ.below hb
    replace ho1 := ho1.below hb
    replace hw := keep_below hb hw
    clear hb
    clear HD2
    go_upto_region 17 with (fail)
    obtain ⟨wb27, hwn⟩ : ∃ W, W = wl26.alloc (.cells #[.slice A2 X2.length c2, .slice B2 Y2.length d2] 28) := ⟨_, rfl⟩
    have hG : BlkT wb27 wl26.heap.size (.slice A2 X2.length c2) (.slice B2 Y2.length d2) := by rw [hwn]; exact BlkT.new wl26 _ _ rfl
    have hbA : Below wl26.heap.size wl26 wb27 := by rw [hwn]; exact (Below.refl _ _).alloc (Nat.le_refl _) _
    replace hB := hB.below hbA
    replace hA := hA.below hbA
    replace hY := hY.below hbA
    replace hL := hL.below hbA
    replace hM := hM.below hbA
    replace hT := hT.below hbA
    replace hZ := hZ.below hbA
    replace ho1 := ho1.below hbA
    replace hA2 := hA2.below hbA
    replace hY2 := hY2.below hbA
    replace hV := hV.below hbA
    replace hw := keep_below hbA hw
    (try rw [← hwn])
    clear hwn hbA
    generalize wl26.heap.size = gG at hG ⊢
    have HP1 := fun W (h : IntS W A2 X2) (k : IntS W B2 Y2) (z1 : IntS W Q3 M2) => implPaysAtCut_any A2 B2 c2 d2 X2 Y2 z Q3 q2 M2 W h k z1 bX2 bY2 bV hz (by omega) (by omega) (by omega)
    have HP2 := fun W (h : IntS W A2 X2) (k : IntS W B2 Y2) (z1 : IntS W Q3 M2) => specPaysAtCut_any A2 B2 c2 d2 X2 Y2 z Q3 q2 M2 W h k z1 bX2 bY2 bV hz (by omega) (by omega) (by omega)
    have hlR := pcR_len24 X2 Y2 M2 z
    have hbR := pcR_bd X2 Y2 M2 z bV
    have hkc : pcOk X2 Y2 z M2 = true → kaOk X2 Y2 (pcR X2 Y2 z M2) = true ∧ kaR X2 Y2 (pcR X2 Y2 z M2) ≤ z := known_cut
    generalize pcR X2 Y2 z M2 = RP at HP1 HP2 hlR hbR hkc
    generalize pcOk X2 Y2 z M2 = th at HP1 HP2 hkc
    have HKn := fun W Q4 q4 (h : IntS W A2 X2) (k : IntS W B2 Y2) (z1 : IntS W Q4 RP) => implKnownAt_any A2 B2 c2 d2 X2 Y2 Q4 q4 RP W h k z1 bX2 bY2 hbR (by omega) (by omega) (by omega)
    generalize kaR X2 Y2 RP = kz at HKn hkc
    generalize kaOk X2 Y2 RP = ko at HKn hkc
    have HKc := Lib.hid hkc
    replace HP1 := Lib.hid HP1
    replace HP2 := Lib.hid HP2
    replace HKn := Lib.hid HKn
    clear hkc hbR bX2 bY2 bV hX2 hYl2 hMl2
    have tt280 := hG.c0
    have tt281 := hG.c1
    go_wp2_with fail
    refine (HP1.out _ hA2 hY2 hV).mono ?_
    rintro e1 wl29 ⟨G1, g1, rfl, hoG, hb⟩
    replace hB := hB.below hb
    replace hA := hA.below hb
    replace hY := hY.below hb
    replace hL := hL.below hb
    replace hM := hM.below hb
    replace hT := hT.below hb
    replace hZ := hZ.below hb
    replace ho1 := ho1.below hb
    replace hA2 := hA2.below hb
    replace hY2 := hY2.below hb
    replace hV := hV.below hb
    replace hG := hG.below hb
    replace hw := keep_below hb hw
    clear hb tt280 tt281
    have tt300 := hG.c0
    have tt301 := hG.c1
    go_wp2_with fail
    refine (HP2.out _ hA2 hY2 hV).mono ?_
    rintro e1 wl31 ⟨G2, g2, rfl, hoG2, hb⟩
    replace hB := hB.below hb
    replace hA := hA.below hb
    replace hY := hY.below hb
    replace hL := hL.below hb
    replace hM := hM.below hb
    replace hT := hT.below hb
    replace hZ := hZ.below hb
    replace ho1 := ho1.below hb
    replace hA2 := hA2.below hb
    replace hY2 := hY2.below hb
    replace hG := hG.below hb
    replace hoG := hoG.below hb
    replace hw := keep_below hb hw
    clear hb tt300 tt301
    clear HP1 HP2 hV
    replace hoG := hoG.ints
    replace hoG2 := hoG2.ints
    go_wp2_with fail
    refine (rInts_same G1 G2 g1 g2 RP _ hoG hoG2 (by omega)).mono ?_
    rintro e1 wl32 ⟨rfl, hb⟩
    replace hB := hB.below hb
    replace hA := hA.below hb
    replace hY := hY.below hb
    replace hL := hL.below hb
    replace hM := hM.below hb
    replace hT := hT.below hb
    replace hZ := hZ.below hb
    replace ho1 := ho1.below hb
    replace hA2 := hA2.below hb
    replace hY2 := hY2.below hb
    replace hG := hG.below hb
    replace hoG := hoG.below hb
    replace hw := keep_below hb hw
    clear hb
    clear hoG2
    go_upto_region 21 with (fail)
    go_wp2_with fail
    refine (HD3.out _ hB).mono ?_
    rintro e1 wl33 ⟨X3, Y3, L3, A3, B3, Q5, c3, d3, q5, rfl, hA3, hY3, hL3, hX3, hYl3, hLl3, bX3, bY3, bL3, hb⟩
    replace hA := hA.below hb
    replace hY := hY.below hb
    replace hL := hL.below hb
    replace hM := hM.below hb
    replace hT := hT.below hb
    replace hZ := hZ.below hb
    replace ho1 := ho1.below hb
    replace hA2 := hA2.below hb
    replace hY2 := hY2.below hb
    replace hG := hG.below hb
    replace hoG := hoG.below hb
    replace hw := keep_below hb hw
    clear hb
    clear HD3 hB
    go_upto_region 22 with (fail)
    obtain ⟨wb34, hwn⟩ : ∃ W, W = wl33.alloc (.cells #[.slice A3 X3.length c3, .slice B3 Y3.length d3] 28) := ⟨_, rfl⟩
    have hH : BlkT wb34 wl33.heap.size (.slice A3 X3.length c3) (.slice B3 Y3.length d3) := by rw [hwn]; exact BlkT.new wl33 _ _ rfl
    have hbA : Below wl33.heap.size wl33 wb34 := by rw [hwn]; exact (Below.refl _ _).alloc (Nat.le_refl _) _
    replace hA := hA.below hbA
    replace hY := hY.below hbA
    replace hL := hL.below hbA
    replace hM := hM.below hbA
    replace hT := hT.below hbA
    replace hZ := hZ.below hbA
    replace ho1 := ho1.below hbA
    replace hA2 := hA2.below hbA
    replace hY2 := hY2.below hbA
    replace hG := hG.below hbA
    replace hoG := hoG.below hbA
    replace hA3 := hA3.below hbA
    replace hY3 := hY3.below hbA
    replace hL3 := hL3.below hbA
    replace hw := keep_below hbA hw
    (try rw [← hwn])
    clear hwn hbA
    generalize wl33.heap.size = gH at hH ⊢
    have HK1 := Lib.hid (fun W (h : IntS W A3 X3) (k : IntS W B3 Y3) (z1 : IntS W Q5 L3) => implKnownAt_any A3 B3 c3 d3 X3 Y3 Q5 q5 L3 W h k z1 bX3 bY3 bL3 (by omega) (by omega) (by omega))
    have HK2 := Lib.hid (fun W (h : IntS W A3 X3) (k : IntS W B3 Y3) (z1 : IntS W Q5 L3) => specKnownAt_any A3 B3 c3 d3 X3 Y3 Q5 q5 L3 W h k z1 bX3 bY3 bL3 (by omega) (by omega) (by omega))
    generalize kaR X3 Y3 L3 = kz3 at HK1 HK2
    generalize kaOk X3 Y3 L3 = ko3 at HK1 HK2
    clear bX3 bY3 bL3 hX3 hYl3 hLl3
    have tt350 := hH.c0
    have tt351 := hH.c1
    go_wp2_with fail
    refine (HK1.out _ hA3 hY3 hL3).mono ?_
    rintro e1 wl36 ⟨rfl, hb⟩
    replace hA := hA.below hb
    replace hY := hY.below hb
    replace hL := hL.below hb
    replace hM := hM.below hb
    replace hT := hT.below hb
    replace hZ := hZ.below hb
    replace ho1 := ho1.below hb
    replace hA2 := hA2.below hb
    replace hY2 := hY2.below hb
    replace hG := hG.below hb
    replace hoG := hoG.below hb
    replace hA3 := hA3.below hb
    replace hY3 := hY3.below hb
    replace hL3 := hL3.below hb
    replace hH := hH.below hb
    replace hw := keep_below hb hw
    clear hb tt350 tt351
    have tt370 := hH.c0
    have tt371 := hH.c1
    go_wp2_with fail
    refine (HK2.out _ hA3 hY3 hL3).mono ?_
    rintro e1 wl38 ⟨rfl, hb⟩
    replace hA := hA.below hb
    replace hY := hY.below hb
    replace hL := hL.below hb
    replace hM := hM.below hb
    replace hT := hT.below hb
    replace hZ := hZ.below hb
    replace ho1 := ho1.below hb
    replace hA2 := hA2.below hb
    replace hY2 := hY2.below hb
    replace hG := hG.below hb
    replace hoG := hoG.below hb
    replace hw := keep_below hb hw
    clear hb tt370 tt371
    clear HK1 HK2 hA3 hY3 hL3 hH
    go_upto_if 183 with (fail)
    go_cut [] (fun wr => IntS wr A X ∧ IntS wr B Y ∧ IntS wr Q1 L ∧ IntS wr Q2 M ∧ BlkT wr gT (.slice A X.length c) (.slice B Y.length d) ∧ PairB wr gZ cN cM ∧ Prs wr R1 R ∧ Below w.heap.size w wr)
    case first =>
      cases th with
      | false =>
        go_wp2_with fail
        go_meet
        go_split_ands
        exact ⟨hA, hY, hL, hM, hT, hZ, ho1, hw⟩
      | true =>
        obtain ⟨hko, hkz⟩ := HKc.out rfl
        have hkz2 : ¬ z < kz := by omega
        subst hko
        have tt390 := hG.c0
        have tt391 := hG.c1
        go_wp2_with fail
        refine (HKn.out _ _ _ hA2 hY2 hoG).mono ?_
        rintro e1 wl40 ⟨rfl, hb⟩
        replace hA := hA.below hb
        replace hY := hY.below hb
        replace hL := hL.below hb
        replace hM := hM.below hb
        replace hT := hT.below hb
        replace hZ := hZ.below hb
        replace ho1 := ho1.below hb
        replace hA2 := hA2.below hb
        replace hY2 := hY2.below hb
        replace hG := hG.below hb
        replace hoG := hoG.below hb
        replace hw := keep_below hb hw
        clear hb tt390 tt391
        go_wp2_with fail
        go_meet
        go_split_ands
        exact ⟨hA, hY, hL, hM, hT, hZ, ho1, hw⟩
    clear hA2 hY2 hoG hG HKn HKc
    clear hA hY hL hM hT hZ ho1 hw
    obtain ⟨hA, hY, hL, hM, hT, hZ, ho1, hw⟩ := hcut
    as_aux_lemma =>
      go_upto_if 197 with (fail)
      go_cut [] (fun wr => IntS wr A X ∧ IntS wr B Y ∧ IntS wr Q1 L ∧ BlkT wr gT (.slice A X.length c) (.slice B Y.length d) ∧ Prs wr R1 R ∧ Below w.heap.size w wr)
      case first =>
        cases cok with
        | false =>
          go_wp2_with fail
          go_meet
          go_split_ands
          exact ⟨hA, hY, hL, hT, ho1, hw⟩
        | true =>
          have tt410 := hT.c0
          have tt411 := hT.c1
          go_wp2_with fail
          refine (HC3.out _ hA hY hL hM).mono ?_
          rintro e1 wl42 ⟨rfl, hb⟩
          replace hA := hA.below hb
          replace hY := hY.below hb
          replace hL := hL.below hb
          replace hM := hM.below hb
          replace hT := hT.below hb
          replace hZ := hZ.below hb
          replace ho1 := ho1.below hb
          replace hw := keep_below hb hw
          clear hb tt410 tt411
          go_upto_region 32 with (fail)
          obtain ⟨wb43, hwn⟩ : ∃ W, W = wl42.alloc (.cells #[.int .i64 cN, .int .i64 cM] 51) := ⟨_, rfl⟩
          have hZ3 : PairB wb43 wl42.heap.size (cN) (cM) := by rw [hwn]; exact heap_alloc_new wl42 _
          have hbA : Below wl42.heap.size wl42 wb43 := by rw [hwn]; exact (Below.refl _ _).alloc (Nat.le_refl _) _
          replace hA := hA.below hbA
          replace hY := hY.below hbA
          replace hL := hL.below hbA
          replace hM := hM.below hbA
          replace hT := hT.below hbA
          replace hZ := hZ.below hbA
          replace ho1 := ho1.below hbA
          replace hw := keep_below hbA hw
          (try rw [← hwn])
          clear hwn hbA
          generalize wl42.heap.size = gZ3 at hZ3 ⊢
          have tt440 := hZ.c0
          have tt441 := hZ.c1
          have tt450 := hZ3.c0
          have tt451 := hZ3.c1
          go_wp2_with fail
          go_meet
          go_split_ands
          exact ⟨hA, hY, hL, hT, ho1, hw⟩
      clear hM hZ HC3 hQ1 HCo
      clear hA hY hL hT ho1 hw
      obtain ⟨hA, hY, hL, hT, ho1, hw⟩ := hcut
      as_aux_lemma =>
        cases mo with
        | false =>
          go_wp2
          go_ret
          exact ⟨rfl, hw⟩
        | true =>
          have hmo := HMo.out
          unfold mnsOk at hmo
          simp only [Bool.and_eq_true] at hmo
          obtain ⟨hg, hpay⟩ := hmo
          have hsr : sumR X Y = sumsL X Y := by unfold sumR; rw [hg]; rfl
          have hHS1 := HS1.out
          have hHS2 := HS2.out
          simp only [hg, hsr] at hHS1 hHS2
          have hR := HR.out
          rw [mnsR_yes HMo.out] at hR
          have HRn : Hid (∀ j, j < X.length → nthp R j = (lowX (nth (totL X Y L) j) (nth (sumsL X Y) j), lowY (nth (totL X Y L) j) (nth (sumsL X Y) j))) := fun j hj => by rw [← hR]; exact mns_len X Y L j hj
          have HRx : Hid (R.length = X.length) := by rw [← hR]; exact Lib.hid (mnsK_len X Y L X.length)
          have HTb : Hid (∀ j, -479520 ≤ nth (totL X Y L) j ∧ nth (totL X Y L) j ≤ 479520) := fun j => by
            have := tot_bd hg (vs := L) (V := 999) (fun j => by have := (pay_iff hpay).2 j; omega) j
            omega
          have HSb : Hid (∀ j, j < X.length → 1 ≤ nth (sumsL X Y) j ∧ nth (sumsL X Y) j ≤ 480) := fun j hj => ⟨sums_one hg hj, (sums_bd hg j).2⟩
          have HPs : Hid (∀ k, k < X.length → psum X (totL X Y L) k k = 0) := fun k hk => psum_start hg _ hk
          have HPe : Hid (∀ k, k < X.length → nth Y k = 0 → nth (totL X Y L) k = psum X (totL X Y L) k (X.length - 1)) := fun k hk h0 => tot_inner hg L h0
          have HYw : Hid (∀ k, 0 ≤ nth Y k) := fun k => (good_wt hg k).1
          have HSx : Hid ((sumsL X Y).length = X.length) := sums_len hg
          have hgl := good_len hg
          have hX1 : 1 ≤ X.length := hgl.1
          have HYX : Hid (Y.length = X.length) := hgl.2.2
          have H1 := Lib.hid hHS1
          have H2 := Lib.hid hHS2
          clear hgl hR hsr hg hpay hHS1 hHS2 HS1 HS2 HMo HR bL hL
          generalize totL X Y L = TT at HRn HTb HPs HPe
          generalize sumsL X Y = SS at H1 H2 HRn HSb HSx
          have hX24 := HX.out
          have tt460 := hT.c0
          have tt461 := hT.c1
          go_wp2_with fail
          refine (H1.out _ hA hY).mono ?_
          rintro e1 wl47 ⟨S1, s1, rfl, hoS, hb⟩
          replace hA := hA.below hb
          replace hY := hY.below hb
          replace hT := hT.below hb
          replace ho1 := ho1.below hb
          replace hw := keep_below hb hw
          clear hb tt460 tt461
          have tt480 := hT.c0
          have tt481 := hT.c1
          go_wp2_with fail
          refine (H2.out _ hA hY).mono ?_
          rintro e1 wl49 ⟨S2, s2, rfl, hoS2, hb⟩
          replace hA := hA.below hb
          replace hY := hY.below hb
          replace hT := hT.below hb
          replace ho1 := ho1.below hb
          replace hoS := hoS.below hb
          replace hw := keep_below hb hw
          clear hb tt480 tt481
          have hiS := hoS.ints
          have hiS2 := hoS2.ints
          go_wp2_with fail
          refine (rInts_same S1 S2 s1 s2 SS _ hiS hiS2 (by rw [HSx.out]; omega)).mono ?_
          rintro e1 wl50 ⟨rfl, hb⟩
          replace hA := hA.below hb
          replace hY := hY.below hb
          replace hT := hT.below hb
          replace ho1 := ho1.below hb
          replace hoS := hoS.below hb
          replace hw := keep_below hb hw
          clear hb
          clear hoS2 hiS hiS2
          obtain ⟨bB, oB, rfl, -⟩ := hY.at_ (j := 0) (by rw [HYX.out]; omega)
          obtain ⟨bA, oA, rfl, -⟩ := hA.at_ (j := 0) (by omega)
          obtain ⟨gS, rfl, -, hrS⟩ := hoS.pos (by rw [HSx.out]; omega)
          obtain ⟨gR, rfl, hrR⟩ := ho1 (by rw [HRx.out]; omega)
          clear hoS ho1 H1 H2
          as_aux_lemma =>
            clear HYl hX24 hX1
            have hX24 := HX.out
            go_wp2
            go_loopw [39, 40, 41, 42, 43, 44, 45] (fun i _ _ _ _ _ _ wr => ∃ k : Nat, k ≤ X.length ∧ i = .int .i64 k ∧ BlkT wr gT (.slice (some ⟨bA, oA, none⟩) X.length c) (.slice (some ⟨bB, oB, none⟩) Y.length d) ∧ IntS wr (some ⟨bA, oA, none⟩) X ∧ IntS wr (some ⟨bB, oB, none⟩) Y ∧ Row2 wr gR R ∧ Row wr gS SS ∧ Below w.heap.size w wr) (fun i _ _ _ _ _ _ _ => X.length - (intOf i).toNat)
            case atStart => exact ⟨0, by omega, rfl, hT, hA, hY, hrR, hrS, hw⟩
            case round =>
              clear hT hA hY hrR hrS hw
              obtain ⟨k, hk, rfl, hT, hA, hY, hrR, hrS, hw⟩ := hrel
              obtain ⟨wo, rfl⟩ : ∃ W, W = wr := ⟨wr, rfl⟩
              by_cases hlt : k < X.length
              case neg =>
                have i1 : ¬ (k : Int) < R.length := by rw [HRx.out]; omega
                go_wp2
                go_ret
                exact ⟨rfl, hw⟩
              have i1 : (k : Int) < R.length := by rw [HRx.out]; omega
              have i2 : (0 : Int) ≤ k := by omega
              have i3 : (k : Int) < Y.length := by rw [HYX.out]; omega
              have u1 : IntKind.i64.wrap ((k : Int) + 1) = (k : Int) + 1 := IntWalk.i64_in _ (by omega)
              obtain ⟨b9, o9, he9, hcY⟩ := hY.at_ (j := k) (by rw [HYX.out]; omega)
              cases he9
              have t1 := hT.c1
              have hw0 := HYw.out k
              by_cases hwt : 0 < nth Y k
              case pos =>
                go_wp2
                go_roundw
                case rel => exact ⟨k + 1, by omega, by go_num, hT, hA, hY, hrR, hrS, hw⟩
                case measure => simp [intOf]; omega
              have hwz := Lib.hid (show nth Y k = 0 by omega)
              go_upto_region 45 with (fail)
              clear t1 hcY hwt hw0
              obtain ⟨wN, hwn⟩ : ∃ W, W = wo.alloc (.cells #[.int .i64 0, .int .i64 1] 51) := ⟨_, rfl⟩
              have hN : PairB wN wo.heap.size 0 1 := by rw [hwn]; exact heap_alloc_new wo _
              have hbN : Below wo.heap.size wo wN := by rw [hwn]; exact (Below.refl _ _).alloc (Nat.le_refl _) _
              rw [← hwn]
              clear hwn
              go_wp2
              go_loopw [41, 42, 43, 44, 45] (fun y _ _ _ _ wr => ∃ (j : Nat) (pN qN : Int), k + 1 ≤ j ∧ j ≤ X.length ∧ y = .int .i64 j ∧ PairB wr wo.heap.size pN qN ∧ Part pN qN (nth SS k) (psum X TT k (j - 1)) ∧ Below wo.heap.size wo wr) (fun y _ _ _ _ _ => X.length - (intOf y).toNat)
              case atStart => exact ⟨k + 1, 0, 1, by omega, by omega, by go_num, hN, by rw [show k + 1 - 1 = k from rfl, HPs.out k hlt]; exact part_zero _, hbN⟩
              case round =>
                clear hN hbN
                obtain ⟨j, pN, qN, hj1, hj2, rfl, hN, hPt, hbi⟩ := hrel
                by_cases hjt : j < X.length
                case neg =>
                  have hjn : j = X.length := by omega
                  have j1 : ¬ (j : Int) < R.length := by rw [HRx.out]; omega
                  have hPt2 : Part pN qN (nth SS k) (nth TT k) := by rw [HPe.out k hlt hwz.out, ← hjn]; exact hPt
                  have he := part_end hPt2 (HSb.out k hlt).1
                  have hrn := HRn.out k hlt
                  rw [he.1, he.2] at hrn
                  have c0 := (hrR.below hbi).cell0 (j := k) (by rw [HRx.out]; exact hlt)
                  have c1 := (hrR.below hbi).cell1 (j := k) (by rw [HRx.out]; exact hlt)
                  rw [hrn] at c0 c1
                  dsimp only at c0 c1
                  have n0 := hN.c0
                  have n1 := hN.c1
                  have hQ := eqA2_same pN qN
                  clear hPt hPt2 he hrn hj1 hj2 hjt hjn hN
                  go_wp2
                  go_still (by kernel_rfl)
                  go_wp2
                  go_roundw
                  case rel =>
                    have hbE := hbi.drew
                    exact ⟨k + 1, by omega, by go_num, hT.below hbE, hA.below hbE, hY.below hbE, hrR.below hbE, hrS.below hbE, keep_below hbE hw⟩
                  case measure => simp [intOf]; omega
                have j1 : (j : Int) < R.length := by rw [HRx.out]; omega
                have j0 : (0 : Int) ≤ j := by omega
                have j3 : (j : Int) < X.length := by omega
                have hps := psum_at (xs := X) (R := TT) (x := k) (j := j) (by omega)
                obtain ⟨b8, o8, he8, hcX⟩ := (hA.below hbi).at_ (j := j) hjt
                cases he8
                have t0 := (hT.below hbi).c0
                by_cases hp : nth X j = (k : Int)
                case neg =>
                  have hpb : (nth X j == (k : Int)) = false := by rw [beq_eq_false_iff_ne]; exact hp
                  rw [if_neg hp, Int.add_zero] at hps
                  have hPt2 : Part pN qN (nth SS k) (psum X TT k j) := by rw [hps]; exact hPt
                  have HP2 := Lib.hid hPt2
                  clear hp hps hPt hPt2
                  go_wp2
                  go_roundw
                  case rel => exact ⟨j + 1, pN, qN, by omega, by omega, by go_num, hN, HP2.out, hbi⟩
                  case measure => simp [intOf]; omega
                rw [if_pos hp] at hps
                rw [hp] at hcX
                have c0 := (hrR.below hbi).cell0 (j := j) (by rw [HRx.out]; exact hjt)
                have c1 := (hrR.below hbi).cell1 (j := j) (by rw [HRx.out]; exact hjt)
                rw [HRn.out j hjt] at c0 c1
                dsimp only at c0 c1
                have s0 := (hrS.below hbi).cell (j := j) (by rw [HSx.out]; exact hjt)
                have s1 := (hrS.below hbi).cell (j := k) (by rw [HSx.out]; exact hlt)
                have q1 : (j : Int) < SS.length := by rw [HSx.out]; exact j3
                have q2 : (k : Int) < SS.length := by rw [HSx.out]; omega
                obtain ⟨-, -, f3, f4, f5, f6, f7⟩ := fo_part (HTb.out j) (HSb.out j hjt) (HSb.out k hlt)
                have HPT := Lib.hid hPt
                have HPS := Lib.hid hps
                generalize lowX (nth TT j) (nth SS j) = Nj at c0 f3 f5 f6 f7
                generalize lowY (nth TT j) (nth SS j) = Dj at c1 f4 f5 f6 f7
                have HF := fun W => implFractionOf_any (Nj * nth SS j) (Dj * nth SS k) W (by omega) (by omega)
                unfold FracV at HF
                rw [f5] at HF
                have m1 : IntKind.i64.wrap (Nj * nth SS j) = Nj * nth SS j := IntWalk.i64_in _ (by omega)
                have m2 : IntKind.i64.wrap (Dj * nth SS k) = Dj * nth SS k := IntWalk.i64_in _ (by omega)
                generalize foN (Nj * nth SS j) (Dj * nth SS k) = pu at HF f6 f7
                generalize foM (Nj * nth SS j) (Dj * nth SS k) = pv at HF f6 f7
                have HAd := fun W => implAdd_any pN qN pu pv W
                change ∀ W, Calls _ _ _ W fun e w' => e = .returned (FracV (addN pN qN pu pv) (addM pN qN pu pv) (addOk pN qN pu pv)) ∧ _ at HAd
                unfold FracV at HAd
                have HSt : Hid (addOk pN qN pu pv = true → Part (addN pN qN pu pv) (addM pN qN pu pv) (nth SS k) (psum X TT k j)) := fun ok => by rw [HPS.out]; exact part_step HPT.out f6 f7 ok
                generalize addN pN qN pu pv = ap at HAd HSt
                generalize addM pN qN pu pv = aq at HAd HSt
                generalize addOk pN qN pu pv = aok at HAd HSt
                replace HF := Lib.hid HF
                replace HAd := Lib.hid HAd
                clear hp hps hPt f3 f4 f5 f6 f7 HPT HPS
                go_upto_region 49 with (fail)
                clear hcX t0
                have hgRl := hrR.lt
                have hgSl := hrS.lt
                have hwO := hw
                clear hw
                have hw := hbi
                clear hbi
                refine wp_region_held_drew (S := fun w' => w'.cell? ⟨gR, j * 2, none⟩ = some (.int .i64 Nj) ∧ w'.cell? ⟨gR, j * 2 + 1, none⟩ = some (.int .i64 Dj) ∧ w'.cell? ⟨gS, j, none⟩ = some (.int .i64 (nth SS j)) ∧ w'.cell? ⟨gS, k, none⟩ = some (.int .i64 (nth SS k)) ∧ Below wo.heap.size wo w') (by kernel_rfl) ⟨c0, c1, s0, s1, hw.drew⟩ (fun hHeld => ?_)
                refine wpAnyH_take (i := 0) (oi := ?oov1) (v := ?vvv1) ?hiv1 (by kernel_rfl) (by kernel_rfl) (by kernel_rfl) ?hqv1 (Or.inl ⟨?hgv1, ?hyv1⟩) (by assumption) ?restv1
                case hiv1 => simp only [List.getElem?_toArray, List.getElem?_cons_zero]; rfl
                case hqv1 => exact fun _ _ _ h => h
                case hgv1 => rfl
                case hyv1 =>
                  intro wq hSw
                  obtain ⟨c0, c1, s0, s1, hw⟩ := hSw
                  go_simp
                  (try with_reducible rfl)
                (try simp only [Act.put, List.setIfInBounds_toArray, List.set_cons_zero, List.set_cons_succ])
                refine wpAnyH_take (i := 1) (oi := ?oov2) (v := ?vvv2) ?hiv2 (by kernel_rfl) (by kernel_rfl) (by kernel_rfl) ?hqv2 (Or.inl ⟨?hgv2, ?hyv2⟩) (by assumption) ?restv2
                case hiv2 => simp only [List.getElem?_toArray, List.getElem?_cons_zero, List.getElem?_cons_succ]; rfl
                case hqv2 => exact fun _ _ _ h => h
                case hgv2 => rfl
                case hyv2 =>
                  intro wq hSw
                  obtain ⟨c0, c1, s0, s1, hw⟩ := hSw
                  go_simp
                  (try with_reducible rfl)
                (try simp only [Act.put, List.setIfInBounds_toArray, List.set_cons_zero, List.set_cons_succ])
                refine wpAnyH_take (i := 2) (oi := ?oov3) (v := ?vvv3) ?hiv3 (by kernel_rfl) (by kernel_rfl) (by kernel_rfl) ?hqv3 (Or.inl ⟨?hgv3, ?hyv3⟩) (by assumption) ?restv3
                case hiv3 => simp only [List.getElem?_toArray, List.getElem?_cons_zero, List.getElem?_cons_succ]; rfl
                case hqv3 => exact fun _ _ _ h => h
                case hgv3 => rfl
                case hyv3 =>
                  intro wq hSw
                  obtain ⟨c0, c1, s0, s1, hw⟩ := hSw
                  go_simp
                  (try with_reducible rfl)
                (try simp only [Act.put, List.setIfInBounds_toArray, List.set_cons_zero, List.set_cons_succ])
                refine wpAnyH_take (i := 3) (oi := ?oov4) (v := ?vvv4) ?hiv4 (by kernel_rfl) (by kernel_rfl) (by kernel_rfl) ?hqv4 (Or.inl ⟨?hgv4, ?hyv4⟩) (by assumption) ?restv4
                case hiv4 => simp only [List.getElem?_toArray, List.getElem?_cons_zero, List.getElem?_cons_succ]; rfl
                case hqv4 => exact fun _ _ _ h => h
                case hgv4 => rfl
                case hyv4 =>
                  intro wq hSw
                  obtain ⟨c0, c1, s0, s1, hw⟩ := hSw
                  go_simp
                  (try with_reducible rfl)
                (try simp only [Act.put, List.setIfInBounds_toArray, List.set_cons_zero, List.set_cons_succ])
                refine wpAnyH_take (i := 4) (oi := ?oov5) (v := ?vvv5) ?hiv5 (by kernel_rfl) (by kernel_rfl) (by kernel_rfl) ?hqv5 (Or.inl ⟨?hgv5, ?hyv5⟩) (by assumption) ?restv5
                case hiv5 => simp only [List.getElem?_toArray, List.getElem?_cons_zero, List.getElem?_cons_succ]; rfl
                case hqv5 => exact fun _ _ _ h => h
                case hgv5 => rfl
                case hyv5 =>
                  intro wq hSw
                  obtain ⟨c0, c1, s0, s1, hw⟩ := hSw
                  go_simp
                  (try with_reducible rfl)
                (try simp only [Act.put, List.setIfInBounds_toArray, List.set_cons_zero, List.set_cons_succ])
                refine wpAnyH_take (i := 5) (oi := ?oov6) (v := ?vvv6) ?hiv6 (by kernel_rfl) (by kernel_rfl) (by kernel_rfl) ?hqv6 (Or.inl ⟨?hgv6, ?hyv6⟩) (by assumption) ?restv6
                case hiv6 => simp only [List.getElem?_toArray, List.getElem?_cons_zero, List.getElem?_cons_succ]; rfl
                case hqv6 => exact fun _ _ _ h => h
                case hgv6 => rfl
                case hyv6 =>
                  intro wq hSw
                  obtain ⟨c0, c1, s0, s1, hw⟩ := hSw
                  go_simp
                  (try with_reducible rfl)
                (try simp only [Act.put, List.setIfInBounds_toArray, List.set_cons_zero, List.set_cons_succ])
                refine wpAnyH_take (i := 6) (oi := ?oov7) (v := ?vvv7) ?hiv7 (by kernel_rfl) (by kernel_rfl) (by kernel_rfl) ?hqv7 (Or.inl ⟨?hgv7, ?hyv7⟩) (by assumption) ?restv7
                case hiv7 => simp only [List.getElem?_toArray, List.getElem?_cons_zero, List.getElem?_cons_succ]; rfl
                case hqv7 => exact fun _ _ _ h => h
                case hgv7 => rfl
                case hyv7 =>
                  intro wq hSw
                  obtain ⟨c0, c1, s0, s1, hw⟩ := hSw
                  go_simp
                  (try with_reducible rfl)
                (try simp only [Act.put, List.setIfInBounds_toArray, List.set_cons_zero, List.set_cons_succ])
                refine wpAnyH_take (i := 7) (oi := ?oov8) (v := ?vvv8) ?hiv8 (by kernel_rfl) (by kernel_rfl) (by kernel_rfl) ?hqv8 (Or.inl ⟨?hgv8, ?hyv8⟩) (by assumption) ?restv8
                case hiv8 => simp only [List.getElem?_toArray, List.getElem?_cons_zero, List.getElem?_cons_succ]; rfl
                case hqv8 => exact fun _ _ _ h => h
                case hgv8 => rfl
                case hyv8 =>
                  intro wq hSw
                  obtain ⟨c0, c1, s0, s1, hw⟩ := hSw
                  go_simp
                  (try with_reducible rfl)
                (try simp only [Act.put, List.setIfInBounds_toArray, List.set_cons_zero, List.set_cons_succ])
                refine wpAnyH_take (i := 8) (oi := ?oov9) (v := ?vvv9) ?hiv9 (by kernel_rfl) (by kernel_rfl) (by kernel_rfl) ?hqv9 (Or.inl ⟨?hgv9, ?hyv9⟩) (by assumption) ?restv9
                case hiv9 => simp only [List.getElem?_toArray, List.getElem?_cons_zero, List.getElem?_cons_succ]; rfl
                case hqv9 => exact fun _ _ _ h => h
                case hgv9 => rfl
                case hyv9 =>
                  intro wq hSw
                  obtain ⟨c0, c1, s0, s1, hw⟩ := hSw
                  go_simp
                  (try with_reducible rfl)
                (try simp only [Act.put, List.setIfInBounds_toArray, List.set_cons_zero, List.set_cons_succ])
                refine wpAnyH_take (i := 9) (oi := ?oov10) (v := ?vvv10) ?hiv10 (by kernel_rfl) (by kernel_rfl) (by kernel_rfl) ?hqv10 (Or.inl ⟨?hgv10, ?hyv10⟩) (by assumption) ?restv10
                case hiv10 => simp only [List.getElem?_toArray, List.getElem?_cons_zero, List.getElem?_cons_succ]; rfl
                case hqv10 => exact fun _ _ _ h => h
                case hgv10 => rfl
                case hyv10 =>
                  intro wq hSw
                  obtain ⟨c0, c1, s0, s1, hw⟩ := hSw
                  go_simp
                  (try with_reducible rfl)
                (try simp only [Act.put, List.setIfInBounds_toArray, List.set_cons_zero, List.set_cons_succ])
                refine wpAnyH_take (i := 10) (oi := ?oov11) (v := ?vvv11) ?hiv11 (by kernel_rfl) (by kernel_rfl) (by kernel_rfl) ?hqv11 (Or.inl ⟨?hgv11, ?hyv11⟩) (by assumption) ?restv11
                case hiv11 => simp only [List.getElem?_toArray, List.getElem?_cons_zero, List.getElem?_cons_succ]; rfl
                case hqv11 => exact fun _ _ _ h => h
                case hgv11 => rfl
                case hyv11 =>
                  intro wq hSw
                  obtain ⟨c0, c1, s0, s1, hw⟩ := hSw
                  go_simp
                  (try with_reducible rfl)
                (try simp only [Act.put, List.setIfInBounds_toArray, List.set_cons_zero, List.set_cons_succ])
                refine wpAnyH_take (i := 11) (oi := ?oov12) (v := ?vvv12) ?hiv12 (by kernel_rfl) (by kernel_rfl) (by kernel_rfl) ?hqv12 (Or.inl ⟨?hgv12, ?hyv12⟩) (by assumption) ?restv12
                case hiv12 => simp only [List.getElem?_toArray, List.getElem?_cons_zero, List.getElem?_cons_succ]; rfl
                case hqv12 => exact fun _ _ _ h => h
                case hgv12 => rfl
                case hyv12 =>
                  intro wq hSw
                  obtain ⟨c0, c1, s0, s1, hw⟩ := hSw
                  go_simp
                  (try with_reducible rfl)
                (try simp only [Act.put, List.setIfInBounds_toArray, List.set_cons_zero, List.set_cons_succ])
                refine wpAnyH_take (i := 12) (oi := ?oov13) (v := ?vvv13) ?hiv13 (by kernel_rfl) (by kernel_rfl) (by kernel_rfl) ?hqv13 (Or.inl ⟨?hgv13, ?hyv13⟩) (by assumption) ?restv13
                case hiv13 => simp only [List.getElem?_toArray, List.getElem?_cons_zero, List.getElem?_cons_succ]; rfl
                case hqv13 => exact fun _ _ _ h => h
                case hgv13 => rfl
                case hyv13 =>
                  intro wq hSw
                  obtain ⟨c0, c1, s0, s1, hw⟩ := hSw
                  go_simp
                  (try with_reducible rfl)
                (try simp only [Act.put, List.setIfInBounds_toArray, List.set_cons_zero, List.set_cons_succ])
                refine wpAnyH_take (i := 13) (oi := ?oov14) (v := ?vvv14) ?hiv14 (by kernel_rfl) (by kernel_rfl) (by kernel_rfl) ?hqv14 (Or.inl ⟨?hgv14, ?hyv14⟩) (by assumption) ?restv14
                case hiv14 => simp only [List.getElem?_toArray, List.getElem?_cons_zero, List.getElem?_cons_succ]; rfl
                case hqv14 => exact fun _ _ _ h => h
                case hgv14 => rfl
                case hyv14 =>
                  intro wq hSw
                  obtain ⟨c0, c1, s0, s1, hw⟩ := hSw
                  go_simp
                  (try with_reducible rfl)
                (try simp only [Act.put, List.setIfInBounds_toArray, List.set_cons_zero, List.set_cons_succ])
                refine wpAnyH_take (i := 14) (oi := ?oov15) (v := ?vvv15) ?hiv15 (by kernel_rfl) (by kernel_rfl) (by kernel_rfl) ?hqv15 (Or.inl ⟨?hgv15, ?hyv15⟩) (by assumption) ?restv15
                case hiv15 => simp only [List.getElem?_toArray, List.getElem?_cons_zero, List.getElem?_cons_succ]; rfl
                case hqv15 => exact fun _ _ _ h => h
                case hgv15 => rfl
                case hyv15 =>
                  intro wq hSw
                  obtain ⟨c0, c1, s0, s1, hw⟩ := hSw
                  go_simp
                  (try with_reducible rfl)
                (try simp only [Act.put, List.setIfInBounds_toArray, List.set_cons_zero, List.set_cons_succ])
                refine wpAnyH_take (i := 15) (oi := ?oov16) (v := ?vvv16) ?hiv16 (by kernel_rfl) (by kernel_rfl) (by kernel_rfl) ?hqv16 (Or.inl ⟨?hgv16, ?hyv16⟩) (by assumption) ?restv16
                case hiv16 => simp only [List.getElem?_toArray, List.getElem?_cons_zero, List.getElem?_cons_succ]; rfl
                case hqv16 => exact fun _ _ _ h => h
                case hgv16 => rfl
                case hyv16 =>
                  intro wq hSw
                  obtain ⟨c0, c1, s0, s1, hw⟩ := hSw
                  go_simp
                  (try with_reducible rfl)
                (try simp only [Act.put, List.setIfInBounds_toArray, List.set_cons_zero, List.set_cons_succ])
                refine wpAnyH_take (i := 16) (oi := ?oov17) (v := ?vvv17) ?hiv17 (by kernel_rfl) (by kernel_rfl) (by kernel_rfl) ?hqv17 (Or.inl ⟨?hgv17, ?hyv17⟩) (by assumption) ?restv17
                case hiv17 => simp only [List.getElem?_toArray, List.getElem?_cons_zero, List.getElem?_cons_succ]; rfl
                case hqv17 => exact fun _ _ _ h => h
                case hgv17 => rfl
                case hyv17 =>
                  intro wq hSw
                  obtain ⟨c0, c1, s0, s1, hw⟩ := hSw
                  go_simp
                  (try with_reducible rfl)
                (try simp only [Act.put, List.setIfInBounds_toArray, List.set_cons_zero, List.set_cons_succ])
                refine wpAnyH_take (i := 17) (oi := ?oov18) (v := ?vvv18) ?hiv18 (by kernel_rfl) (by kernel_rfl) (by kernel_rfl) ?hqv18 (Or.inl ⟨?hgv18, ?hyv18⟩) (by assumption) ?restv18
                case hiv18 => simp only [List.getElem?_toArray, List.getElem?_cons_zero, List.getElem?_cons_succ]; rfl
                case hqv18 => exact fun _ _ _ h => h
                case hgv18 => rfl
                case hyv18 =>
                  intro wq hSw
                  obtain ⟨c0, c1, s0, s1, hw⟩ := hSw
                  go_simp
                  (try with_reducible rfl)
                (try simp only [Act.put, List.setIfInBounds_toArray, List.set_cons_zero, List.set_cons_succ])
                refine wpAnyH_take (i := 18) (oi := ?oov19) (v := ?vvv19) ?hiv19 (by kernel_rfl) (by kernel_rfl) (by kernel_rfl) ?hqv19 (Or.inl ⟨?hgv19, ?hyv19⟩) (by assumption) ?restv19
                case hiv19 => simp only [List.getElem?_toArray, List.getElem?_cons_zero, List.getElem?_cons_succ]; rfl
                case hqv19 => exact fun _ _ _ h => h
                case hgv19 => rfl
                case hyv19 =>
                  intro wq hSw
                  obtain ⟨c0, c1, s0, s1, hw⟩ := hSw
                  go_simp
                  (try with_reducible rfl)
                (try simp only [Act.put, List.setIfInBounds_toArray, List.set_cons_zero, List.set_cons_succ])
                refine wpAnyH_take (i := 19) (oi := ?oov20) (v := ?vvv20) ?hiv20 (by kernel_rfl) (by kernel_rfl) (by kernel_rfl) ?hqv20 (Or.inl ⟨?hgv20, ?hyv20⟩) (by assumption) ?restv20
                case hiv20 => simp only [List.getElem?_toArray, List.getElem?_cons_zero, List.getElem?_cons_succ]; rfl
                case hqv20 => exact fun _ _ _ h => h
                case hgv20 => rfl
                case hyv20 =>
                  intro wq hSw
                  obtain ⟨c0, c1, s0, s1, hw⟩ := hSw
                  go_simp
                  (try with_reducible rfl)
                (try simp only [Act.put, List.setIfInBounds_toArray, List.set_cons_zero, List.set_cons_succ])
                refine wpAnyH_ready (rs := [20, 24]) (by kernel_rfl) (by simp) ?_
                refine AllReadyH.cons (i := 20) (o := ?oov21) ?hov21 (fun K9 hK9 => ?hstepv21) ?morev21
                case hov21 => simp only [List.getElem?_toArray, List.getElem?_cons_zero, List.getElem?_cons_succ]; rfl
                case hstepv21 =>
                  go_simp
                  refine (HF.out _).mono ?_
                  rintro e1 wzv21 ⟨rfl, hb⟩
                  replace hb : Below wr.heap.size wr wzv21 := ⟨hb.os, hb.tape, hb.output, hb.size, hb.block⟩
                  replace c0 := keep_cell hb c0
                  replace c1 := keep_cell hb c1
                  replace s0 := keep_cell hb s0
                  replace s1 := keep_cell hb s1
                  replace hN := hN.below hb
                  replace hw := keep_below hb hw
                  clear hHeld
                  go_wp2_with fail
                  refine hK9.out _ _ ⟨c0, c1, s0, s1, hw⟩ (fun hHeld => ?_)
                  clear hK9 K9 hb
                  (try simp only [Act.put, List.setIfInBounds_toArray, List.set_cons_zero, List.set_cons_succ])
                  refine wpAnyH_take (i := 21) (oi := ?oov22) (v := ?vvv22) ?hiv22 (by kernel_rfl) (by kernel_rfl) (by kernel_rfl) ?hqv22 (Or.inl ⟨?hgv22, ?hyv22⟩) (by assumption) ?restv22
                  case hiv22 => simp only [List.getElem?_toArray, List.getElem?_cons_zero, List.getElem?_cons_succ]; rfl
                  case hqv22 => exact fun _ _ _ h => h
                  case hgv22 => rfl
                  case hyv22 =>
                    intro wq hSw
                    obtain ⟨c0, c1, s0, s1, hw⟩ := hSw
                    go_simp
                    (try with_reducible rfl)
                  (try simp only [Act.put, List.setIfInBounds_toArray, List.set_cons_zero, List.set_cons_succ])
                  refine wpAnyH_take (i := 22) (oi := ?oov23) (v := ?vvv23) ?hiv23 (by kernel_rfl) (by kernel_rfl) (by kernel_rfl) ?hqv23 (Or.inl ⟨?hgv23, ?hyv23⟩) (by assumption) ?restv23
                  case hiv23 => simp only [List.getElem?_toArray, List.getElem?_cons_zero, List.getElem?_cons_succ]; rfl
                  case hqv23 => exact fun _ _ _ h => h
                  case hgv23 => rfl
                  case hyv23 =>
                    intro wq hSw
                    obtain ⟨c0, c1, s0, s1, hw⟩ := hSw
                    go_simp
                    (try with_reducible rfl)
                  (try simp only [Act.put, List.setIfInBounds_toArray, List.set_cons_zero, List.set_cons_succ])
                  refine wpAnyH_take (i := 23) (oi := ?oov24) (v := ?vvv24) ?hiv24 (by kernel_rfl) (by kernel_rfl) (by kernel_rfl) ?hqv24 (Or.inl ⟨?hgv24, ?hyv24⟩) (by assumption) ?restv24
                  case hiv24 => simp only [List.getElem?_toArray, List.getElem?_cons_zero, List.getElem?_cons_succ]; rfl
                  case hqv24 => exact fun _ _ _ h => h
                  case hgv24 => rfl
                  case hyv24 =>
                    intro wq hSw
                    obtain ⟨c0, c1, s0, s1, hw⟩ := hSw
                    go_simp
                    (try with_reducible rfl)
                  (try simp only [Act.put, List.setIfInBounds_toArray, List.set_cons_zero, List.set_cons_succ])
                  refine wpAnyH_ready (rs := [24]) (by kernel_rfl) (by simp) ?_
                  refine AllReadyH.cons (i := 24) (o := ?oov25) ?hov25 (fun K9 hK9 => ?hstepv25) AllReadyH.nil
                  case hov25 => simp only [List.getElem?_toArray, List.getElem?_cons_zero, List.getElem?_cons_succ]; rfl
                  go_simp
                  clear hHeld
                  refine hK9.out _ _ ⟨keep_cell ((Below.refl wzv21.heap.size wzv21).alloc (Nat.le_refl _) _) c0, keep_cell ((Below.refl wzv21.heap.size wzv21).alloc (Nat.le_refl _) _) c1, keep_cell ((Below.refl wzv21.heap.size wzv21).alloc (Nat.le_refl _) _) s0, keep_cell ((Below.refl wzv21.heap.size wzv21).alloc (Nat.le_refl _) _) s1, keep_below_alloc hw _⟩ (fun hHeld => ?_)
                  clear hK9 K9
                  (try simp only [Act.put, List.setIfInBounds_toArray, List.set_cons_zero, List.set_cons_succ])
                  refine wpAnyH_name hHeld (fun wav25 hHa hwz => ?_)
                  have hbA : Below wzv21.heap.size wzv21 wav25 := by rw [hwz]; exact (Below.refl wzv21.heap.size wzv21).alloc (Nat.le_refl _) _
                  have hG : PairB wav25 wzv21.heap.size 0 0 := by rw [hwz]; exact heap_alloc_new _ _
                  have hGl : wo.heap.size < wzv21.heap.size := hN.lt
                  replace c0 := keep_cell hbA c0
                  replace c1 := keep_cell hbA c1
                  replace s0 := keep_cell hbA s0
                  replace s1 := keep_cell hbA s1
                  replace hN := hN.below hbA
                  replace hw := keep_below hbA hw
                  generalize wzv21.heap.size = gG at hG hGl ⊢
                  clear hHeld hbA hwz
                  have hHeld := hHa
                  clear hHa
                  refine wpAnyH_ready (rs := [25]) (by kernel_rfl) (by simp) ?_
                  refine AllReadyH.cons (i := 25) (o := ?oov26) ?hov26 (fun K9 hK9 => ?hstepv26) AllReadyH.nil
                  case hov26 => simp only [List.getElem?_toArray, List.getElem?_cons_zero, List.getElem?_cons_succ]; rfl
                  have gg0 := hG.c0
                  have gg1 := hG.c1
                  have gf0 := hG.free 0
                  have gf1 := hG.free 1
                  go_simp
                  clear hHeld
                  refine hK9.out _ _ ⟨cell_far (g := gG) (cell_far (g := gG) c0 (by simp; omega) 0) (by simp; omega) 1, cell_far (g := gG) (cell_far (g := gG) c1 (by simp; omega) 0) (by simp; omega) 1, cell_far (g := gG) (cell_far (g := gG) s0 (by simp; omega) 0) (by simp; omega) 1, cell_far (g := gG) (cell_far (g := gG) s1 (by simp; omega) 0) (by simp; omega) 1, Below.setCell' (p := ⟨gG, 1, none⟩) (by first | omega | (simp; done) | (simp; omega)) (Below.setCell' (p := ⟨gG, 0, none⟩) (by first | omega | (simp; done) | (simp; omega)) hw _) _⟩ (fun hHeld => ?_)
                  clear hK9 K9
                  (try simp only [Act.put, List.setIfInBounds_toArray, List.set_cons_zero, List.set_cons_succ])
                  refine wpAnyH_name hHeld (fun wyv26 hHa hwz => ?_)
                  replace c0 : wyv26.cell? ⟨gR, j * 2, none⟩ = some (.int .i64 Nj) := by rw [hwz]; exact cell_far (g := gG) (cell_far (g := gG) c0 (by simp; omega) 0) (by simp; omega) 1
                  replace c1 : wyv26.cell? ⟨gR, j * 2 + 1, none⟩ = some (.int .i64 Dj) := by rw [hwz]; exact cell_far (g := gG) (cell_far (g := gG) c1 (by simp; omega) 0) (by simp; omega) 1
                  replace s0 : wyv26.cell? ⟨gS, j, none⟩ = some (.int .i64 (nth SS j)) := by rw [hwz]; exact cell_far (g := gG) (cell_far (g := gG) s0 (by simp; omega) 0) (by simp; omega) 1
                  replace s1 : wyv26.cell? ⟨gS, k, none⟩ = some (.int .i64 (nth SS k)) := by rw [hwz]; exact cell_far (g := gG) (cell_far (g := gG) s1 (by simp; omega) 0) (by simp; omega) 1
                  replace hw : Below wo.heap.size wo wyv26 := by rw [hwz]; exact Below.setCell' (p := ⟨gG, 1, none⟩) (by first | omega | (simp; done) | (simp; omega)) (Below.setCell' (p := ⟨gG, 0, none⟩) (by first | omega | (simp; done) | (simp; omega)) hw _) _
                  replace hG : PairB wyv26 gG pu pv := by rw [hwz]; exact hG.put pu pv
                  replace hN : PairB wyv26 wo.heap.size pN qN := by rw [hwz]; exact (hN.far (by omega) 0 _).far (by omega) 1 _
                  clear gg0 gg1 gf0 gf1
                  clear hHeld hwz
                  have hHeld := hHa
                  clear hHa
                  refine wpAnyH_take (i := 26) (oi := ?oov27) (v := ?vvv27) ?hiv27 (by kernel_rfl) (by kernel_rfl) (by kernel_rfl) ?hqv27 (Or.inl ⟨?hgv27, ?hyv27⟩) (by assumption) ?restv27
                  case hiv27 => simp only [List.getElem?_toArray, List.getElem?_cons_zero, List.getElem?_cons_succ]; rfl
                  case hqv27 => exact fun _ _ _ h => h
                  case hgv27 => rfl
                  case hyv27 =>
                    intro wq hSw
                    obtain ⟨c0, c1, s0, s1, hw⟩ := hSw
                    go_simp
                    (try with_reducible rfl)
                  (try simp only [Act.put, List.setIfInBounds_toArray, List.set_cons_zero, List.set_cons_succ])
                  clear hHeld
                  refine wpAnyH_done (by kernel_rfl) ?_ _
                  have hbi := hw
                  clear hw
                  have hw := hwO
                  clear hwO c0 c1 s0 s1 HF m1 m2 hgRl hgSl hGl
                  go_upto_region 50 with (fail)
                  have n0 := hN.c0
                  have n1 := hN.c1
                  have p0 := hG.c0
                  have p1 := hG.c1
                  go_wp2_with fail
                  refine (HAd.out _).mono ?_
                  rintro e1 wa ⟨rfl, hbf⟩
                  clear n0 n1 p0 p1 hG
                  replace hN := hN.below hbf
                  replace hbi := keep_below hbf hbi
                  clear hbf HAd
                  go_upto_region 51 with (fail)
                  obtain ⟨wH, hwn⟩ : ∃ W, W = wa.alloc (.cells #[.int .i64 ap, .int .i64 aq] 51) := ⟨_, rfl⟩
                  have hG : PairB wH wa.heap.size ap aq := by rw [hwn]; exact heap_alloc_new wa _
                  have hbA : Below wa.heap.size wa wH := by rw [hwn]; exact (Below.refl _ _).alloc (Nat.le_refl _) _
                  replace hN := hN.below hbA
                  replace hbi := keep_below hbA hbi
                  rw [← hwn]
                  clear hwn hbA
                  generalize wa.heap.size = gH at hG ⊢
                  cases aok with
                  | false =>
                    go_wp2
                    go_ret
                    exact ⟨rfl, keep_below hbi hw⟩
                  | true =>
                    have n0 := hN.c0
                    have n1 := hN.c1
                    have nf0 := hN.free 0
                    have nf1 := hN.free 1
                    have p0 := hG.c0
                    have p1 := hG.c1
                    have hN2 := hN.put ap aq
                    have hb2 : Below wo.heap.size wo ((wH.setCell ⟨wo.heap.size, 0, none⟩ (.int .i64 ap)).setCell ⟨wo.heap.size, 1, none⟩ (.int .i64 aq)) := Below.setCell' (p := ⟨wo.heap.size, 1, none⟩) (Nat.le_refl _) (Below.setCell' (p := ⟨wo.heap.size, 0, none⟩) (Nat.le_refl _) hbi _) _
                    have HN2 := Lib.hid hN2
                    have HB2 := Lib.hid hb2
                    clear hN hG hbi hN2 hb2
                    go_wp2
                    go_roundw
                    case rel => exact ⟨j + 1, ap, aq, by omega, by omega, by go_num, HN2.out, HSt.out rfl, HB2.out⟩
                    case measure => simp [intOf]; omega
                refine AllReadyH.cons (i := 24) (o := ?oov28) ?hov28 (fun K9 hK9 => ?hstepv28) ?morev28
                case hov28 => simp only [List.getElem?_toArray, List.getElem?_cons_zero, List.getElem?_cons_succ]; rfl
                case hstepv28 =>
                  go_simp
                  clear hHeld
                  refine hK9.out _ _ ⟨keep_cell (Below.drew ((Below.refl wr.heap.size wr).alloc (Nat.le_refl _) _)) c0, keep_cell (Below.drew ((Below.refl wr.heap.size wr).alloc (Nat.le_refl _) _)) c1, keep_cell (Below.drew ((Below.refl wr.heap.size wr).alloc (Nat.le_refl _) _)) s0, keep_cell (Below.drew ((Below.refl wr.heap.size wr).alloc (Nat.le_refl _) _)) s1, Below.drew (keep_below_alloc hw _)⟩ (fun hHeld => ?_)
                  clear hK9 K9
                  (try simp only [Act.put, List.setIfInBounds_toArray, List.set_cons_zero, List.set_cons_succ])
                  refine wpAnyH_name hHeld (fun wav28 hHa hwz => ?_)
                  have hbA : Below wr.heap.size wr wav28 := by rw [hwz]; exact Below.drew ((Below.refl wr.heap.size wr).alloc (Nat.le_refl _) _)
                  have hG : PairB wav28 wr.heap.size 0 0 := by rw [hwz]; exact heap_alloc_new _ _
                  have hGl : wo.heap.size < wr.heap.size := hN.lt
                  replace c0 := keep_cell hbA c0
                  replace c1 := keep_cell hbA c1
                  replace s0 := keep_cell hbA s0
                  replace s1 := keep_cell hbA s1
                  replace hN := hN.below hbA
                  replace hw := keep_below hbA hw
                  generalize wr.heap.size = gG at hG hGl ⊢
                  clear hHeld hbA hwz
                  have hHeld := hHa
                  clear hHa
                  refine wpAnyH_ready (rs := [20]) (by kernel_rfl) (by simp) ?_
                  refine AllReadyH.cons (i := 20) (o := ?oov29) ?hov29 (fun K9 hK9 => ?hstepv29) AllReadyH.nil
                  case hov29 => simp only [List.getElem?_toArray, List.getElem?_cons_zero, List.getElem?_cons_succ]; rfl
                  go_simp
                  refine (HF.out _).mono ?_
                  rintro e1 wzv29 ⟨rfl, hb⟩
                  replace c0 := keep_cell hb c0
                  replace c1 := keep_cell hb c1
                  replace s0 := keep_cell hb s0
                  replace s1 := keep_cell hb s1
                  replace hN := hN.below hb
                  replace hG := hG.below hb
                  replace hw := keep_below hb hw
                  clear hHeld
                  go_wp2_with fail
                  refine hK9.out _ _ ⟨c0, c1, s0, s1, hw⟩ (fun hHeld => ?_)
                  clear hK9 K9 hb
                  (try simp only [Act.put, List.setIfInBounds_toArray, List.set_cons_zero, List.set_cons_succ])
                  refine wpAnyH_take (i := 21) (oi := ?oov30) (v := ?vvv30) ?hiv30 (by kernel_rfl) (by kernel_rfl) (by kernel_rfl) ?hqv30 (Or.inl ⟨?hgv30, ?hyv30⟩) (by assumption) ?restv30
                  case hiv30 => simp only [List.getElem?_toArray, List.getElem?_cons_zero, List.getElem?_cons_succ]; rfl
                  case hqv30 => exact fun _ _ _ h => h
                  case hgv30 => rfl
                  case hyv30 =>
                    intro wq hSw
                    obtain ⟨c0, c1, s0, s1, hw⟩ := hSw
                    go_simp
                    (try with_reducible rfl)
                  (try simp only [Act.put, List.setIfInBounds_toArray, List.set_cons_zero, List.set_cons_succ])
                  refine wpAnyH_take (i := 22) (oi := ?oov31) (v := ?vvv31) ?hiv31 (by kernel_rfl) (by kernel_rfl) (by kernel_rfl) ?hqv31 (Or.inl ⟨?hgv31, ?hyv31⟩) (by assumption) ?restv31
                  case hiv31 => simp only [List.getElem?_toArray, List.getElem?_cons_zero, List.getElem?_cons_succ]; rfl
                  case hqv31 => exact fun _ _ _ h => h
                  case hgv31 => rfl
                  case hyv31 =>
                    intro wq hSw
                    obtain ⟨c0, c1, s0, s1, hw⟩ := hSw
                    go_simp
                    (try with_reducible rfl)
                  (try simp only [Act.put, List.setIfInBounds_toArray, List.set_cons_zero, List.set_cons_succ])
                  refine wpAnyH_take (i := 23) (oi := ?oov32) (v := ?vvv32) ?hiv32 (by kernel_rfl) (by kernel_rfl) (by kernel_rfl) ?hqv32 (Or.inl ⟨?hgv32, ?hyv32⟩) (by assumption) ?restv32
                  case hiv32 => simp only [List.getElem?_toArray, List.getElem?_cons_zero, List.getElem?_cons_succ]; rfl
                  case hqv32 => exact fun _ _ _ h => h
                  case hgv32 => rfl
                  case hyv32 =>
                    intro wq hSw
                    obtain ⟨c0, c1, s0, s1, hw⟩ := hSw
                    go_simp
                    (try with_reducible rfl)
                  (try simp only [Act.put, List.setIfInBounds_toArray, List.set_cons_zero, List.set_cons_succ])
                  refine wpAnyH_ready (rs := [25]) (by kernel_rfl) (by simp) ?_
                  refine AllReadyH.cons (i := 25) (o := ?oov33) ?hov33 (fun K9 hK9 => ?hstepv33) AllReadyH.nil
                  case hov33 => simp only [List.getElem?_toArray, List.getElem?_cons_zero, List.getElem?_cons_succ]; rfl
                  have gg0 := hG.c0
                  have gg1 := hG.c1
                  have gf0 := hG.free 0
                  have gf1 := hG.free 1
                  go_simp
                  clear hHeld
                  refine hK9.out _ _ ⟨cell_far (g := gG) (cell_far (g := gG) c0 (by simp; omega) 0) (by simp; omega) 1, cell_far (g := gG) (cell_far (g := gG) c1 (by simp; omega) 0) (by simp; omega) 1, cell_far (g := gG) (cell_far (g := gG) s0 (by simp; omega) 0) (by simp; omega) 1, cell_far (g := gG) (cell_far (g := gG) s1 (by simp; omega) 0) (by simp; omega) 1, Below.setCell' (p := ⟨gG, 1, none⟩) (by first | omega | (simp; done) | (simp; omega)) (Below.setCell' (p := ⟨gG, 0, none⟩) (by first | omega | (simp; done) | (simp; omega)) hw _) _⟩ (fun hHeld => ?_)
                  clear hK9 K9
                  (try simp only [Act.put, List.setIfInBounds_toArray, List.set_cons_zero, List.set_cons_succ])
                  refine wpAnyH_name hHeld (fun wyv33 hHa hwz => ?_)
                  replace c0 : wyv33.cell? ⟨gR, j * 2, none⟩ = some (.int .i64 Nj) := by rw [hwz]; exact cell_far (g := gG) (cell_far (g := gG) c0 (by simp; omega) 0) (by simp; omega) 1
                  replace c1 : wyv33.cell? ⟨gR, j * 2 + 1, none⟩ = some (.int .i64 Dj) := by rw [hwz]; exact cell_far (g := gG) (cell_far (g := gG) c1 (by simp; omega) 0) (by simp; omega) 1
                  replace s0 : wyv33.cell? ⟨gS, j, none⟩ = some (.int .i64 (nth SS j)) := by rw [hwz]; exact cell_far (g := gG) (cell_far (g := gG) s0 (by simp; omega) 0) (by simp; omega) 1
                  replace s1 : wyv33.cell? ⟨gS, k, none⟩ = some (.int .i64 (nth SS k)) := by rw [hwz]; exact cell_far (g := gG) (cell_far (g := gG) s1 (by simp; omega) 0) (by simp; omega) 1
                  replace hw : Below wo.heap.size wo wyv33 := by rw [hwz]; exact Below.setCell' (p := ⟨gG, 1, none⟩) (by first | omega | (simp; done) | (simp; omega)) (Below.setCell' (p := ⟨gG, 0, none⟩) (by first | omega | (simp; done) | (simp; omega)) hw _) _
                  replace hG : PairB wyv33 gG pu pv := by rw [hwz]; exact hG.put pu pv
                  replace hN : PairB wyv33 wo.heap.size pN qN := by rw [hwz]; exact (hN.far (by omega) 0 _).far (by omega) 1 _
                  clear gg0 gg1 gf0 gf1
                  clear hHeld hwz
                  have hHeld := hHa
                  clear hHa
                  refine wpAnyH_take (i := 26) (oi := ?oov34) (v := ?vvv34) ?hiv34 (by kernel_rfl) (by kernel_rfl) (by kernel_rfl) ?hqv34 (Or.inl ⟨?hgv34, ?hyv34⟩) (by assumption) ?restv34
                  case hiv34 => simp only [List.getElem?_toArray, List.getElem?_cons_zero, List.getElem?_cons_succ]; rfl
                  case hqv34 => exact fun _ _ _ h => h
                  case hgv34 => rfl
                  case hyv34 =>
                    intro wq hSw
                    obtain ⟨c0, c1, s0, s1, hw⟩ := hSw
                    go_simp
                    (try with_reducible rfl)
                  (try simp only [Act.put, List.setIfInBounds_toArray, List.set_cons_zero, List.set_cons_succ])
                  clear hHeld
                  refine wpAnyH_done (by kernel_rfl) ?_ _
                  have hbi := hw
                  clear hw
                  have hw := hwO
                  clear hwO c0 c1 s0 s1 HF m1 m2 hgRl hgSl hGl
                  go_upto_region 50 with (fail)
                  have n0 := hN.c0
                  have n1 := hN.c1
                  have p0 := hG.c0
                  have p1 := hG.c1
                  go_wp2_with fail
                  refine (HAd.out _).mono ?_
                  rintro e1 wa ⟨rfl, hbf⟩
                  clear n0 n1 p0 p1 hG
                  replace hN := hN.below hbf
                  replace hbi := keep_below hbf hbi
                  clear hbf HAd
                  go_upto_region 51 with (fail)
                  obtain ⟨wH, hwn⟩ : ∃ W, W = wa.alloc (.cells #[.int .i64 ap, .int .i64 aq] 51) := ⟨_, rfl⟩
                  have hG : PairB wH wa.heap.size ap aq := by rw [hwn]; exact heap_alloc_new wa _
                  have hbA : Below wa.heap.size wa wH := by rw [hwn]; exact (Below.refl _ _).alloc (Nat.le_refl _) _
                  replace hN := hN.below hbA
                  replace hbi := keep_below hbA hbi
                  rw [← hwn]
                  clear hwn hbA
                  generalize wa.heap.size = gH at hG ⊢
                  cases aok with
                  | false =>
                    go_wp2
                    go_ret
                    exact ⟨rfl, keep_below hbi hw⟩
                  | true =>
                    have n0 := hN.c0
                    have n1 := hN.c1
                    have nf0 := hN.free 0
                    have nf1 := hN.free 1
                    have p0 := hG.c0
                    have p1 := hG.c1
                    have hN2 := hN.put ap aq
                    have hb2 : Below wo.heap.size wo ((wH.setCell ⟨wo.heap.size, 0, none⟩ (.int .i64 ap)).setCell ⟨wo.heap.size, 1, none⟩ (.int .i64 aq)) := Below.setCell' (p := ⟨wo.heap.size, 1, none⟩) (Nat.le_refl _) (Below.setCell' (p := ⟨wo.heap.size, 0, none⟩) (Nat.le_refl _) hbi _) _
                    have HN2 := Lib.hid hN2
                    have HB2 := Lib.hid hb2
                    clear hN hG hbi hN2 hb2
                    go_wp2
                    go_roundw
                    case rel => exact ⟨j + 1, ap, aq, by omega, by omega, by go_num, HN2.out, HSt.out rfl, HB2.out⟩
                    case measure => simp [intOf]; omega
                exact AllReadyH.nil
end Go.Proofs.Ytombfbmcplefgaa
