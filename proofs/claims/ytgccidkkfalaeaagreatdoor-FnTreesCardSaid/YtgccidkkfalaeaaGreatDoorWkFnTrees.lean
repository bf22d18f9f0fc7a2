/- The walk of FnTrees. -/
import Derived.IntWalk
import Derived.StillTailTactics
import Derived.Deep.DeepCutAuto
import Derived.Test.YtgccidkkfalaeaaGreatDoorMgTr36
import Derived.Test.YtgccidkkfalaeaaGreatDoorMgTr22
import Derived.Test.YtgccidkkfalaeaaGreatDoorMgTr9
import Derived.Test.YtgccidkkfalaeaaGreatDoorMgTr26
import Derived.Test.YtgccidkkfalaeaaGreatDoorMgTr27
import Derived.Test.YtgccidkkfalaeaaGreatDoorMgTr16
namespace Go.Proofs.YtgccidkkfalaeaaGreatDoor
open Go.ChangeShapes Go.WideShapes Go.ChangeAt Go.RowKit
open Go.ChangeMaps (open_string shut_string)
set_option maxHeartbeats 16000000 in
set_option maxRecDepth 100000 in
theorem FnTrees_walk (C : Option Addr) (n cc : Nat) (w : World) (hC : n ≤ cc ∧ cc ≤ maxLen ∧ Byt w C n) (hF : TabE w ∧ SynC w ∧ MaxC w) :
    Calls Tryz.prog 3 #[.slice C n cc] w fun e w' => e = .returned (.bool true) ∧ Below w.heap.size w w' := by
  obtain ⟨_, _, hB⟩ := hC
  obtain ⟨hTt, hSs, hMm⟩ := hF
  by_cases hbig : 65536 < n
  · have HBg := Lib.hid (fun W => rBig_any C n cc W)
    rw [decide_eq_true hbig] at HBg
    clear hB
    go_enter Tryz.func3, Tryz.ntmps3
    go_wp2_with fail
    refine (HBg.out _).mono ?_
    rintro e1 w1 ⟨rfl, rfl⟩
    go_wp2
    go_ret
    exact ⟨rfl, Below.refl _ _⟩
  have HBg := Lib.hid (fun W => rBig_any C n cc W)
  rw [decide_eq_false hbig] at HBg
  have hn : n ≤ 1000000 := by omega
  have hw := Below.refl w.heap.size w
  have HD1 := Lib.hid (fun W (h : Byt W C n) => drawCut_any C n cc W h hn)
  have HD2 := Lib.hid (fun W (h : Byt W C n) => drawPT_any C n cc W h hn)
  have HD3 := Lib.hid (fun W (h : Byt W C n) => drawWay_any C n cc W h hn)
  have HTb := Lib.hid (fun W (h : Below w.heap.size w W) => hTt.below h)
  have HSy := Lib.hid (fun W (h : Below w.heap.size w W) => hSs.below h)
  have HMx := Lib.hid (fun W (h : Below w.heap.size w W) => hMm.below h)
  clear hbig hn hTt hSs hMm
  go_enter Tryz.func3, Tryz.ntmps3
  go_wp2_with fail
  refine (HBg.out _).mono ?_
  rintro e1 w1 ⟨rfl, e9⟩
  have e8 := e9.symm
  clear e9
  subst e8
  clear HBg
  go_wp2_with fail
  refine (HD1.out _ hB).mono ?_
  rintro e1 wl1 ⟨X, Y, z, A, B, c, d, rfl, hA, hY, hX, hYl, bX, bY, hz, hb⟩
  replace hB := hB.below hb
  replace hw := keep_below hb hw
  clear hb
  clear HD1
  go_upto_region 4 with (fail)
  obtain ⟨wb2, hwn⟩ : ∃ W, W = wl1.alloc (.cells #[.slice A X.length c, .slice B Y.length d] 26) := ⟨_, rfl⟩
  have hT : BlkT wb2 wl1.heap.size (.slice A X.length c) (.slice B Y.length d) := by rw [hwn]; exact BlkT.new wl1 _ _ rfl
  have hbA : Below wl1.heap.size wl1 wb2 := by rw [hwn]; exact (Below.refl _ _).alloc (Nat.le_refl _) _
  replace hB := hB.below hbA
  replace hA := hA.below hbA
  replace hY := hY.below hbA
  replace hw := keep_below hbA hw
  (try rw [← hwn])
  clear hwn hbA
  generalize wl1.heap.size = gT at hT ⊢
  have HC1 := fun W (h : IntS W A X) (k : IntS W B Y) => implCutAt_any A B c d X Y z W h k bX bY hz (by omega) (by omega)
  have HC2 := fun W (h : IntS W A X) (k : IntS W B Y) => specCutAt_any A B c d X Y z W h k bX bY hz (by omega) (by omega)
  have HS1 := fun W (h : IntS W A X) (k : IntS W B Y) => implSumsOf_any A B c d X Y W h k bX bY (by omega) (by omega)
  have HS2 := fun W (h : IntS W A X) (k : IntS W B Y) => specSumsOf_any A B c d X Y W h k bX bY (by omega) (by omega)
  have HE1 := fun W (h : IntS W A X) (k : IntS W B Y) => implDepthsOf_any A B c d X Y W h k bX bY (by omega) (by omega)
  have HE2 := fun W (h : IntS W A X) (k : IntS W B Y) => specDepthsOf_any A B c d X Y W h k bX bY (by omega) (by omega)
  have HN1 := fun W (h : IntS W A X) (k : IntS W B Y) => implEndsOf_any A B c d X Y W h k bX bY (by omega) (by omega)
  have HN2 := fun W (h : IntS W A X) (k : IntS W B Y) => specEndsOf_any A B c d X Y W h k bX bY (by omega) (by omega)
  have HP1 := fun W (h : IntS W A X) (k : IntS W B Y) => implPruneTree_any A B c d X Y z W h k bX bY hz (by omega) (by omega)
  have HP2 := fun W (h : IntS W A X) (k : IntS W B Y) => specPruneTree_any A B c d X Y z W h k bX bY hz (by omega) (by omega)
  have HI := fun W (h : IntS W A X) (k : IntS W B Y) => isTree_any A B c d X Y W h k bX bY (by omega) (by omega)
  have HX1 := fun W (hw : Below w.heap.size w W) (h : IntS W A X) (k : IntS W B Y) => implTreeText_any A B c d X Y W h k bX bY (by omega) (by omega) (HTb.out W hw)
  have HX2 := fun W (h : IntS W A X) (k : IntS W B Y) => specTreeText_any A B c d X Y W h k bX bY (by omega) (by omega)
  simp only [txV_eq] at HX1 HX2
  have HBk := fun (hg : good X Y = true) W (hw : Below w.heap.size w W) => parse_back hg W (HTb.out W hw) (HSy.out W hw) (HMx.out W hw)
  have f1 := fun (h : good X Y = false) => trees_no h z
  have f2 := fun (h : cutROk X Y z = true) => cut_facts h
  have f3 := fun (h : prOk X Y z = true) => six_facts h
  have f4 := fun (h : good X Y = true) => one_walk h
  have f5 := fun (h : prOk X Y z = true) A B c e W (hA : IntS W A (prRP X Y z)) (hB : IntS W B (prRW X Y z)) => six_sums h A B c e W hA hB
  have f6 := fun (h : prOk X Y z = true) A B c e W (hA : IntS W A (prRP X Y z)) (hB : IntS W B (prRW X Y z)) => six_ends h A B c e W hA hB
  have l1 := cutR_len X Y z (by omega)
  have l2 := sumR_len X Y (by omega)
  have l3 := depR_len X Y (by omega)
  have l4 := endR_len X Y (by omega)
  have l5 := prRP_len X Y z (by omega)
  have l6 := prRW_len X Y z (by omega)
  generalize sumR (prRP X Y z) (prRW X Y z) = LS at f3 f5
  generalize endR (prRP X Y z) (prRW X Y z) = LE at f3 f6
  generalize prRP X Y z = PX at HP1 HP2 f3 f5 f6 l5
  generalize prRW X Y z = PY at HP1 HP2 f3 f5 f6 l6
  generalize prOk X Y z = pk at HP1 HP2 f1 f3 f5 f6
  generalize cutR X Y z = CU at HC1 HC2 f2 f3 l1
  generalize cutROk X Y z = ck at HC1 HC2 f1 f2
  generalize sumR X Y = SU at HS1 HS2 f2 f3 f4 l2
  generalize depR X Y = DE at HE1 HE2 f4 l3
  generalize endR X Y = EN at HN1 HN2 f4 l4
  generalize txS X Y = TX at HX1 HX2 HBk
  generalize good X Y = gd at HS1 HS2 HE1 HE2 HN1 HN2 HI HX1 HX2 HBk f1 f4
  replace HC1 := Lib.hid HC1
  replace HC2 := Lib.hid HC2
  replace HS1 := Lib.hid HS1
  replace HS2 := Lib.hid HS2
  replace HE1 := Lib.hid HE1
  replace HE2 := Lib.hid HE2
  replace HN1 := Lib.hid HN1
  replace HN2 := Lib.hid HN2
  replace HP1 := Lib.hid HP1
  replace HP2 := Lib.hid HP2
  replace HI := Lib.hid HI
  replace HX1 := Lib.hid HX1
  replace HX2 := Lib.hid HX2
  replace HBk := Lib.hid HBk
  have F1 := Lib.hid f1
  have F2 := Lib.hid f2
  have F3 := Lib.hid f3
  have F4 := Lib.hid f4
  have F5 := Lib.hid f5
  have F6 := Lib.hid f6
  have hX1 := Lib.hid hX
  have hY1 := Lib.hid hYl
  clear f1 f2 f3 f4 f5 f6 bX bY hz hX hYl
  have tt30 := hT.c0
  have tt31 := hT.c1
  go_wp2_with fail
  refine (HC1.out _ hA hY).mono ?_
  rintro e1 wl4 ⟨C1, c1x, rfl, hoC, hb⟩
  replace hB := hB.below hb
  replace hA := hA.below hb
  replace hY := hY.below hb
  replace hT := hT.below hb
  replace hw := keep_below hb hw
  clear hb tt30 tt31
  have tt50 := hT.c0
  have tt51 := hT.c1
  go_wp2_with fail
  refine (HC2.out _ hA hY).mono ?_
  rintro e1 wl6 ⟨C2, c2, rfl, hoCx, hb⟩
  replace hB := hB.below hb
  replace hA := hA.below hb
  replace hY := hY.below hb
  replace hT := hT.below hb
  replace hoC := hoC.below hb
  replace hw := keep_below hb hw
  clear hb tt50 tt51
  clear HC1 HC2
  have i9 := hoC.ints
  have i8 := hoCx.ints
  clear hoCx
  go_wp2_with fail
  refine (rInts_same C1 C2 c1x c2 CU _ i9 i8 (by omega)).mono ?_
  rintro e1 wl7 ⟨rfl, hb⟩
  replace hB := hB.below hb
  replace hA := hA.below hb
  replace hY := hY.below hb
  replace hT := hT.below hb
  replace hoC := hoC.below hb
  replace hw := keep_below hb hw
  clear hb
  clear i9 i8
  have tt80 := hT.c0
  have tt81 := hT.c1
  go_wp2_with fail
  refine (HS1.out _ hA hY).mono ?_
  rintro e1 wl9 ⟨S1, s1x, rfl, hoS, hb⟩
  replace hB := hB.below hb
  replace hA := hA.below hb
  replace hY := hY.below hb
  replace hT := hT.below hb
  replace hoC := hoC.below hb
  replace hw := keep_below hb hw
  clear hb tt80 tt81
  have tt100 := hT.c0
  have tt101 := hT.c1
  go_wp2_with fail
  refine (HS2.out _ hA hY).mono ?_
  rintro e1 wl11 ⟨S2, s2, rfl, hoSx, hb⟩
  replace hB := hB.below hb
  replace hA := hA.below hb
  replace hY := hY.below hb
  replace hT := hT.below hb
  replace hoC := hoC.below hb
  replace hoS := hoS.below hb
  replace hw := keep_below hb hw
  clear hb tt100 tt101
  clear HS1 HS2
  have i9 := hoS.ints
  have i8 := hoSx.ints
  clear hoSx
  have tt120 := hT.c0
  have tt121 := hT.c1
  go_wp2_with fail
  refine (HI.out _ hA hY).mono ?_
  rintro e1 wl13 ⟨rfl, hb⟩
  replace hB := hB.below hb
  replace hA := hA.below hb
  replace hY := hY.below hb
  replace hT := hT.below hb
  replace hoC := hoC.below hb
  replace hoS := hoS.below hb
  replace i9 := i9.below hb
  replace i8 := i8.below hb
  replace hw := keep_below hb hw
  clear hb tt120 tt121
  clear HI
  go_wp2_with fail
  refine (rInts_same S1 S2 s1x s2 SU _ i9 i8 (by omega)).mono ?_
  rintro e1 wl14 ⟨rfl, hb⟩
  replace hB := hB.below hb
  replace hA := hA.below hb
  replace hY := hY.below hb
  replace hT := hT.below hb
  replace hoC := hoC.below hb
  replace hoS := hoS.below hb
  replace hw := keep_below hb hw
  clear hb
  clear i9 i8
  have tt150 := hT.c0
  have tt151 := hT.c1
  go_wp2_with fail
  refine (HE1.out _ hA hY).mono ?_
  rintro e1 wl16 ⟨E1, e1x, rfl, hoE, hb⟩
  replace hB := hB.below hb
  replace hA := hA.below hb
  replace hY := hY.below hb
  replace hT := hT.below hb
  replace hoC := hoC.below hb
  replace hoS := hoS.below hb
  replace hw := keep_below hb hw
  clear hb tt150 tt151
  have tt170 := hT.c0
  have tt171 := hT.c1
  go_wp2_with fail
  refine (HE2.out _ hA hY).mono ?_
  rintro e1 wl18 ⟨E2, e2, rfl, hoEx, hb⟩
  replace hB := hB.below hb
  replace hA := hA.below hb
  replace hY := hY.below hb
  replace hT := hT.below hb
  replace hoC := hoC.below hb
  replace hoS := hoS.below hb
  replace hoE := hoE.below hb
  replace hw := keep_below hb hw
  clear hb tt170 tt171
  clear HE1 HE2
  have i9 := hoE.ints
  have i8 := hoEx.ints
  clear hoEx
  go_wp2_with fail
  refine (rInts_same E1 E2 e1x e2 DE _ i9 i8 (by omega)).mono ?_
  rintro e1 wl19 ⟨rfl, hb⟩
  replace hB := hB.below hb
  replace hA := hA.below hb
  replace hY := hY.below hb
  replace hT := hT.below hb
  replace hoC := hoC.below hb
  replace hoS := hoS.below hb
  replace hoE := hoE.below hb
  replace hw := keep_below hb hw
  clear hb
  clear i9 i8
  have tt200 := hT.c0
  have tt201 := hT.c1
  go_wp2_with fail
  refine (HN1.out _ hA hY).mono ?_
  rintro e1 wl21 ⟨N1, n1x, rfl, hoN, hb⟩
  replace hB := hB.below hb
  replace hA := hA.below hb
  replace hY := hY.below hb
  replace hT := hT.below hb
  replace hoC := hoC.below hb
  replace hoS := hoS.below hb
  replace hoE := hoE.below hb
  replace hw := keep_below hb hw
  clear hb tt200 tt201
  have tt220 := hT.c0
  have tt221 := hT.c1
  go_wp2_with fail
  refine (HN2.out _ hA hY).mono ?_
  rintro e1 wl23 ⟨N2, n2, rfl, hoNx, hb⟩
  replace hB := hB.below hb
  replace hA := hA.below hb
  replace hY := hY.below hb
  replace hT := hT.below hb
  replace hoC := hoC.below hb
  replace hoS := hoS.below hb
  replace hoE := hoE.below hb
  replace hoN := hoN.below hb
  replace hw := keep_below hb hw
  clear hb tt220 tt221
  clear HN1 HN2
  have i9 := hoN.ints
  have i8 := hoNx.ints
  clear hoNx
  go_wp2_with fail
  refine (rInts_same N1 N2 n1x n2 EN _ i9 i8 (by omega)).mono ?_
  rintro e1 wl24 ⟨rfl, hb⟩
  replace hB := hB.below hb
  replace hA := hA.below hb
  replace hY := hY.below hb
  replace hT := hT.below hb
  replace hoC := hoC.below hb
  replace hoS := hoS.below hb
  replace hoE := hoE.below hb
  replace hoN := hoN.below hb
  replace hw := keep_below hb hw
  clear hb
  clear i9 i8
  as_aux_lemma =>
    have tt250 := hT.c0
    have tt251 := hT.c1
    go_wp2_with fail
    refine (HX1.out _ hw hA hY).mono ?_
    rintro e1 wl26 ⟨rfl, hb⟩
    replace hB := hB.below hb
    replace hA := hA.below hb
    replace hY := hY.below hb
    replace hT := hT.below hb
    replace hoC := hoC.below hb
    replace hoS := hoS.below hb
    replace hoE := hoE.below hb
    replace hoN := hoN.below hb
    replace hw := keep_below hb hw
    clear hb tt250 tt251
    have tt270 := hT.c0
    have tt271 := hT.c1
    go_wp2_with fail
    refine (HX2.out _ hA hY).mono ?_
    rintro e1 wl28 ⟨rfl, hb⟩
    replace hB := hB.below hb
    replace hA := hA.below hb
    replace hY := hY.below hb
    replace hT := hT.below hb
    replace hoC := hoC.below hb
    replace hoS := hoS.below hb
    replace hoE := hoE.below hb
    replace hoN := hoN.below hb
    replace hw := keep_below hb hw
    clear hb tt270 tt271
    clear HX1 HX2
    go_wp2_with fail
    refine (HD2.out _ hB).mono ?_
    rintro e1 wl29 ⟨s, hs, rfl, hb⟩
    replace hB := hB.below hb
    replace hA := hA.below hb
    replace hY := hY.below hb
    replace hT := hT.below hb
    replace hoC := hoC.below hb
    replace hoS := hoS.below hb
    replace hoE := hoE.below hb
    replace hoN := hoN.below hb
    replace hw := keep_below hb hw
    clear hb
    clear HD2
    obtain ⟨b0, hb0⟩ : ∃ b : Bool, b = true ↔ ptOk s := by classical exact ⟨decide (ptOk s), by simp⟩
    have HR1 := fun W (h : Below w.heap.size w W) => implParseTree_any s W (by omega) b0 hb0 (HTb.out W h) (HSy.out W h) (HMx.out W h)
    have HR2 := fun W => specParseTree_any s W (by omega) b0 hb0
    have q1 : (prPick b0 (ptX s)).length ≤ 24 := by
      cases b0 with
      | false => simp [prPick]
      | true => have := (good_len (hb0.1 rfl).2.1).2.1; exact this
    have q2 : (prPick b0 (ptY s)).length ≤ 24 := by
      cases b0 with
      | false => simp [prPick]
      | true => have := good_len (hb0.1 rfl).2.1; show (ptY s).length ≤ 24; omega
    generalize prPick b0 (ptX s) = QX at HR1 HR2 q1
    generalize prPick b0 (ptY s) = QY at HR1 HR2 q2
    replace HR1 := Lib.hid HR1
    replace HR2 := Lib.hid HR2
    clear hb0 hs
    go_wp2_with fail
    refine (HR1.out _ hw).mono ?_
    rintro e1 wl30 ⟨A1, a1, B1, b1, rfl, hA1, hB1, _, hb⟩
    replace hB := hB.below hb
    replace hA := hA.below hb
    replace hY := hY.below hb
    replace hT := hT.below hb
    replace hoC := hoC.below hb
    replace hoS := hoS.below hb
    replace hoE := hoE.below hb
    replace hoN := hoN.below hb
    replace hw := keep_below hb hw
    clear hb
    go_upto_region 26 with (fail)
    obtain ⟨wb31, hwn⟩ : ∃ W, W = wl30.alloc (.cells #[.slice A1 QX.length a1, .slice B1 QY.length b1] 26) := ⟨_, rfl⟩
    have hQ : BlkT wb31 wl30.heap.size (.slice A1 QX.length a1) (.slice B1 QY.length b1) := by rw [hwn]; exact BlkT.new wl30 _ _ rfl
    have hbA : Below wl30.heap.size wl30 wb31 := by rw [hwn]; exact (Below.refl _ _).alloc (Nat.le_refl _) _
    replace hB := hB.below hbA
    replace hA := hA.below hbA
    replace hY := hY.below hbA
    replace hT := hT.below hbA
    replace hoC := hoC.below hbA
    replace hoS := hoS.below hbA
    replace hoE := hoE.below hbA
    replace hoN := hoN.below hbA
    replace hA1 := hA1.below hbA
    replace hB1 := hB1.below hbA
    replace hw := keep_below hbA hw
    (try rw [← hwn])
    clear hwn hbA
    generalize wl30.heap.size = gQ at hQ ⊢
    go_wp2_with fail
    refine (HR2.out _).mono ?_
    rintro e1 wl32 ⟨A2, a2, B2, b2, rfl, hA2, hB2, _, hb⟩
    replace hB := hB.below hb
    replace hA := hA.below hb
    replace hY := hY.below hb
    replace hT := hT.below hb
    replace hoC := hoC.below hb
    replace hoS := hoS.below hb
    replace hoE := hoE.below hb
    replace hoN := hoN.below hb
    replace hA1 := hA1.below hb
    replace hB1 := hB1.below hb
    replace hQ := hQ.below hb
    replace hw := keep_below hb hw
    clear hb
    clear HR1 HR2
    go_upto_region 27 with (fail)
    obtain ⟨wb33, hwn⟩ : ∃ W, W = wl32.alloc (.cells #[.slice A2 QX.length a2, .slice B2 QY.length b2] 26) := ⟨_, rfl⟩
    have hR : BlkT wb33 wl32.heap.size (.slice A2 QX.length a2) (.slice B2 QY.length b2) := by rw [hwn]; exact BlkT.new wl32 _ _ rfl
    have hbA : Below wl32.heap.size wl32 wb33 := by rw [hwn]; exact (Below.refl _ _).alloc (Nat.le_refl _) _
    replace hB := hB.below hbA
    replace hA := hA.below hbA
    replace hY := hY.below hbA
    replace hT := hT.below hbA
    replace hoC := hoC.below hbA
    replace hoS := hoS.below hbA
    replace hoE := hoE.below hbA
    replace hoN := hoN.below hbA
    replace hA1 := hA1.below hbA
    replace hB1 := hB1.below hbA
    replace hQ := hQ.below hbA
    replace hA2 := hA2.below hbA
    replace hB2 := hB2.below hbA
    replace hw := keep_below hbA hw
    (try rw [← hwn])
    clear hwn hbA
    generalize wl32.heap.size = gR at hR ⊢
    have tt340 := hQ.c0
    have tt341 := hQ.c1
    have tt350 := hR.c0
    have tt351 := hR.c1
    go_wp2_with fail
    refine (rTree_same A1 B1 A2 B2 a1 b1 a2 b2 QX QY _ hA1.ints hB1.ints hA2.ints hB2.ints (by omega) (by omega)).mono ?_
    rintro e1 wl36 ⟨rfl, hb⟩
    replace hB := hB.below hb
    replace hA := hA.below hb
    replace hY := hY.below hb
    replace hT := hT.below hb
    replace hoC := hoC.below hb
    replace hoS := hoS.below hb
    replace hoE := hoE.below hb
    replace hoN := hoN.below hb
    replace hw := keep_below hb hw
    clear hb tt340 tt341 tt350 tt351
    clear hA1 hB1 hA2 hB2 hQ hR q1 q2
    have tt370 := hT.c0
    have tt371 := hT.c1
    go_wp2_with fail
    refine (HP1.out _ hA hY).mono ?_
    rintro e1 wl38 ⟨A3, a3, B3, b3, rfl, hA3, hB3, _, hb⟩
    replace hB := hB.below hb
    replace hA := hA.below hb
    replace hY := hY.below hb
    replace hT := hT.below hb
    replace hoC := hoC.below hb
    replace hoS := hoS.below hb
    replace hoE := hoE.below hb
    replace hoN := hoN.below hb
    replace hw := keep_below hb hw
    clear hb tt370 tt371
    go_upto_region 30 with (fail)
    obtain ⟨wb39, hwn⟩ : ∃ W, W = wl38.alloc (.cells #[.slice A3 PX.length a3, .slice B3 PY.length b3] 26) := ⟨_, rfl⟩
    have hP : BlkT wb39 wl38.heap.size (.slice A3 PX.length a3) (.slice B3 PY.length b3) := by rw [hwn]; exact BlkT.new wl38 _ _ rfl
    have hbA : Below wl38.heap.size wl38 wb39 := by rw [hwn]; exact (Below.refl _ _).alloc (Nat.le_refl _) _
    replace hB := hB.below hbA
    replace hA := hA.below hbA
    replace hY := hY.below hbA
    replace hT := hT.below hbA
    replace hoC := hoC.below hbA
    replace hoS := hoS.below hbA
    replace hoE := hoE.below hbA
    replace hoN := hoN.below hbA
    replace hA3 := hA3.below hbA
    replace hB3 := hB3.below hbA
    replace hw := keep_below hbA hw
    (try rw [← hwn])
    clear hwn hbA
    generalize wl38.heap.size = gP at hP ⊢
    have tt400 := hT.c0
    have tt401 := hT.c1
    go_wp2_with fail
    refine (HP2.out _ hA hY).mono ?_
    rintro e1 wl41 ⟨A4, a4, B4, b4, rfl, hA4, hB4, _, hb⟩
    replace hB := hB.below hb
    replace hA := hA.below hb
    replace hY := hY.below hb
    replace hT := hT.below hb
    replace hoC := hoC.below hb
    replace hoS := hoS.below hb
    replace hoE := hoE.below hb
    replace hoN := hoN.below hb
    replace hA3 := hA3.below hb
    replace hB3 := hB3.below hb
    replace hP := hP.below hb
    replace hw := keep_below hb hw
    clear hb tt400 tt401
    clear HP1 HP2
    replace hA3 := hA3.ints
    replace hB3 := hB3.ints
    go_upto_region 31 with (fail)
    obtain ⟨wb42, hwn⟩ : ∃ W, W = wl41.alloc (.cells #[.slice A4 PX.length a4, .slice B4 PY.length b4] 26) := ⟨_, rfl⟩
    have hR : BlkT wb42 wl41.heap.size (.slice A4 PX.length a4) (.slice B4 PY.length b4) := by rw [hwn]; exact BlkT.new wl41 _ _ rfl
    have hbA : Below wl41.heap.size wl41 wb42 := by rw [hwn]; exact (Below.refl _ _).alloc (Nat.le_refl _) _
    replace hB := hB.below hbA
    replace hA := hA.below hbA
    replace hY := hY.below hbA
    replace hT := hT.below hbA
    replace hoC := hoC.below hbA
    replace hoS := hoS.below hbA
    replace hoE := hoE.below hbA
    replace hoN := hoN.below hbA
    replace hA3 := hA3.below hbA
    replace hB3 := hB3.below hbA
    replace hP := hP.below hbA
    replace hA4 := hA4.below hbA
    replace hB4 := hB4.below hbA
    replace hw := keep_below hbA hw
    (try rw [← hwn])
    clear hwn hbA
    generalize wl41.heap.size = gR at hR ⊢
    have tt430 := hP.c0
    have tt431 := hP.c1
    have tt440 := hR.c0
    have tt441 := hR.c1
    go_wp2_with fail
    refine (rTree_same A3 B3 A4 B4 a3 b3 a4 b4 PX PY _ hA3 hB3 hA4.ints hB4.ints (by omega) (by omega)).mono ?_
    rintro e1 wl45 ⟨rfl, hb⟩
    replace hB := hB.below hb
    replace hA := hA.below hb
    replace hY := hY.below hb
    replace hT := hT.below hb
    replace hoC := hoC.below hb
    replace hoS := hoS.below hb
    replace hoE := hoE.below hb
    replace hoN := hoN.below hb
    replace hA3 := hA3.below hb
    replace hB3 := hB3.below hb
    replace hP := hP.below hb
    replace hw := keep_below hb hw
    clear hb tt430 tt431 tt440 tt441
    clear hA4 hB4 hR l5 l6
    as_aux_lemma =>
      go_wp2_with fail
      refine (HD3.out _ hB).mono ?_
      rintro e1 wl46 ⟨X2, Y2, z2, A2, B2, c2, d2, rfl, hA2, hY2, hX2, hYl2, bX2, bY2, hz2, hb⟩
      replace hA := hA.below hb
      replace hY := hY.below hb
      replace hT := hT.below hb
      replace hoC := hoC.below hb
      replace hoS := hoS.below hb
      replace hoE := hoE.below hb
      replace hoN := hoN.below hb
      replace hA3 := hA3.below hb
      replace hB3 := hB3.below hb
      replace hP := hP.below hb
      replace hw := keep_below hb hw
      clear hb
      clear HD3 hB
      go_upto_region 34 with (fail)
      obtain ⟨wb47, hwn⟩ : ∃ W, W = wl46.alloc (.cells #[.slice A2 X2.length c2, .slice B2 Y2.length d2] 26) := ⟨_, rfl⟩
      have hG : BlkT wb47 wl46.heap.size (.slice A2 X2.length c2) (.slice B2 Y2.length d2) := by rw [hwn]; exact BlkT.new wl46 _ _ rfl
      have hbA : Below wl46.heap.size wl46 wb47 := by rw [hwn]; exact (Below.refl _ _).alloc (Nat.le_refl _) _
      replace hA := hA.below hbA
      replace hY := hY.below hbA
      replace hT := hT.below hbA
      replace hoC := hoC.below hbA
      replace hoS := hoS.below hbA
      replace hoE := hoE.below hbA
      replace hoN := hoN.below hbA
      replace hA3 := hA3.below hbA
      replace hB3 := hB3.below hbA
      replace hP := hP.below hbA
      replace hA2 := hA2.below hbA
      replace hY2 := hY2.below hbA
      replace hw := keep_below hbA hw
      (try rw [← hwn])
      clear hwn hbA
      generalize wl46.heap.size = gG at hG ⊢
      have HW1 := fun W (h : IntS W A2 X2) (k : IntS W B2 Y2) => implWayTo_any A2 B2 c2 d2 X2 Y2 z2 W h k bX2 bY2 hz2 (by omega) (by omega)
      have HW2 := fun W (h : IntS W A2 X2) (k : IntS W B2 Y2) => specWayTo_any A2 B2 c2 d2 X2 Y2 z2 W h k bX2 bY2 hz2 (by omega) (by omega)
      have HK1 := fun W (h : IntS W A2 X2) (k : IntS W B2 Y2) => implChildrenOf_any A2 B2 c2 d2 X2 Y2 z2 W h k bX2 bY2 hz2 (by omega) (by omega)
      have HK2 := fun W (h : IntS W A2 X2) (k : IntS W B2 Y2) => specChildrenOf_any A2 B2 c2 d2 X2 Y2 z2 W h k bX2 bY2 hz2 (by omega) (by omega)
      have HM1 := fun W (h : IntS W A2 X2) (k : IntS W B2 Y2) => implChanceOf_any A2 B2 c2 d2 X2 Y2 z2 W h k bX2 bY2 hz2 (by omega) (by omega)
      have HM2 := fun W (h : IntS W A2 X2) (k : IntS W B2 Y2) => specChanceOf_any A2 B2 c2 d2 X2 Y2 z2 W h k bX2 bY2 hz2 (by omega) (by omega)
      have e1 : chOk X2 Y2 z2 = wayROk X2 Y2 z2 := rfl
      have e2 : chanOk X2 Y2 z2 = wayROk X2 Y2 z2 := rfl
      simp only [e1] at HK1 HK2
      simp only [e2] at HM1 HM2
      have l5 := wayR_len X2 Y2 z2 (by omega)
      have l6 := chR_len X2 Y2 z2 (by omega)
      generalize wayR X2 Y2 z2 = WY at HW1 HW2 l5
      generalize chR X2 Y2 z2 = KD at HK1 HK2 l6
      generalize chanN X2 Y2 z2 = cN at HM1 HM2
      generalize chanM X2 Y2 z2 = cM at HM1 HM2
      generalize wayROk X2 Y2 z2 = wk at HW1 HW2 HK1 HK2 HM1 HM2
      clear e1 e2 bX2 bY2 hz2 hX2 hYl2
      replace HW1 := Lib.hid HW1
      replace HW2 := Lib.hid HW2
      replace HK1 := Lib.hid HK1
      replace HK2 := Lib.hid HK2
      replace HM1 := Lib.hid HM1
      replace HM2 := Lib.hid HM2
      have tt480 := hG.c0
      have tt481 := hG.c1
      go_wp2_with fail
      refine (HW1.out _ hA2 hY2).mono ?_
      rintro e1 wl49 ⟨U1, u1, rfl, hoU, hb⟩
      replace hA := hA.below hb
      replace hY := hY.below hb
      replace hT := hT.below hb
      replace hoC := hoC.below hb
      replace hoS := hoS.below hb
      replace hoE := hoE.below hb
      replace hoN := hoN.below hb
      replace hA3 := hA3.below hb
      replace hB3 := hB3.below hb
      replace hP := hP.below hb
      replace hA2 := hA2.below hb
      replace hY2 := hY2.below hb
      replace hG := hG.below hb
      replace hw := keep_below hb hw
      clear hb tt480 tt481
      have tt500 := hG.c0
      have tt501 := hG.c1
      go_wp2_with fail
      refine (HW2.out _ hA2 hY2).mono ?_
      rintro e1 wl51 ⟨U2, u2, rfl, hoUx, hb⟩
      replace hA := hA.below hb
      replace hY := hY.below hb
      replace hT := hT.below hb
      replace hoC := hoC.below hb
      replace hoS := hoS.below hb
      replace hoE := hoE.below hb
      replace hoN := hoN.below hb
      replace hA3 := hA3.below hb
      replace hB3 := hB3.below hb
      replace hP := hP.below hb
      replace hA2 := hA2.below hb
      replace hY2 := hY2.below hb
      replace hG := hG.below hb
      replace hoU := hoU.below hb
      replace hw := keep_below hb hw
      clear hb tt500 tt501
      clear HW1 HW2
      go_wp2_with fail
      refine (rInts_same U1 U2 u1 u2 WY _ hoU.ints hoUx.ints (by omega)).mono ?_
      rintro e1 wl52 ⟨rfl, hb⟩
      replace hA := hA.below hb
      replace hY := hY.below hb
      replace hT := hT.below hb
      replace hoC := hoC.below hb
      replace hoS := hoS.below hb
      replace hoE := hoE.below hb
      replace hoN := hoN.below hb
      replace hA3 := hA3.below hb
      replace hB3 := hB3.below hb
      replace hP := hP.below hb
      replace hA2 := hA2.below hb
      replace hY2 := hY2.below hb
      replace hG := hG.below hb
      replace hw := keep_below hb hw
      clear hb
      clear hoU hoUx
      have tt530 := hG.c0
      have tt531 := hG.c1
      go_wp2_with fail
      refine (HK1.out _ hA2 hY2).mono ?_
      rintro e1 wl54 ⟨V1, v1, rfl, hoV, hb⟩
      replace hA := hA.below hb
      replace hY := hY.below hb
      replace hT := hT.below hb
      replace hoC := hoC.below hb
      replace hoS := hoS.below hb
      replace hoE := hoE.below hb
      replace hoN := hoN.below hb
      replace hA3 := hA3.below hb
      replace hB3 := hB3.below hb
      replace hP := hP.below hb
      replace hA2 := hA2.below hb
      replace hY2 := hY2.below hb
      replace hG := hG.below hb
      replace hw := keep_below hb hw
      clear hb tt530 tt531
      have tt550 := hG.c0
      have tt551 := hG.c1
      go_wp2_with fail
      refine (HK2.out _ hA2 hY2).mono ?_
      rintro e1 wl56 ⟨V2, v2, rfl, hoVx, hb⟩
      replace hA := hA.below hb
      replace hY := hY.below hb
      replace hT := hT.below hb
      replace hoC := hoC.below hb
      replace hoS := hoS.below hb
      replace hoE := hoE.below hb
      replace hoN := hoN.below hb
      replace hA3 := hA3.below hb
      replace hB3 := hB3.below hb
      replace hP := hP.below hb
      replace hA2 := hA2.below hb
      replace hY2 := hY2.below hb
      replace hG := hG.below hb
      replace hoV := hoV.below hb
      replace hw := keep_below hb hw
      clear hb tt550 tt551
      clear HK1 HK2
      go_wp2_with fail
      refine (rInts_same V1 V2 v1 v2 KD _ hoV.ints hoVx.ints (by omega)).mono ?_
      rintro e1 wl57 ⟨rfl, hb⟩
      replace hA := hA.below hb
      replace hY := hY.below hb
      replace hT := hT.below hb
      replace hoC := hoC.below hb
      replace hoS := hoS.below hb
      replace hoE := hoE.below hb
      replace hoN := hoN.below hb
      replace hA3 := hA3.below hb
      replace hB3 := hB3.below hb
      replace hP := hP.below hb
      replace hA2 := hA2.below hb
      replace hY2 := hY2.below hb
      replace hG := hG.below hb
      replace hw := keep_below hb hw
      clear hb
      clear hoV hoVx
      clear l5 l6
      have tt580 := hG.c0
      have tt581 := hG.c1
      go_wp2_with fail
      refine (HM1.out _ hA2 hY2).mono ?_
      rintro e1 wl59 ⟨rfl, hb⟩
      replace hA := hA.below hb
      replace hY := hY.below hb
      replace hT := hT.below hb
      replace hoC := hoC.below hb
      replace hoS := hoS.below hb
      replace hoE := hoE.below hb
      replace hoN := hoN.below hb
      replace hA3 := hA3.below hb
      replace hB3 := hB3.below hb
      replace hP := hP.below hb
      replace hA2 := hA2.below hb
      replace hY2 := hY2.below hb
      replace hG := hG.below hb
      replace hw := keep_below hb hw
      clear hb tt580 tt581
      go_upto_region 43 with (fail)
      obtain ⟨wb60, hwn⟩ : ∃ W, W = wl59.alloc (.cells #[.int .i64 cN, .int .i64 cM] 41) := ⟨_, rfl⟩
      have hZ : PairB wb60 wl59.heap.size (cN) (cM) := by rw [hwn]; exact heap_alloc_new wl59 _
      have hbA : Below wl59.heap.size wl59 wb60 := by rw [hwn]; exact (Below.refl _ _).alloc (Nat.le_refl _) _
      replace hA := hA.below hbA
      replace hY := hY.below hbA
      replace hT := hT.below hbA
      replace hoC := hoC.below hbA
      replace hoS := hoS.below hbA
      replace hoE := hoE.below hbA
      replace hoN := hoN.below hbA
      replace hA3 := hA3.below hbA
      replace hB3 := hB3.below hbA
      replace hP := hP.below hbA
      replace hA2 := hA2.below hbA
      replace hY2 := hY2.below hbA
      replace hG := hG.below hbA
      replace hw := keep_below hbA hw
      (try rw [← hwn])
      clear hwn hbA
      generalize wl59.heap.size = gZ at hZ ⊢
      have tt610 := hG.c0
      have tt611 := hG.c1
      go_wp2_with fail
      refine (HM2.out _ hA2 hY2).mono ?_
      rintro e1 wl62 ⟨rfl, hb⟩
      replace hA := hA.below hb
      replace hY := hY.below hb
      replace hT := hT.below hb
      replace hoC := hoC.below hb
      replace hoS := hoS.below hb
      replace hoE := hoE.below hb
      replace hoN := hoN.below hb
      replace hA3 := hA3.below hb
      replace hB3 := hB3.below hb
      replace hP := hP.below hb
      replace hZ := hZ.below hb
      replace hw := keep_below hb hw
      clear hb tt610 tt611
      clear HM1 HM2 hA2 hY2 hG
      go_upto_region 44 with (fail)
      obtain ⟨wb63, hwn⟩ : ∃ W, W = wl62.alloc (.cells #[.int .i64 cN, .int .i64 cM] 41) := ⟨_, rfl⟩
      have hZ2 : PairB wb63 wl62.heap.size (cN) (cM) := by rw [hwn]; exact heap_alloc_new wl62 _
      have hbA : Below wl62.heap.size wl62 wb63 := by rw [hwn]; exact (Below.refl _ _).alloc (Nat.le_refl _) _
      replace hA := hA.below hbA
      replace hY := hY.below hbA
      replace hT := hT.below hbA
      replace hoC := hoC.below hbA
      replace hoS := hoS.below hbA
      replace hoE := hoE.below hbA
      replace hoN := hoN.below hbA
      replace hA3 := hA3.below hbA
      replace hB3 := hB3.below hbA
      replace hP := hP.below hbA
      replace hZ := hZ.below hbA
      replace hw := keep_below hbA hw
      (try rw [← hwn])
      clear hwn hbA
      generalize wl62.heap.size = gZ2 at hZ2 ⊢
      have hQ1 := eqA2_same cN cM
      have tt640 := hZ.c0
      have tt641 := hZ.c1
      have tt650 := hZ2.c0
      have tt651 := hZ2.c1
      go_upto_region 46 with (fail)
      clear tt640 tt641 tt650 tt651 hZ hZ2 hQ1
      as_aux_lemma =>
        cases gd with
        | false =>
          obtain ⟨rfl, rfl⟩ := F1.out rfl
          go_wp2
          go_ret
          exact ⟨rfl, hw⟩
        | true =>
          have HB9 := Lib.hid (HBk.out rfl)
          have G4 := Lib.hid (F4.out rfl)
          clear F4
          go_wp2_with fail
          refine (HB9.out _ hw).mono ?_
          rintro e1 wl66 ⟨A9, a9, B9, b9, rfl, hA9, hB9, _, hb⟩
          replace hA := hA.below hb
          replace hY := hY.below hb
          replace hT := hT.below hb
          replace hoC := hoC.below hb
          replace hoS := hoS.below hb
          replace hoE := hoE.below hb
          replace hoN := hoN.below hb
          replace hA3 := hA3.below hb
          replace hB3 := hB3.below hb
          replace hP := hP.below hb
          replace hw := keep_below hb hw
          clear hb
          clear HB9 HBk
          go_upto_region 49 with (fail)
          obtain ⟨wb67, hwn⟩ : ∃ W, W = wl66.alloc (.cells #[.slice A9 X.length a9, .slice B9 Y.length b9] 26) := ⟨_, rfl⟩
          have hR : BlkT wb67 wl66.heap.size (.slice A9 X.length a9) (.slice B9 Y.length b9) := by rw [hwn]; exact BlkT.new wl66 _ _ rfl
          have hbA : Below wl66.heap.size wl66 wb67 := by rw [hwn]; exact (Below.refl _ _).alloc (Nat.le_refl _) _
          replace hA := hA.below hbA
          replace hY := hY.below hbA
          replace hT := hT.below hbA
          replace hoC := hoC.below hbA
          replace hoS := hoS.below hbA
          replace hoE := hoE.below hbA
          replace hoN := hoN.below hbA
          replace hA3 := hA3.below hbA
          replace hB3 := hB3.below hbA
          replace hP := hP.below hbA
          replace hA9 := hA9.below hbA
          replace hB9 := hB9.below hbA
          replace hw := keep_below hbA hw
          (try rw [← hwn])
          clear hwn hbA
          generalize wl66.heap.size = gR at hR ⊢
          have tt680 := hR.c0
          have tt681 := hR.c1
          have tt690 := hT.c0
          have tt691 := hT.c1
          go_wp2_with fail
          refine (rTree_same A9 B9 A B a9 b9 c d X Y _ hA9.ints hB9.ints hA hY (by have := hX1.out; omega) (by have := hY1.out; omega)).mono ?_
          rintro e1 wl70 ⟨rfl, hb⟩
          replace hA := hA.below hb
          replace hY := hY.below hb
          replace hT := hT.below hb
          replace hoC := hoC.below hb
          replace hoS := hoS.below hb
          replace hoE := hoE.below hb
          replace hoN := hoN.below hb
          replace hA3 := hA3.below hb
          replace hB3 := hB3.below hb
          replace hP := hP.below hb
          replace hw := keep_below hb hw
          clear hb tt680 tt681 tt690 tt691
          clear hA9 hB9 hR F1
          obtain ⟨⟨n1, n2, n3, n4, n5, n6⟩, n7, n8, n9, n10, n11⟩ := G4.out
          have HSb := Lib.hid n7
          have HDb := Lib.hid n8
          have HKs := Lib.hid n9
          have HDs := Lib.hid n10
          have HKe := Lib.hid n11
          have HYX := Lib.hid n3
          have HSl := Lib.hid n4
          have HDl := Lib.hid n5
          have HEl := Lib.hid n6
          clear G4 n3 n4 n5 n6 n7 n8 n9 n10 n11 l1 l2 l3 l4
          obtain ⟨bA, oA, rfl, -⟩ := hA.at_ (j := 0) (by omega)
          obtain ⟨bB, oB, rfl, -⟩ := hY.at_ (j := 0) (by rw [HYX.out]; omega)
          obtain ⟨gS, rfl, -, hrS⟩ := hoS.pos (by rw [HSl.out]; omega)
          obtain ⟨gD, rfl, -, hrD⟩ := hoE.pos (by rw [HDl.out]; omega)
          replace hoC := hoC.ints
          replace hoN := hoN.ints
          clear hoS hoE
          as_aux_lemma =>
            go_wp2
            go_loopw [50, 51, 52, 53] (fun i _ _ _ wr => ∃ k : Nat, k ≤ X.length ∧ i = .int .i64 k ∧ Below wl70.heap.size wl70 wr) (fun i _ _ _ _ => X.length - (intOf i).toNat)
            case atStart => exact ⟨0, by omega, rfl, Below.refl _ _⟩
            case round =>
              obtain ⟨k, hk, rfl, hbo⟩ := hrel
              obtain ⟨wo, rfl⟩ : ∃ W, W = wr := ⟨wr, rfl⟩
              by_cases hlt : k < X.length
              case neg =>
                have i1 : ¬ (k : Int) < SU.length := by rw [HSl.out]; omega
                replace hA := hA.below hbo
                replace hY := hY.below hbo
                replace hT := hT.below hbo
                replace hoC := hoC.below hbo
                replace hoN := hoN.below hbo
                replace hA3 := hA3.below hbo
                replace hB3 := hB3.below hbo
                replace hP := hP.below hbo
                replace hrS := hrS.below hbo
                replace hrD := hrD.below hbo
                replace hw := keep_below hbo hw
                clear hbo
                as_aux_lemma =>
                  cases ck with
                  | false =>
                    go_wp2
                    go_ret
                    exact ⟨rfl, hw⟩
                  | true =>
                    obtain ⟨g1, g2, g3⟩ := F2.out rfl
                    have HCv := Lib.hid g1
                    have HCs := Lib.hid g2
                    clear g1 g2 F2
                    have hrS0 := hrS.cell (j := 0) (by rw [HSl.out]; omega)
                    have z0 : (0 : Int) < SU.length := by rw [HSl.out]; omega
                    have z1 : 0 < SU.length := by rw [HSl.out]; omega
                    go_wp2
                    go_loopw [54, 55] (fun t i wr => ∃ (m : Nat) (p : Int), m ≤ CU.length ∧ i = .int .i64 m ∧ t = .int .i64 p ∧ p = lsum (fun v => nth SU v.toNat) (CU.take m) ∧ Below wo.heap.size wo wr) (fun _ i _ => CU.length - (intOf i).toNat)
                    case atStart => exact ⟨0, 0, by omega, rfl, rfl, by simp [lsum], Below.refl _ _⟩
                    case round =>
                      obtain ⟨m, p, hm, rfl, rfl, hp, hbi⟩ := hrel
                      obtain ⟨wq, rfl⟩ : ∃ W, W = wr := ⟨wr, rfl⟩
                      by_cases hmt : m < CU.length
                      case pos =>
                        have m1 : (m : Int) < CU.length := by omega
                        have m0 : (0 : Int) ≤ m := by omega
                        obtain ⟨bC, oC, rfl, hcC⟩ := (hoC.below hbi).at_ (j := m) hmt
                        have hv := HCv.out (nth CU m) (by rw [show nth CU m = CU[m] by simp [nth, List.getD, hmt]]; exact List.getElem_mem hmt)
                        have hst := lsum_take (fun v => nth SU v.toNat) hmt
                        rw [← hp] at hst
                        have hbd := lsum_bdQ (fun v => nth SU v.toNat) (CU.take m) (fun v _ => HSb.out v.toNat)
                        rw [← hp, List.length_take] at hbd
                        obtain ⟨q, hq⟩ := Int.eq_ofNat_of_zero_le hv.1
                        rw [hq] at hcC hst hv
                        rw [Int.toNat_natCast] at hst
                        have hq2 : q < X.length := by omega
                        have s1 := (hrS.below hbi).cell (j := q) (by rw [HSl.out]; exact hq2)
                        have q0 : (0 : Int) ≤ q := by omega
                        have q1 : (q : Int) < SU.length := by rw [HSl.out]; omega
                        have hsb := HSb.out q
                        have u1 : IntKind.i64.wrap (p + nth SU q) = p + nth SU q := IntWalk.i64_in _ (by omega)
                        have u2 : IntKind.i64.wrap ((m : Int) + 1) = (m : Int) + 1 := IntWalk.i64_in _ (by omega)
                        have HST := Lib.hid hst
                        clear hst hbd hp hsb hv hq hrS0
                        go_wp2
                        go_roundw
                        case rel => exact ⟨m + 1, p + nth SU q, by omega, by go_num, rfl, HST.out.symm, by first | exact hbi | (repeat (first | with_reducible exact Below.refl _ _ | with_reducible assumption | with_reducible refine Below.alloc' ?_ ?_ _ | with_reducible refine Below.setCell' ?_ ?_ _ | with_reducible refine Below.drewN' ?_ _ | with_reducible refine Below.drew ?_ | with_reducible refine Below.transA ?_ (by assumption) ?_ | omega | (focus (simp; done)) | (focus (simp; omega))))⟩
                        case measure => simp [intOf]; omega
                      have hm2 : m = CU.length := by omega
                      have m1 : ¬ (m : Int) < CU.length := by omega
                      have hp2 : p = nth SU 0 := by rw [hp, hm2, List.take_length]; exact HCs.out
                      subst hp2
                      clear hp hm hm2 hrS0
                      replace hA := hA.below hbi
                      replace hY := hY.below hbi
                      replace hT := hT.below hbi
                      replace hoC := hoC.below hbi
                      replace hoN := hoN.below hbi
                      replace hA3 := hA3.below hbi
                      replace hB3 := hB3.below hbi
                      replace hP := hP.below hbi
                      replace hrS := hrS.below hbi
                      replace hrD := hrD.below hbi
                      replace hw := keep_below hbi hw
                      clear hbi
                      have hrS0 := hrS.cell (j := 0) (by rw [HSl.out]; omega)
                      cases pk with
                      | false =>
                        go_wp2
                        go_ret
                        exact ⟨rfl, hw⟩
                      | true =>
                        have H5 := Lib.hid (F5.out rfl)
                        have H6 := Lib.hid (F6.out rfl)
                        have g9 := F3.out rfl
                        have h1 := g9.2.1
                        have h2 := g9.2.2.1
                        have h3 := g9.2.2.2
                        have h4 : ((LE.length : Int) != CU.length) = false := by rw [h3]; simp
                        clear F3 F5 F6 g9 hrS0
                        have tt710 := hP.c0
                        have tt711 := hP.c1
                        go_wp2_with fail
                        refine (H5.out _ _ _ _ _ hA3 hB3).mono ?_
                        rintro e1 wl72 ⟨L1, l1, rfl, hoL, hb⟩
                        replace hA := hA.below hb
                        replace hY := hY.below hb
                        replace hT := hT.below hb
                        replace hoC := hoC.below hb
                        replace hoN := hoN.below hb
                        replace hA3 := hA3.below hb
                        replace hB3 := hB3.below hb
                        replace hP := hP.below hb
                        replace hrS := hrS.below hb
                        replace hrD := hrD.below hb
                        replace hw := keep_below hb hw
                        clear hb tt710 tt711
                        have tt730 := hP.c0
                        have tt731 := hP.c1
                        go_wp2_with fail
                        refine (H6.out _ _ _ _ _ hA3 hB3).mono ?_
                        rintro e1 wl74 ⟨M1, m1, rfl, hoM, hb⟩
                        replace hA := hA.below hb
                        replace hY := hY.below hb
                        replace hT := hT.below hb
                        replace hoC := hoC.below hb
                        replace hoN := hoN.below hb
                        replace hA3 := hA3.below hb
                        replace hB3 := hB3.below hb
                        replace hP := hP.below hb
                        replace hrS := hrS.below hb
                        replace hrD := hrD.below hb
                        replace hoL := hoL.below hb
                        replace hw := keep_below hb hw
                        clear hb tt730 tt731
                        obtain ⟨gL, rfl, -, hrL⟩ := hoL.pos h1
                        have c0 := hrL.cell (j := 0) h1
                        have c1 := hrS.cell (j := 0) z1
                        rw [h2] at c0
                        have z2 : (0 : Int) < LS.length := by omega
                        have z3 : 0 < LS.length := h1
                        clear H5 H6 hoL hoM h2 h1 hA3 hB3 hP
                        go_wp2
                        go_quiet (fail)
                        go_wp2
                        go_ret
                        exact ⟨rfl, by (repeat (first | with_reducible exact Below.refl _ _ | with_reducible assumption | with_reducible refine Below.alloc' ?_ ?_ _ | with_reducible refine Below.setCell' ?_ ?_ _ | with_reducible refine Below.drewN' ?_ _ | with_reducible refine Below.drew ?_ | with_reducible refine Below.transA ?_ (by assumption) ?_ | omega | (focus (simp; done)) | (focus (simp; omega))))⟩
              have i1 : (k : Int) < SU.length := by rw [HSl.out]; omega
              have i0 : (0 : Int) ≤ k := by omega
              have u1 : IntKind.i64.wrap ((k : Int) + 1) = (k : Int) + 1 := IntWalk.i64_in _ (by omega)
              go_wp2
              go_loopw [51, 52, 53] (fun b a y wr => ∃ (j q : Nat) (p : Int), k + 1 ≤ j ∧ j ≤ X.length ∧ y = .int .i64 j ∧ b = .int .i64 p ∧ a = .int .i64 (q : Int) ∧ p = psum X SU k (j - 1) ∧ q = kcnt X k (j - 1) ∧ Below wo.heap.size wo wr) (fun _ _ y _ => X.length - (intOf y).toNat)
              case atStart => exact ⟨k + 1, 0, 0, by omega, by omega, by go_num, rfl, rfl, by rw [show k + 1 - 1 = k from rfl, (HKs.out k hlt).1], by rw [show k + 1 - 1 = k from rfl, (HKs.out k hlt).2], Below.refl _ _⟩
              case round =>
                obtain ⟨j, q, p, hj1, hj2, rfl, rfl, rfl, hp, hq, hbi⟩ := hrel
                have hbr := keep_below hbi hbo
                by_cases hjt : j < X.length
                case neg =>
                  have hjn : j = X.length := by omega
                  have j1 : ¬ (j : Int) < SU.length := by rw [HSl.out]; omega
                  rw [hjn] at hp hq
                  have hke := HKe.out k hlt
                  rw [← hq, ← hp] at hke
                  have hRh := fun W (h : IntS W N1 EN) => rHas_any N1 n1x EN k W h (by have := HEl.out; omega)
                  have hEn := hoN.below hbr
                  have t1 := (hT.below hbr).c1
                  have s0 := (hrS.below hbr).cell (j := k) (by rw [HSl.out]; exact hlt)
                  obtain ⟨b9, o9, he9, hcY⟩ := (hY.below hbr).at_ (j := k) (by rw [HYX.out]; exact hlt)
                  cases he9
                  have y1 : (k : Int) < Y.length := by rw [HYX.out]; omega
                  clear hp hq hjn hj1 hj2 hjt
                  by_cases hq0 : q = 0
                  · obtain ⟨g1, g2⟩ := hke.1 hq0
                    subst hq0
                    rw [g2] at s0
                    rw [g1] at hRh
                    have HRh := Lib.hid hRh
                    have HEn := Lib.hid hEn
                    clear hke hRh hEn g1 g2
                    go_wp2_with fail
                    go_quiet ((go_at_call 31; exact Calls.quiet_of_same (HRh.out _ (HEn.out.below (Below.drewN' (Below.refl _ _) _)))))
                    go_wp2
                    go_roundw
                    case rel => exact ⟨k + 1, by omega, by go_num, by (repeat (first | with_reducible exact Below.refl _ _ | with_reducible assumption | with_reducible refine Below.alloc' ?_ ?_ _ | with_reducible refine Below.setCell' ?_ ?_ _ | with_reducible refine Below.drewN' ?_ _ | with_reducible refine Below.drew ?_ | with_reducible refine Below.transA ?_ (by assumption) ?_ | omega | (focus (simp; done)) | (focus (simp; omega))))⟩
                    case measure => simp [intOf]; omega
                  · obtain ⟨g1, g2⟩ := hke.2 hq0
                    rw [← g2] at s0
                    rw [g1] at hRh
                    have HRh := Lib.hid hRh
                    have HEn := Lib.hid hEn
                    have q1 : (0 : Int) < q := by omega
                    have q2 : ((q : Int) == 0) = false := by rw [beq_eq_false_iff_ne]; omega
                    clear hke hRh hEn g1 g2 hq0
                    generalize (q : Int) = a at q1 q2 ⊢
                    go_wp2_with fail
                    go_quiet ((go_at_call 31; exact Calls.quiet_of_same (HRh.out _ (HEn.out.below (Below.drewN' (Below.refl _ _) _)))))
                    go_wp2
                    go_roundw
                    case rel => exact ⟨k + 1, by omega, by go_num, by (repeat (first | with_reducible exact Below.refl _ _ | with_reducible assumption | with_reducible refine Below.alloc' ?_ ?_ _ | with_reducible refine Below.setCell' ?_ ?_ _ | with_reducible refine Below.drewN' ?_ _ | with_reducible refine Below.drew ?_ | with_reducible refine Below.transA ?_ (by assumption) ?_ | omega | (focus (simp; done)) | (focus (simp; omega))))⟩
                    case measure => simp [intOf]; omega
                have j1 : (j : Int) < SU.length := by rw [HSl.out]; omega
                have j0 : (0 : Int) ≤ j := by omega
                have j3 : (j : Int) < X.length := by omega
                have u2 : IntKind.i64.wrap ((j : Int) + 1) = (j : Int) + 1 := IntWalk.i64_in _ (by omega)
                have hps := psum_atQ (xs := X) (R := SU) (x := k) (j := j) (by omega)
                have hks := kcnt_at (xs := X) (x := k) (j := j) (by omega)
                rw [← hp] at hps
                rw [← hq] at hks
                have hpb := psum_bdQ (xs := X) (x := k) HSb.out (j - 1)
                have hqb := kcnt_bdQ (xs := X) (x := k) (j - 1)
                rw [← hp] at hpb
                rw [← hq] at hqb
                obtain ⟨b8, o8, he8, hcX⟩ := (hA.below hbr).at_ (j := j) hjt
                cases he8
                have t0 := (hT.below hbr).c0
                by_cases hx : nth X j = (k : Int)
                case neg =>
                  have hxb : (nth X j == (k : Int)) = false := by rw [beq_eq_false_iff_ne]; exact hx
                  rw [if_neg hx, Int.add_zero] at hps
                  rw [if_neg hx, Nat.add_zero] at hks
                  have HPS := Lib.hid hps
                  have HKS := Lib.hid hks
                  clear hx hps hks hp hq hpb hqb
                  go_wp2
                  go_roundw
                  case rel => exact ⟨j + 1, q, p, by omega, by omega, by go_num, rfl, rfl, HPS.out.symm, HKS.out.symm, hbi⟩
                  case measure => simp [intOf]; omega
                rw [if_pos hx] at hps hks
                rw [hx] at hcX
                have hds := HDs.out k j (by omega) hjt hx
                have s1 := (hrS.below hbr).cell (j := j) (by rw [HSl.out]; exact hjt)
                have d1 := (hrD.below hbr).cell (j := j) (by rw [HDl.out]; exact hjt)
                have d0 := (hrD.below hbr).cell (j := k) (by rw [HDl.out]; exact hlt)
                rw [hds] at d1
                have r1 : (j : Int) < DE.length := by rw [HDl.out]; exact j3
                have r2 : (k : Int) < DE.length := by rw [HDl.out]; omega
                have hsb := HSb.out j
                have hdb := HDb.out k
                have m1 : IntKind.i64.wrap (p + nth SU j) = p + nth SU j := IntWalk.i64_in _ (by omega)
                have m2 : IntKind.i64.wrap ((q : Int) + 1) = (q : Int) + 1 := IntWalk.i64_in _ (by omega)
                have m3 : IntKind.i64.wrap (nth DE k + 1) = nth DE k + 1 := IntWalk.i64_in _ (by omega)
                have HPS := Lib.hid hps
                have HKS := Lib.hid hks
                clear hx hps hks hp hq hpb hqb hds hsb hdb
                go_wp2
                go_quiet (fail)
                go_wp2
                go_roundw
                case rel => exact ⟨j + 1, q + 1, p + nth SU j, by omega, by omega, by go_num, rfl, by go_num, HPS.out.symm, HKS.out.symm, by (repeat (first | with_reducible exact Below.refl _ _ | with_reducible assumption | with_reducible refine Below.alloc' ?_ ?_ _ | with_reducible refine Below.setCell' ?_ ?_ _ | with_reducible refine Below.drewN' ?_ _ | with_reducible refine Below.drew ?_ | with_reducible refine Below.transA ?_ (by assumption) ?_ | omega | (focus (simp; done)) | (focus (simp; omega))))⟩
                case measure => simp [intOf]; omega
end Go.Proofs.YtgccidkkfalaeaaGreatDoor
