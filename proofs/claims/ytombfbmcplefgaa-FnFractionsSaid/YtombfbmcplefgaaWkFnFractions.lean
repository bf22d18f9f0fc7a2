/- The walk of FnFractions. -/
import Derived.Test.YtombfbmcplefgaaFracLaw
import Derived.Test.YtombfbmcplefgaaDraws
import Derived.Test.YtombfbmcplefgaaByts
import Derived.Test.YtombfbmcplefgaaWkFnExactIsFraction
import Derived.IntWalk
namespace Go.Proofs.Ytombfbmcplefgaa
open Go.ChangeShapes Go.WideShapes Go.ChangeAt Go.RowKit
open Go.ChangeMaps (open_string shut_string)
set_option maxHeartbeats 16000000 in
set_option maxRecDepth 100000 in
theorem FnFractions_walk (C : Option Addr) (n cc : Nat) (w : World) (hC : n ≤ cc ∧ cc ≤ maxLen ∧ Byt w C n) :
    Calls Try.prog 8 #[.slice C n cc] w fun e w' => e = .returned (.bool true) ∧ Below w.heap.size w w' := by
  obtain ⟨_, _, hB⟩ := hC
  by_cases hbig : 65536 < n
  · have HBg := Lib.hid (fun W => rBig_any C n cc W)
    rw [decide_eq_true hbig] at HBg
    clear hB
    go_enter Try.func8, Try.ntmps8
    go_wp2_with fail
    refine (HBg.out _).mono ?_
    rintro e1 w1 ⟨rfl, rfl⟩
    go_wp2
    go_ret
    exact ⟨rfl, Below.refl _ _⟩
  have HBg := Lib.hid (fun W => rBig_any C n cc W)
  rw [decide_eq_false hbig] at HBg
  have hn : n ≤ 1000000 := by omega
  have hw := Below.refl w.heap.size w
  have HD1 := Lib.hid (fun W (h : Byt W C n) => drawAdd_any C n cc W h hn)
  have HD2 := Lib.hid (fun W (h : Byt W C n) => drawCompare_any C n cc W h hn)
  have HD3 := Lib.hid (fun W (h : Byt W C n) => drawFractionOf_any C n cc W h hn)
  have HD4 := Lib.hid (fun W (h : Byt W C n) => drawIsFraction_any C n cc W h hn)
  clear hbig hn
  go_enter Try.func8, Try.ntmps8
  go_wp2_with fail
  refine (HBg.out _).mono ?_
  rintro e1 w1 ⟨rfl, e9⟩
  have e8 := e9.symm
  clear e9
  subst e8
  clear HBg
  go_wp2_with fail
  refine (HD1.out _ hB).mono ?_
  rintro e1 w2 ⟨a, b, c, d, rfl, hb⟩
  replace hB := hB.below hb
  replace hw := keep_below hb hw
  clear hb HD1
  go_upto_region 4 with (fail)
  have hb9 : Below w2.heap.size w2 ((w2.alloc (.cells #[.int .i64 a, .int .i64 b] 51)).alloc (.cells #[.int .i64 c, .int .i64 d] 51)) := ((Below.refl _ _).alloc (Nat.le_refl _) _).alloc (by simp) _
  have hs9 : (w2.alloc (.cells #[.int .i64 a, .int .i64 b] 51)).heap.size = w2.heap.size + 1 := by simp
  have hF : PairB ((w2.alloc (.cells #[.int .i64 a, .int .i64 b] 51)).alloc (.cells #[.int .i64 c, .int .i64 d] 51)) w2.heap.size a b := PairB.below (heap_alloc_new w2 _) ((Below.refl _ _).alloc (Nat.le_refl _) _)
  have hG : PairB ((w2.alloc (.cells #[.int .i64 a, .int .i64 b] 51)).alloc (.cells #[.int .i64 c, .int .i64 d] 51)) (w2.heap.size + 1) c d := by rw [← hs9]; exact heap_alloc_new (w2.alloc _) _
  replace hB := hB.below hb9
  replace hw := keep_below hb9 hw
  clear hb9 hs9
  generalize (w2.alloc (.cells #[.int .i64 a, .int .i64 b] 51)).alloc (.cells #[.int .i64 c, .int .i64 d] 51) = w3 at *
  generalize w2.heap.size + 1 = gG at *
  generalize w2.heap.size = gF at *
  have hfr := fun (h : addOk a b c d = true) => fr_parts h
  have hbk := fun (h : addOk a b c d = true) => fr_back h
  have hcm := fr_comm a b c d
  have htc := tm_comm a b c d
  have hti := fun (h : tmOk a b c d = true) => tm_in h
  have HA1 := fun W => implAdd_any a b c d W
  have HA2 := fun W => specAdd_any a b c d W
  have HA3 := fun W => implAdd_any c d a b W
  have HT1 := fun W => implTimes_any a b c d W
  have HT2 := fun W => specTimes_any a b c d W
  have HT3 := fun W => implTimes_any c d a b W
  change ∀ W, Calls _ _ _ W fun e w' => e = .returned (FracV (addN a b c d) (addM a b c d) (addOk a b c d)) ∧ _ at HA1 HA2
  change ∀ W, Calls _ _ _ W fun e w' => e = .returned (FracV (addN c d a b) (addM c d a b) (addOk c d a b)) ∧ _ at HA3
  change ∀ W, Calls _ _ _ W fun e w' => e = .returned (FracV (tmN a b c d) (tmM a b c d) (tmOk a b c d)) ∧ _ at HT1 HT2
  change ∀ W, Calls _ _ _ W fun e w' => e = .returned (FracV (tmN c d a b) (tmM c d a b) (tmOk c d a b)) ∧ _ at HT3
  rw [hcm.1, hcm.2.1, hcm.2.2] at HA3
  rw [htc.1, htc.2.1, htc.2.2] at HT3
  obtain ⟨S, hS⟩ : ∃ S, addN a b c d = S := ⟨_, rfl⟩
  obtain ⟨M, hM⟩ : ∃ M, addM a b c d = M := ⟨_, rfl⟩
  obtain ⟨ok, hok⟩ : ∃ r, addOk a b c d = r := ⟨_, rfl⟩
  obtain ⟨T, hT⟩ : ∃ S, tmN a b c d = S := ⟨_, rfl⟩
  obtain ⟨U, hU⟩ : ∃ M, tmM a b c d = M := ⟨_, rfl⟩
  obtain ⟨one, hone⟩ : ∃ r, tmOk a b c d = r := ⟨_, rfl⟩
  rw [hS, hM, hok] at HA1 HA2 HA3 hbk
  rw [hS, hM, hok] at hfr
  rw [hT, hU, hone] at HT1 HT2 HT3 hti
  unfold FracV at HA1 HA2 HA3 HT1 HT2 HT3
  replace HA1 := Lib.hid HA1
  replace HA2 := Lib.hid HA2
  replace HA3 := Lib.hid HA3
  replace HT1 := Lib.hid HT1
  replace HT2 := Lib.hid HT2
  replace HT3 := Lib.hid HT3
  have HFr : Hid (ok = true → isFrac c d = true ∧ isFrac S M = true) := fun h => ⟨(hfr h).2.1, (hfr h).2.2.2.2⟩
  have HBk : Hid (ok = true → addN S M (-c) d = a ∧ addM S M (-c) d = b ∧ addOk S M (-c) d = true) := hbk
  have HTi : Hid (one = true → isFrac T U = true) := hti
  clear hfr hbk hcm htc hti hS hM hok hT hU hone
  have hF0 := hF.c0
  have hF1 := hF.c1
  have hG0 := hG.c0
  have hG1 := hG.c1
  go_wp2_with fail
  refine (HA1.out _).mono ?_
  rintro e1 w4 ⟨rfl, hb⟩
  clear hF0 hF1 hG0 hG1
  replace hF := hF.below hb
  replace hG := hG.below hb
  replace hB := hB.below hb
  replace hw := keep_below hb hw
  clear hb
  go_upto_region 5 with (fail)
  obtain ⟨w5, hwn⟩ : ∃ W, W = w4.alloc (.cells #[.int .i64 S, .int .i64 M] 51) := ⟨_, rfl⟩
  have hS : PairB w5 w4.heap.size S M := by rw [hwn]; exact heap_alloc_new w4 _
  have hbA : Below w4.heap.size w4 w5 := by rw [hwn]; exact (Below.refl _ _).alloc (Nat.le_refl _) _
  replace hF := hF.below hbA
  replace hG := hG.below hbA
  replace hB := hB.below hbA
  replace hw := keep_below hbA hw
  try rw [← hwn]
  clear hwn hbA
  generalize w4.heap.size = gS at *
  have hF0 := hF.c0
  have hF1 := hF.c1
  have hG0 := hG.c0
  have hG1 := hG.c1
  go_wp2_with fail
  refine (HA2.out _).mono ?_
  rintro e1 w6 ⟨rfl, hb⟩
  clear hF0 hF1 hG0 hG1
  replace hF := hF.below hb
  replace hG := hG.below hb
  replace hS := hS.below hb
  replace hB := hB.below hb
  replace hw := keep_below hb hw
  clear hb
  go_upto_region 6 with (fail)
  obtain ⟨w7, hwn⟩ : ∃ W, W = w6.alloc (.cells #[.int .i64 S, .int .i64 M] 51) := ⟨_, rfl⟩
  have hX : PairB w7 w6.heap.size S M := by rw [hwn]; exact heap_alloc_new w6 _
  have hbA : Below w6.heap.size w6 w7 := by rw [hwn]; exact (Below.refl _ _).alloc (Nat.le_refl _) _
  replace hF := hF.below hbA
  replace hG := hG.below hbA
  replace hS := hS.below hbA
  replace hB := hB.below hbA
  replace hw := keep_below hbA hw
  try rw [← hwn]
  clear hwn hbA
  generalize w6.heap.size = gX at *
  have hQ1 := eqA2_same S M
  have hS0 := hS.c0
  have hS1 := hS.c1
  have hX0 := hX.c0
  have hX1 := hX.c1
  go_upto_region 8 with (fail)
  clear hS0 hS1 hX0 hX1
  have hF0 := hF.c0
  have hF1 := hF.c1
  have hG0 := hG.c0
  have hG1 := hG.c1
  go_wp2_with fail
  refine (HT1.out _).mono ?_
  rintro e1 w8 ⟨rfl, hb⟩
  clear hF0 hF1 hG0 hG1
  replace hF := hF.below hb
  replace hG := hG.below hb
  replace hS := hS.below hb
  replace hX := hX.below hb
  replace hB := hB.below hb
  replace hw := keep_below hb hw
  clear hb
  go_upto_region 9 with (fail)
  obtain ⟨w9, hwn⟩ : ∃ W, W = w8.alloc (.cells #[.int .i64 T, .int .i64 U] 51) := ⟨_, rfl⟩
  have hT : PairB w9 w8.heap.size T U := by rw [hwn]; exact heap_alloc_new w8 _
  have hbA : Below w8.heap.size w8 w9 := by rw [hwn]; exact (Below.refl _ _).alloc (Nat.le_refl _) _
  replace hF := hF.below hbA
  replace hG := hG.below hbA
  replace hS := hS.below hbA
  replace hX := hX.below hbA
  replace hB := hB.below hbA
  replace hw := keep_below hbA hw
  try rw [← hwn]
  clear hwn hbA
  generalize w8.heap.size = gT at *
  have hF0 := hF.c0
  have hF1 := hF.c1
  have hG0 := hG.c0
  have hG1 := hG.c1
  go_wp2_with fail
  refine (HT2.out _).mono ?_
  rintro e1 w10 ⟨rfl, hb⟩
  clear hF0 hF1 hG0 hG1
  replace hF := hF.below hb
  replace hG := hG.below hb
  replace hS := hS.below hb
  replace hX := hX.below hb
  replace hT := hT.below hb
  replace hB := hB.below hb
  replace hw := keep_below hb hw
  clear hb
  go_upto_region 10 with (fail)
  obtain ⟨w11, hwn⟩ : ∃ W, W = w10.alloc (.cells #[.int .i64 T, .int .i64 U] 51) := ⟨_, rfl⟩
  have hY : PairB w11 w10.heap.size T U := by rw [hwn]; exact heap_alloc_new w10 _
  have hbA : Below w10.heap.size w10 w11 := by rw [hwn]; exact (Below.refl _ _).alloc (Nat.le_refl _) _
  replace hF := hF.below hbA
  replace hG := hG.below hbA
  replace hS := hS.below hbA
  replace hX := hX.below hbA
  replace hT := hT.below hbA
  replace hB := hB.below hbA
  replace hw := keep_below hbA hw
  try rw [← hwn]
  clear hwn hbA
  generalize w10.heap.size = gY at *
  have hQ2 := eqA2_same T U
  have hT0 := hT.c0
  have hT1 := hT.c1
  have hY0 := hY.c0
  have hY1 := hY.c1
  go_upto_region 12 with (fail)
  clear hT0 hT1 hY0 hY1
  clear hX hY HA2 HT2
  go_wp2_with fail
  refine (HD2.out _ hB).mono ?_
  rintro e1 wA ⟨p1, p2, q1, q2, rfl, hb⟩
  replace hF := hF.below hb
  replace hG := hG.below hb
  replace hS := hS.below hb
  replace hT := hT.below hb
  replace hB := hB.below hb
  replace hw := keep_below hb hw
  clear hb HD2
  go_upto_region 13 with (fail)
  have hb9 : Below wA.heap.size wA ((wA.alloc (.cells #[.int .i64 p1, .int .i64 p2] 51)).alloc (.cells #[.int .i64 q1, .int .i64 q2] 51)) := ((Below.refl _ _).alloc (Nat.le_refl _) _).alloc (by simp) _
  have hs9 : (wA.alloc (.cells #[.int .i64 p1, .int .i64 p2] 51)).heap.size = wA.heap.size + 1 := by simp
  have hP : PairB ((wA.alloc (.cells #[.int .i64 p1, .int .i64 p2] 51)).alloc (.cells #[.int .i64 q1, .int .i64 q2] 51)) wA.heap.size p1 p2 := PairB.below (heap_alloc_new wA _) ((Below.refl _ _).alloc (Nat.le_refl _) _)
  have hQ : PairB ((wA.alloc (.cells #[.int .i64 p1, .int .i64 p2] 51)).alloc (.cells #[.int .i64 q1, .int .i64 q2] 51)) (wA.heap.size + 1) q1 q2 := by rw [← hs9]; exact heap_alloc_new (wA.alloc _) _
  replace hF := hF.below hb9
  replace hG := hG.below hb9
  replace hS := hS.below hb9
  replace hT := hT.below hb9
  replace hB := hB.below hb9
  replace hw := keep_below hb9 hw
  clear hb9 hs9
  generalize (wA.alloc (.cells #[.int .i64 p1, .int .i64 p2] 51)).alloc (.cells #[.int .i64 q1, .int .i64 q2] 51) = wC at *
  generalize wA.heap.size + 1 = gQ at *
  generalize wA.heap.size = gP at *
  have hct := cm_turn p1 p2 q1 q2
  have hcb := cm_bd p1 p2 q1 q2
  have HC1 := fun W => implCompare_any p1 p2 q1 q2 W
  have HC2 := fun W => specCompare_any p1 p2 q1 q2 W
  have HC3 := fun W => implCompare_any q1 q2 p1 p2 W
  change ∀ W, Calls _ _ _ W fun e w' => e = .returned (.tuple #[.int .i64 (cmV p1 p2 q1 q2), .bool (cmOk p1 p2 q1 q2)]) ∧ _ at HC1 HC2
  change ∀ W, Calls _ _ _ W fun e w' => e = .returned (.tuple #[.int .i64 (cmV q1 q2 p1 p2), .bool (cmOk q1 q2 p1 p2)]) ∧ _ at HC3
  rw [hct.1, hct.2] at HC3
  obtain ⟨V, hV⟩ : ∃ V, cmV p1 p2 q1 q2 = V := ⟨_, rfl⟩
  obtain ⟨two, h2⟩ : ∃ V, cmOk p1 p2 q1 q2 = V := ⟨_, rfl⟩
  rw [hV, h2] at HC1 HC2 HC3
  rw [hV] at hcb
  have hnv : IntKind.i64.wrap (-V) = -V := IntWalk.i64_in _ (by omega)
  replace HC1 := Lib.hid HC1
  replace HC2 := Lib.hid HC2
  replace HC3 := Lib.hid HC3
  clear hct hcb hV h2
  have hP0 := hP.c0
  have hP1 := hP.c1
  have hQ0 := hQ.c0
  have hQ1 := hQ.c1
  go_wp2_with fail
  refine (HC1.out _).mono ?_
  rintro e1 w41 ⟨rfl, hb⟩
  clear hP0 hP1 hQ0 hQ1
  replace hF := hF.below hb
  replace hG := hG.below hb
  replace hS := hS.below hb
  replace hT := hT.below hb
  replace hP := hP.below hb
  replace hQ := hQ.below hb
  replace hB := hB.below hb
  replace hw := keep_below hb hw
  clear hb
  go_upto_region 14 with (fail)
  have hP0 := hP.c0
  have hP1 := hP.c1
  have hQ0 := hQ.c0
  have hQ1 := hQ.c1
  go_wp2_with fail
  refine (HC2.out _).mono ?_
  rintro e1 w42 ⟨rfl, hb⟩
  clear hP0 hP1 hQ0 hQ1
  replace hF := hF.below hb
  replace hG := hG.below hb
  replace hS := hS.below hb
  replace hT := hT.below hb
  replace hP := hP.below hb
  replace hQ := hQ.below hb
  replace hB := hB.below hb
  replace hw := keep_below hb hw
  clear hb
  go_upto_region 17 with (fail)
  clear HC1 HC2
  go_wp2_with fail
  refine (HD3.out _ hB).mono ?_
  rintro e1 wD ⟨x, y, rfl, hxb, hyb, hb⟩
  replace hF := hF.below hb
  replace hG := hG.below hb
  replace hS := hS.below hb
  replace hT := hT.below hb
  replace hP := hP.below hb
  replace hQ := hQ.below hb
  replace hB := hB.below hb
  replace hw := keep_below hb hw
  clear hb HD3
  have HO1 := fun W => implFractionOf_any x y W hxb hyb
  have HO2 := fun W => specFractionOf_any x y W hxb hyb
  have hoi := fun (h : foOk x y = true) => fo_is h
  obtain ⟨k1, h1⟩ : ∃ V, foN x y = V := ⟨_, rfl⟩
  obtain ⟨k2, h2⟩ : ∃ V, foM x y = V := ⟨_, rfl⟩
  obtain ⟨three, h3⟩ : ∃ V, foOk x y = V := ⟨_, rfl⟩
  rw [h1, h2, h3] at HO1 HO2 hoi
  unfold FracV at HO1 HO2
  replace HO1 := Lib.hid HO1
  replace HO2 := Lib.hid HO2
  have HOi : Hid (three = true → isFrac k1 k2 = true) := hoi
  clear hoi h1 h2 h3 hxb hyb
  go_upto_region 18 with (fail)
  go_wp2_with fail
  refine (HO1.out _).mono ?_
  rintro e1 w43 ⟨rfl, hb⟩
  replace hF := hF.below hb
  replace hG := hG.below hb
  replace hS := hS.below hb
  replace hT := hT.below hb
  replace hP := hP.below hb
  replace hQ := hQ.below hb
  replace hB := hB.below hb
  replace hw := keep_below hb hw
  clear hb
  go_upto_region 19 with (fail)
  obtain ⟨w44, hwn⟩ : ∃ W, W = w43.alloc (.cells #[.int .i64 k1, .int .i64 k2] 51) := ⟨_, rfl⟩
  have hZ : PairB w44 w43.heap.size k1 k2 := by rw [hwn]; exact heap_alloc_new w43 _
  have hbA : Below w43.heap.size w43 w44 := by rw [hwn]; exact (Below.refl _ _).alloc (Nat.le_refl _) _
  replace hF := hF.below hbA
  replace hG := hG.below hbA
  replace hS := hS.below hbA
  replace hT := hT.below hbA
  replace hP := hP.below hbA
  replace hQ := hQ.below hbA
  replace hB := hB.below hbA
  replace hw := keep_below hbA hw
  try rw [← hwn]
  clear hwn hbA
  generalize w43.heap.size = gZ at *
  go_wp2_with fail
  refine (HO2.out _).mono ?_
  rintro e1 w45 ⟨rfl, hb⟩
  replace hF := hF.below hb
  replace hG := hG.below hb
  replace hS := hS.below hb
  replace hT := hT.below hb
  replace hP := hP.below hb
  replace hQ := hQ.below hb
  replace hZ := hZ.below hb
  replace hB := hB.below hb
  replace hw := keep_below hb hw
  clear hb
  go_upto_region 20 with (fail)
  obtain ⟨w46, hwn⟩ : ∃ W, W = w45.alloc (.cells #[.int .i64 k1, .int .i64 k2] 51) := ⟨_, rfl⟩
  have hZ2 : PairB w46 w45.heap.size k1 k2 := by rw [hwn]; exact heap_alloc_new w45 _
  have hbA : Below w45.heap.size w45 w46 := by rw [hwn]; exact (Below.refl _ _).alloc (Nat.le_refl _) _
  replace hF := hF.below hbA
  replace hG := hG.below hbA
  replace hS := hS.below hbA
  replace hT := hT.below hbA
  replace hP := hP.below hbA
  replace hQ := hQ.below hbA
  replace hZ := hZ.below hbA
  replace hB := hB.below hbA
  replace hw := keep_below hbA hw
  try rw [← hwn]
  clear hwn hbA
  generalize w45.heap.size = gZ2 at *
  clear HO1 HO2
  have hQ3 := eqA2_same k1 k2
  go_cut [140] (fun s140 wr => s140 = .bool false ∧ PairB wr gF a b ∧ PairB wr gG c d ∧ PairB wr gS S M ∧ PairB wr gT T U ∧ PairB wr gP p1 p2 ∧ PairB wr gQ q1 q2 ∧ Byt wr C n ∧ Below w.heap.size w wr)
  case first =>
    cases three with
    | false =>
      have hZ0 := hZ.c0
      have hZ1 := hZ.c1
      have hZ20 := hZ2.c0
      have hZ21 := hZ2.c1
      go_wp2_with fail
      go_meet
      go_split_ands
      exact ⟨rfl, hF, hG, hS, hT, hP, hQ, hB, hw⟩
    | true =>
      have HI7 := Lib.hid (fun W => IsFraction_any k1 k2 W)
      rw [HOi.out rfl] at HI7
      have hZ0 := hZ.c0
      have hZ1 := hZ.c1
      have hZ20 := hZ2.c0
      have hZ21 := hZ2.c1
      go_wp2_with fail
      refine (HI7.out _).mono ?_
      rintro e1 w47 ⟨rfl, hb⟩
      clear hZ0 hZ1 hZ20 hZ21
      replace hF := hF.below hb
      replace hG := hG.below hb
      replace hS := hS.below hb
      replace hT := hT.below hb
      replace hP := hP.below hb
      replace hQ := hQ.below hb
      replace hZ := hZ.below hb
      replace hZ2 := hZ2.below hb
      replace hB := hB.below hb
      replace hw := keep_below hb hw
      clear hb
      go_wp2_with fail
      go_meet
      go_split_ands
      exact ⟨rfl, hF, hG, hS, hT, hP, hQ, hB, hw⟩
  case rest =>
    clear hF hG hS hT hP hQ hB hw hZ hZ2 hQ3 HOi
    obtain ⟨rfl, hF, hG, hS, hT, hP, hQ, hB, hw⟩ := hcut
    go_upto_region 22 with (fail)
    go_wp2_with fail
    refine (HD4.out _ hB).mono ?_
    rintro e1 wI ⟨i1, i2, rfl, hb⟩
    clear hB HD4
    replace hF := hF.below hb
    replace hG := hG.below hb
    replace hS := hS.below hb
    replace hT := hT.below hb
    replace hP := hP.below hb
    replace hQ := hQ.below hb
    replace hw := keep_below hb hw
    clear hb
    go_upto_region 23 with (fail)
    obtain ⟨w61, hwn⟩ : ∃ W, W = wI.alloc (.cells #[.int .i64 i1, .int .i64 i2] 51) := ⟨_, rfl⟩
    have hI : PairB w61 wI.heap.size i1 i2 := by rw [hwn]; exact heap_alloc_new wI _
    have hbA : Below wI.heap.size wI w61 := by rw [hwn]; exact (Below.refl _ _).alloc (Nat.le_refl _) _
    replace hF := hF.below hbA
    replace hG := hG.below hbA
    replace hS := hS.below hbA
    replace hT := hT.below hbA
    replace hP := hP.below hbA
    replace hQ := hQ.below hbA
    replace hw := keep_below hbA hw
    try rw [← hwn]
    clear hwn hbA
    generalize wI.heap.size = gI at *
    have HJ1 := Lib.hid (fun W => IsFraction_any i1 i2 W)
    have HJ2 := Lib.hid (fun W => specIsFraction_any i1 i2 W)
    generalize isFrac i1 i2 = ri at *
    have hI0 := hI.c0
    have hI1 := hI.c1
    refine wp_region_held_drew (S := fun w' => w'.cell? ⟨gI, 0, none⟩ = some (.int .i64 i1) ∧ w'.cell? ⟨gI, 1, none⟩ = some (.int .i64 i2) ∧ Below w.heap.size w w') (by kernel_rfl) ⟨hI0, hI1, hw.drew⟩ (fun hHeld => ?_)
    refine wpAnyH_take (i := 0) (oi := ?oof1) (v := ?vvf1) ?hif1 (by kernel_rfl) (by kernel_rfl) (by kernel_rfl) ?hqf1 (Or.inl ⟨?hgf1, ?hyf1⟩) (by assumption) ?restf1
    case hif1 => simp only [List.getElem?_toArray, List.getElem?_cons_zero, List.getElem?_cons_succ]; rfl
    case hqf1 => exact fun _ _ _ h => h
    case hgf1 => rfl
    case hyf1 =>
      intro wq hSw
      obtain ⟨hI0, hI1, hw⟩ := hSw
      go_simp
      (try with_reducible rfl)
    (try simp only [Act.put, List.setIfInBounds_toArray, List.set_cons_zero, List.set_cons_succ])
    refine wpAnyH_take (i := 2) (oi := ?oof2) (v := ?vvf2) ?hif2 (by kernel_rfl) (by kernel_rfl) (by kernel_rfl) ?hqf2 (Or.inl ⟨?hgf2, ?hyf2⟩) (by assumption) ?restf2
    case hif2 => simp only [List.getElem?_toArray, List.getElem?_cons_zero, List.getElem?_cons_succ]; rfl
    case hqf2 => exact fun _ _ _ h => h
    case hgf2 => rfl
    case hyf2 =>
      intro wq hSw
      obtain ⟨hI0, hI1, hw⟩ := hSw
      go_simp
      (try with_reducible rfl)
    (try simp only [Act.put, List.setIfInBounds_toArray, List.set_cons_zero, List.set_cons_succ])
    refine wpAnyH_ready (rs := [1]) (by kernel_rfl) (by simp) ?_
    refine AllReadyH.cons (i := 1) (o := ?oof3) ?hof3 (fun K9 hK9 => ?hstepf3) AllReadyH.nil
    case hof3 => simp only [List.getElem?_toArray, List.getElem?_cons_zero, List.getElem?_cons_succ]; rfl
    go_simp
    refine (HJ1.out _).mono ?_
    rintro e1 wzf3 ⟨rfl, hb⟩
    replace hb : Below w61.heap.size w61 wzf3 := ⟨hb.os, hb.tape, hb.output, hb.size, hb.block⟩
    replace hI0 := keep_cell hb hI0
    replace hI1 := keep_cell hb hI1
    replace hF := hF.below hb
    replace hG := hG.below hb
    replace hS := hS.below hb
    replace hT := hT.below hb
    replace hP := hP.below hb
    replace hQ := hQ.below hb
    replace hI := hI.below hb
    replace hw := keep_below hb hw
    clear hHeld
    go_wp2_with fail
    refine hK9.out _ _ ⟨hI0, hI1, hw⟩ (fun hHeld => ?_)
    clear hK9 K9 hb
    (try simp only [Act.put, List.setIfInBounds_toArray, List.set_cons_zero, List.set_cons_succ])
    refine wpAnyH_ready (rs := [3]) (by kernel_rfl) (by simp) ?_
    refine AllReadyH.cons (i := 3) (o := ?oof4) ?hof4 (fun K9 hK9 => ?hstepf4) AllReadyH.nil
    case hof4 => simp only [List.getElem?_toArray, List.getElem?_cons_zero, List.getElem?_cons_succ]; rfl
    go_simp
    refine (HJ2.out _).mono ?_
    rintro e1 wzf4 ⟨rfl, hb⟩
    replace hI0 := keep_cell hb hI0
    replace hI1 := keep_cell hb hI1
    replace hF := hF.below hb
    replace hG := hG.below hb
    replace hS := hS.below hb
    replace hT := hT.below hb
    replace hP := hP.below hb
    replace hQ := hQ.below hb
    replace hI := hI.below hb
    replace hw := keep_below hb hw
    clear hHeld
    go_wp2_with fail
    refine hK9.out _ _ ⟨hI0, hI1, hw⟩ (fun hHeld => ?_)
    clear hK9 K9 hb
    (try simp only [Act.put, List.setIfInBounds_toArray, List.set_cons_zero, List.set_cons_succ])
    refine wpAnyH_take (i := 4) (oi := ?oof5) (v := ?vvf5) ?hif5 (by kernel_rfl) (by kernel_rfl) (by kernel_rfl) ?hqf5 (Or.inl ⟨?hgf5, ?hyf5⟩) (by assumption) ?restf5
    case hif5 => simp only [List.getElem?_toArray, List.getElem?_cons_zero, List.getElem?_cons_succ]; rfl
    case hqf5 => exact fun _ _ _ h => h
    case hgf5 => rfl
    case hyf5 =>
      intro wq hSw
      obtain ⟨hI0, hI1, hw⟩ := hSw
      go_simp
      (try with_reducible rfl)
    (try simp only [Act.put, List.setIfInBounds_toArray, List.set_cons_zero, List.set_cons_succ])
    clear hHeld
    refine wpAnyH_done (by kernel_rfl) ?_ _
    clear hI0 hI1
    go_upto_region 25 with (fail)
    cases two with
    | false =>
      go_upto_region 29 with (fail)
      cases ok with
      | false =>
        go_upto_region 37 with (fail)
        cases one with
        | false =>
          go_wp2
          go_ret
          exact ⟨rfl, hw⟩
        | true =>
          have HI9 := Lib.hid (fun W => IsFraction_any T U W)
          rw [HTi.out rfl] at HI9
          go_upto_region 38 with (fail)
          have hF0 := hF.c0
          have hF1 := hF.c1
          have hG0 := hG.c0
          have hG1 := hG.c1
          go_wp2_with fail
          refine (HT3.out _).mono ?_
          rintro e1 w62 ⟨rfl, hb⟩
          clear hF0 hF1 hG0 hG1
          replace hF := hF.below hb
          replace hG := hG.below hb
          replace hS := hS.below hb
          replace hT := hT.below hb
          replace hP := hP.below hb
          replace hQ := hQ.below hb
          replace hI := hI.below hb
          replace hw := keep_below hb hw
          clear hb
          go_upto_region 39 with (fail)
          obtain ⟨w63, hwn⟩ : ∃ W, W = w62.alloc (.cells #[.int .i64 T, .int .i64 U] 51) := ⟨_, rfl⟩
          have hK : PairB w63 w62.heap.size T U := by rw [hwn]; exact heap_alloc_new w62 _
          have hbA : Below w62.heap.size w62 w63 := by rw [hwn]; exact (Below.refl _ _).alloc (Nat.le_refl _) _
          replace hF := hF.below hbA
          replace hG := hG.below hbA
          replace hS := hS.below hbA
          replace hT := hT.below hbA
          replace hP := hP.below hbA
          replace hQ := hQ.below hbA
          replace hI := hI.below hbA
          replace hw := keep_below hbA hw
          try rw [← hwn]
          clear hwn hbA
          generalize w62.heap.size = gK at *
          have hK0 := hK.c0
          have hK1 := hK.c1
          have hT0 := hT.c0
          have hT1 := hT.c1
          go_wp2_with fail
          refine (HI9.out _).mono ?_
          rintro e1 wU ⟨rfl, hb⟩
          replace hw := keep_below hb hw
          go_wp2
          go_ret
          exact ⟨rfl, hw⟩
      | true =>
        have hfr := HFr.out rfl
        have hcb := frac_bd hfr.1
        have hfo := fo_neg hfr.1
        have HI8 := Lib.hid (fun W => IsFraction_any S M W)
        rw [hfr.2] at HI8
        have HN8 := fun W => implFractionOf_any (-c) d W (by omega) (by omega)
        rw [hfo.1, hfo.2.1, hfo.2.2] at HN8
        unfold FracV at HN8
        replace HN8 := Lib.hid HN8
        have hnc : IntKind.i64.wrap (-c) = -c := IntWalk.i64_in _ (by omega)
        have hbk := HBk.out rfl
        have HB8 := fun W => implAdd_any S M (-c) d W
        change ∀ W, Calls _ _ _ W fun e w' => e = .returned (FracV (addN S M (-c) d) (addM S M (-c) d) (addOk S M (-c) d)) ∧ _ at HB8
        rw [hbk.1, hbk.2.1, hbk.2.2] at HB8
        unfold FracV at HB8
        replace HB8 := Lib.hid HB8
        have hQ4 := eqA2_same a b
        clear hfr hcb hfo hbk
        go_upto_region 30 with (fail)
        have hF0 := hF.c0
        have hF1 := hF.c1
        have hG0 := hG.c0
        have hG1 := hG.c1
        go_wp2_with fail
        refine (HA3.out _).mono ?_
        rintro e1 w62 ⟨rfl, hb⟩
        clear hF0 hF1 hG0 hG1
        replace hF := hF.below hb
        replace hG := hG.below hb
        replace hS := hS.below hb
        replace hT := hT.below hb
        replace hP := hP.below hb
        replace hQ := hQ.below hb
        replace hI := hI.below hb
        replace hw := keep_below hb hw
        clear hb
        go_upto_region 31 with (fail)
        obtain ⟨w63, hwn⟩ : ∃ W, W = w62.alloc (.cells #[.int .i64 S, .int .i64 M] 51) := ⟨_, rfl⟩
        have hO : PairB w63 w62.heap.size S M := by rw [hwn]; exact heap_alloc_new w62 _
        have hbA : Below w62.heap.size w62 w63 := by rw [hwn]; exact (Below.refl _ _).alloc (Nat.le_refl _) _
        replace hF := hF.below hbA
        replace hG := hG.below hbA
        replace hS := hS.below hbA
        replace hT := hT.below hbA
        replace hP := hP.below hbA
        replace hQ := hQ.below hbA
        replace hI := hI.below hbA
        replace hw := keep_below hbA hw
        try rw [← hwn]
        clear hwn hbA
        generalize w62.heap.size = gO at *
        have hG0 := hG.c0
        have hG1 := hG.c1
        go_wp2_with fail
        refine (HN8.out _).mono ?_
        rintro e1 w64 ⟨rfl, hb⟩
        clear hG0 hG1
        replace hF := hF.below hb
        replace hG := hG.below hb
        replace hS := hS.below hb
        replace hT := hT.below hb
        replace hP := hP.below hb
        replace hQ := hQ.below hb
        replace hI := hI.below hb
        replace hO := hO.below hb
        replace hw := keep_below hb hw
        clear hb
        go_upto_region 32 with (fail)
        obtain ⟨w65, hwn⟩ : ∃ W, W = w64.alloc (.cells #[.int .i64 (-c), .int .i64 d] 51) := ⟨_, rfl⟩
        have hN : PairB w65 w64.heap.size (-c) d := by rw [hwn]; exact heap_alloc_new w64 _
        have hbA : Below w64.heap.size w64 w65 := by rw [hwn]; exact (Below.refl _ _).alloc (Nat.le_refl _) _
        replace hF := hF.below hbA
        replace hG := hG.below hbA
        replace hS := hS.below hbA
        replace hT := hT.below hbA
        replace hP := hP.below hbA
        replace hQ := hQ.below hbA
        replace hI := hI.below hbA
        replace hO := hO.below hbA
        replace hw := keep_below hbA hw
        try rw [← hwn]
        clear hwn hbA
        generalize w64.heap.size = gN at *
        have hO0 := hO.c0
        have hO1 := hO.c1
        have hS0 := hS.c0
        have hS1 := hS.c1
        go_wp2_with fail
        refine (HI8.out _).mono ?_
        rintro e1 w66 ⟨rfl, hb⟩
        clear hO0 hO1 hS0 hS1
        replace hF := hF.below hb
        replace hG := hG.below hb
        replace hS := hS.below hb
        replace hT := hT.below hb
        replace hP := hP.below hb
        replace hQ := hQ.below hb
        replace hI := hI.below hb
        replace hO := hO.below hb
        replace hN := hN.below hb
        replace hw := keep_below hb hw
        clear hb
        go_upto_region 34 with (fail)
        have hS0 := hS.c0
        have hS1 := hS.c1
        have hN0 := hN.c0
        have hN1 := hN.c1
        go_wp2_with fail
        refine (HB8.out _).mono ?_
        rintro e1 w67 ⟨rfl, hb⟩
        clear hS0 hS1 hN0 hN1
        replace hF := hF.below hb
        replace hG := hG.below hb
        replace hS := hS.below hb
        replace hT := hT.below hb
        replace hP := hP.below hb
        replace hQ := hQ.below hb
        replace hI := hI.below hb
        replace hO := hO.below hb
        replace hN := hN.below hb
        replace hw := keep_below hb hw
        clear hb
        go_upto_region 35 with (fail)
        obtain ⟨w68, hwn⟩ : ∃ W, W = w67.alloc (.cells #[.int .i64 a, .int .i64 b] 51) := ⟨_, rfl⟩
        have hR : PairB w68 w67.heap.size a b := by rw [hwn]; exact heap_alloc_new w67 _
        have hbA : Below w67.heap.size w67 w68 := by rw [hwn]; exact (Below.refl _ _).alloc (Nat.le_refl _) _
        replace hF := hF.below hbA
        replace hG := hG.below hbA
        replace hS := hS.below hbA
        replace hT := hT.below hbA
        replace hP := hP.below hbA
        replace hQ := hQ.below hbA
        replace hI := hI.below hbA
        replace hO := hO.below hbA
        replace hN := hN.below hbA
        replace hw := keep_below hbA hw
        try rw [← hwn]
        clear hwn hbA
        generalize w67.heap.size = gR at *
        have hR0 := hR.c0
        have hR1 := hR.c1
        have hF0 := hF.c0
        have hF1 := hF.c1
        go_upto_region 37 with (fail)
        clear hR0 hR1 hF0 hF1
        cases one with
        | false =>
          go_wp2
          go_ret
          exact ⟨rfl, hw⟩
        | true =>
          have HI9 := Lib.hid (fun W => IsFraction_any T U W)
          rw [HTi.out rfl] at HI9
          go_upto_region 38 with (fail)
          have hF0 := hF.c0
          have hF1 := hF.c1
          have hG0 := hG.c0
          have hG1 := hG.c1
          go_wp2_with fail
          refine (HT3.out _).mono ?_
          rintro e1 w69 ⟨rfl, hb⟩
          clear hF0 hF1 hG0 hG1
          replace hF := hF.below hb
          replace hG := hG.below hb
          replace hS := hS.below hb
          replace hT := hT.below hb
          replace hP := hP.below hb
          replace hQ := hQ.below hb
          replace hI := hI.below hb
          replace hO := hO.below hb
          replace hN := hN.below hb
          replace hR := hR.below hb
          replace hw := keep_below hb hw
          clear hb
          go_upto_region 39 with (fail)
          obtain ⟨w70, hwn⟩ : ∃ W, W = w69.alloc (.cells #[.int .i64 T, .int .i64 U] 51) := ⟨_, rfl⟩
          have hK : PairB w70 w69.heap.size T U := by rw [hwn]; exact heap_alloc_new w69 _
          have hbA : Below w69.heap.size w69 w70 := by rw [hwn]; exact (Below.refl _ _).alloc (Nat.le_refl _) _
          replace hF := hF.below hbA
          replace hG := hG.below hbA
          replace hS := hS.below hbA
          replace hT := hT.below hbA
          replace hP := hP.below hbA
          replace hQ := hQ.below hbA
          replace hI := hI.below hbA
          replace hO := hO.below hbA
          replace hN := hN.below hbA
          replace hR := hR.below hbA
          replace hw := keep_below hbA hw
          try rw [← hwn]
          clear hwn hbA
          generalize w69.heap.size = gK at *
          have hK0 := hK.c0
          have hK1 := hK.c1
          have hT0 := hT.c0
          have hT1 := hT.c1
          go_wp2_with fail
          refine (HI9.out _).mono ?_
          rintro e1 wU ⟨rfl, hb⟩
          replace hw := keep_below hb hw
          go_wp2
          go_ret
          exact ⟨rfl, hw⟩
    | true =>
      go_upto_region 26 with (fail)
      have hP0 := hP.c0
      have hP1 := hP.c1
      have hQ0 := hQ.c0
      have hQ1 := hQ.c1
      go_wp2_with fail
      refine (HC3.out _).mono ?_
      rintro e1 w62 ⟨rfl, hb⟩
      clear hP0 hP1 hQ0 hQ1
      replace hF := hF.below hb
      replace hG := hG.below hb
      replace hS := hS.below hb
      replace hT := hT.below hb
      replace hP := hP.below hb
      replace hQ := hQ.below hb
      replace hI := hI.below hb
      replace hw := keep_below hb hw
      clear hb
      go_upto_region 29 with (fail)
      cases ok with
      | false =>
        go_upto_region 37 with (fail)
        cases one with
        | false =>
          go_wp2
          go_ret
          exact ⟨rfl, hw⟩
        | true =>
          have HI9 := Lib.hid (fun W => IsFraction_any T U W)
          rw [HTi.out rfl] at HI9
          go_upto_region 38 with (fail)
          have hF0 := hF.c0
          have hF1 := hF.c1
          have hG0 := hG.c0
          have hG1 := hG.c1
          go_wp2_with fail
          refine (HT3.out _).mono ?_
          rintro e1 w63 ⟨rfl, hb⟩
          clear hF0 hF1 hG0 hG1
          replace hF := hF.below hb
          replace hG := hG.below hb
          replace hS := hS.below hb
          replace hT := hT.below hb
          replace hP := hP.below hb
          replace hQ := hQ.below hb
          replace hI := hI.below hb
          replace hw := keep_below hb hw
          clear hb
          go_upto_region 39 with (fail)
          obtain ⟨w64, hwn⟩ : ∃ W, W = w63.alloc (.cells #[.int .i64 T, .int .i64 U] 51) := ⟨_, rfl⟩
          have hK : PairB w64 w63.heap.size T U := by rw [hwn]; exact heap_alloc_new w63 _
          have hbA : Below w63.heap.size w63 w64 := by rw [hwn]; exact (Below.refl _ _).alloc (Nat.le_refl _) _
          replace hF := hF.below hbA
          replace hG := hG.below hbA
          replace hS := hS.below hbA
          replace hT := hT.below hbA
          replace hP := hP.below hbA
          replace hQ := hQ.below hbA
          replace hI := hI.below hbA
          replace hw := keep_below hbA hw
          try rw [← hwn]
          clear hwn hbA
          generalize w63.heap.size = gK at *
          have hK0 := hK.c0
          have hK1 := hK.c1
          have hT0 := hT.c0
          have hT1 := hT.c1
          go_wp2_with fail
          refine (HI9.out _).mono ?_
          rintro e1 wU ⟨rfl, hb⟩
          replace hw := keep_below hb hw
          go_wp2
          go_ret
          exact ⟨rfl, hw⟩
      | true =>
        have hfr := HFr.out rfl
        have hcb := frac_bd hfr.1
        have hfo := fo_neg hfr.1
        have HI8 := Lib.hid (fun W => IsFraction_any S M W)
        rw [hfr.2] at HI8
        have HN8 := fun W => implFractionOf_any (-c) d W (by omega) (by omega)
        rw [hfo.1, hfo.2.1, hfo.2.2] at HN8
        unfold FracV at HN8
        replace HN8 := Lib.hid HN8
        have hnc : IntKind.i64.wrap (-c) = -c := IntWalk.i64_in _ (by omega)
        have hbk := HBk.out rfl
        have HB8 := fun W => implAdd_any S M (-c) d W
        change ∀ W, Calls _ _ _ W fun e w' => e = .returned (FracV (addN S M (-c) d) (addM S M (-c) d) (addOk S M (-c) d)) ∧ _ at HB8
        rw [hbk.1, hbk.2.1, hbk.2.2] at HB8
        unfold FracV at HB8
        replace HB8 := Lib.hid HB8
        have hQ4 := eqA2_same a b
        clear hfr hcb hfo hbk
        go_upto_region 30 with (fail)
        have hF0 := hF.c0
        have hF1 := hF.c1
        have hG0 := hG.c0
        have hG1 := hG.c1
        go_wp2_with fail
        refine (HA3.out _).mono ?_
        rintro e1 w63 ⟨rfl, hb⟩
        clear hF0 hF1 hG0 hG1
        replace hF := hF.below hb
        replace hG := hG.below hb
        replace hS := hS.below hb
        replace hT := hT.below hb
        replace hP := hP.below hb
        replace hQ := hQ.below hb
        replace hI := hI.below hb
        replace hw := keep_below hb hw
        clear hb
        go_upto_region 31 with (fail)
        obtain ⟨w64, hwn⟩ : ∃ W, W = w63.alloc (.cells #[.int .i64 S, .int .i64 M] 51) := ⟨_, rfl⟩
        have hO : PairB w64 w63.heap.size S M := by rw [hwn]; exact heap_alloc_new w63 _
        have hbA : Below w63.heap.size w63 w64 := by rw [hwn]; exact (Below.refl _ _).alloc (Nat.le_refl _) _
        replace hF := hF.below hbA
        replace hG := hG.below hbA
        replace hS := hS.below hbA
        replace hT := hT.below hbA
        replace hP := hP.below hbA
        replace hQ := hQ.below hbA
        replace hI := hI.below hbA
        replace hw := keep_below hbA hw
        try rw [← hwn]
        clear hwn hbA
        generalize w63.heap.size = gO at *
        have hG0 := hG.c0
        have hG1 := hG.c1
        go_wp2_with fail
        refine (HN8.out _).mono ?_
        rintro e1 w65 ⟨rfl, hb⟩
        clear hG0 hG1
        replace hF := hF.below hb
        replace hG := hG.below hb
        replace hS := hS.below hb
        replace hT := hT.below hb
        replace hP := hP.below hb
        replace hQ := hQ.below hb
        replace hI := hI.below hb
        replace hO := hO.below hb
        replace hw := keep_below hb hw
        clear hb
        go_upto_region 32 with (fail)
        obtain ⟨w66, hwn⟩ : ∃ W, W = w65.alloc (.cells #[.int .i64 (-c), .int .i64 d] 51) := ⟨_, rfl⟩
        have hN : PairB w66 w65.heap.size (-c) d := by rw [hwn]; exact heap_alloc_new w65 _
        have hbA : Below w65.heap.size w65 w66 := by rw [hwn]; exact (Below.refl _ _).alloc (Nat.le_refl _) _
        replace hF := hF.below hbA
        replace hG := hG.below hbA
        replace hS := hS.below hbA
        replace hT := hT.below hbA
        replace hP := hP.below hbA
        replace hQ := hQ.below hbA
        replace hI := hI.below hbA
        replace hO := hO.below hbA
        replace hw := keep_below hbA hw
        try rw [← hwn]
        clear hwn hbA
        generalize w65.heap.size = gN at *
        have hO0 := hO.c0
        have hO1 := hO.c1
        have hS0 := hS.c0
        have hS1 := hS.c1
        go_wp2_with fail
        refine (HI8.out _).mono ?_
        rintro e1 w67 ⟨rfl, hb⟩
        clear hO0 hO1 hS0 hS1
        replace hF := hF.below hb
        replace hG := hG.below hb
        replace hS := hS.below hb
        replace hT := hT.below hb
        replace hP := hP.below hb
        replace hQ := hQ.below hb
        replace hI := hI.below hb
        replace hO := hO.below hb
        replace hN := hN.below hb
        replace hw := keep_below hb hw
        clear hb
        go_upto_region 34 with (fail)
        have hS0 := hS.c0
        have hS1 := hS.c1
        have hN0 := hN.c0
        have hN1 := hN.c1
        go_wp2_with fail
        refine (HB8.out _).mono ?_
        rintro e1 w68 ⟨rfl, hb⟩
        clear hS0 hS1 hN0 hN1
        replace hF := hF.below hb
        replace hG := hG.below hb
        replace hS := hS.below hb
        replace hT := hT.below hb
        replace hP := hP.below hb
        replace hQ := hQ.below hb
        replace hI := hI.below hb
        replace hO := hO.below hb
        replace hN := hN.below hb
        replace hw := keep_below hb hw
        clear hb
        go_upto_region 35 with (fail)
        obtain ⟨w69, hwn⟩ : ∃ W, W = w68.alloc (.cells #[.int .i64 a, .int .i64 b] 51) := ⟨_, rfl⟩
        have hR : PairB w69 w68.heap.size a b := by rw [hwn]; exact heap_alloc_new w68 _
        have hbA : Below w68.heap.size w68 w69 := by rw [hwn]; exact (Below.refl _ _).alloc (Nat.le_refl _) _
        replace hF := hF.below hbA
        replace hG := hG.below hbA
        replace hS := hS.below hbA
        replace hT := hT.below hbA
        replace hP := hP.below hbA
        replace hQ := hQ.below hbA
        replace hI := hI.below hbA
        replace hO := hO.below hbA
        replace hN := hN.below hbA
        replace hw := keep_below hbA hw
        try rw [← hwn]
        clear hwn hbA
        generalize w68.heap.size = gR at *
        have hR0 := hR.c0
        have hR1 := hR.c1
        have hF0 := hF.c0
        have hF1 := hF.c1
        go_upto_region 37 with (fail)
        clear hR0 hR1 hF0 hF1
        cases one with
        | false =>
          go_wp2
          go_ret
          exact ⟨rfl, hw⟩
        | true =>
          have HI9 := Lib.hid (fun W => IsFraction_any T U W)
          rw [HTi.out rfl] at HI9
          go_upto_region 38 with (fail)
          have hF0 := hF.c0
          have hF1 := hF.c1
          have hG0 := hG.c0
          have hG1 := hG.c1
          go_wp2_with fail
          refine (HT3.out _).mono ?_
          rintro e1 w70 ⟨rfl, hb⟩
          clear hF0 hF1 hG0 hG1
          replace hF := hF.below hb
          replace hG := hG.below hb
          replace hS := hS.below hb
          replace hT := hT.below hb
          replace hP := hP.below hb
          replace hQ := hQ.below hb
          replace hI := hI.below hb
          replace hO := hO.below hb
          replace hN := hN.below hb
          replace hR := hR.below hb
          replace hw := keep_below hb hw
          clear hb
          go_upto_region 39 with (fail)
          obtain ⟨w71, hwn⟩ : ∃ W, W = w70.alloc (.cells #[.int .i64 T, .int .i64 U] 51) := ⟨_, rfl⟩
          have hK : PairB w71 w70.heap.size T U := by rw [hwn]; exact heap_alloc_new w70 _
          have hbA : Below w70.heap.size w70 w71 := by rw [hwn]; exact (Below.refl _ _).alloc (Nat.le_refl _) _
          replace hF := hF.below hbA
          replace hG := hG.below hbA
          replace hS := hS.below hbA
          replace hT := hT.below hbA
          replace hP := hP.below hbA
          replace hQ := hQ.below hbA
          replace hI := hI.below hbA
          replace hO := hO.below hbA
          replace hN := hN.below hbA
          replace hR := hR.below hbA
          replace hw := keep_below hbA hw
          try rw [← hwn]
          clear hwn hbA
          generalize w70.heap.size = gK at *
          have hK0 := hK.c0
          have hK1 := hK.c1
          have hT0 := hT.c0
          have hT1 := hT.c1
          go_wp2_with fail
          refine (HI9.out _).mono ?_
          rintro e1 wU ⟨rfl, hb⟩
          replace hw := keep_below hb hw
          go_wp2
          go_ret
          exact ⟨rfl, hw⟩
end Go.Proofs.Ytombfbmcplefgaa
