/- Contracts: drifts. -/
import Derived.Test.YtombfbmcplefgaaDriftP
import Derived.StillTailTactics
import Derived.StillTactics
namespace Go.Proofs.Ytombfbmcplefgaa
open Go.ChangeShapes Go.WideShapes Go.ChangeAt Go.RowKit

set_option maxHeartbeats 2000000 in
set_option maxRecDepth 100000 in
theorem l3Drift_good {xs ys : List Int} (hg : good xs ys = true) (A B P : Option Addr) (c e cp x : Nat) (ps : List Int) (w : World) (h : IntS w A xs) (k : IntS w B ys) (zp : IntS w P ps) (hpl : ps.length = xs.length) (hp : ∀ j, -999 ≤ nth ps j ∧ nth ps j ≤ 999) (hx : x < xs.length) :
    Calls Try.prog 146 #[.agg #[.slice A xs.length c, .slice B ys.length e], .slice P ps.length cp, .int .i64 x] w fun e1 w' => e1 = .returned (.agg #[.int .i64 (dftP xs ys ps x).1, .int .i64 (dftP xs ys ps x).2]) ∧ Below w.heap.size w w' := by
  have hgl := good_len hg
  have HK := fun W (h : IntS W A xs) => l2Kids_any A B c ys.length e x xs W h (by omega) hx
  rw [kid_same hg x] at HK
  change ∀ W (h : IntS W A xs), Calls _ _ _ W (RetI W (kidsL xs x)) at HK
  replace HK := Lib.hid HK
  have HSu := Lib.hid (fun W (h : IntS W A xs) (k : IntS W B ys) => l2Sums_good hg A B c e W h k)
  have hsl := sums_len hg
  have hs1 := sums_one hg hx
  have hsb := Lib.hid (fun j => sums_bd hg j)
  have hdb := dft_bd hg hp x
  have HP := Lib.hid hp
  have hkl := kids_len xs x
  have HMem : Hid (∀ j, j < (kidsL xs x).length → ∃ y : Nat, nth (kidsL xs x) j = y ∧ y < xs.length) := fun j hj => by obtain ⟨y, h1, h2, _⟩ := pick_mem hj; exact ⟨y, h1, h2⟩
  have HLeaf : Hid ((kidsL xs x).length = 0 → dftP xs ys ps x = (0, 1)) := dft_leaf hg hx
  have HIn : Hid (1 ≤ (kidsL xs x).length → lsum (fun y => nth (sumsL xs ys) y.toNat * nth ps y.toNat) (kidsL xs x) - nth (sumsL xs ys) x * nth ps x = dftN xs ys ps x) := dft_spec hg hx
  have HD : Hid (dftP xs ys ps x = (lowX (dftN xs ys ps x) (nth (sumsL xs ys) x), lowY (dftN xs ys ps x) (nth (sumsL xs ys) x))) := rfl
  have hsbx := sums_bd hg x
  have HC := Lib.hid (fun W => l2Cut_any (dftN xs ys ps x) (nth (sumsL xs ys) x) W (by omega) (by omega) (by omega))
  obtain ⟨n, e1⟩ : ∃ n, xs.length = n := ⟨_, rfl⟩
  have e2 : ys.length = n := by rw [hgl.2.2]; exact e1
  have e3 : ps.length = n := by rw [hpl]; exact e1
  simp only [e1, e2, e3] at HK HSu HMem hkl hgl hx ⊢
  have HPL := Lib.hid e3.symm
  have HSL : Hid ((sumsL xs ys).length = n) := by show _ = _; rw [hsl]; exact e1
  obtain ⟨g1, g2, _⟩ := hgl
  clear e1 e2 e3 hpl hp hg hsl hsbx
  generalize dftP xs ys ps x = DP at *
  generalize dftN xs ys ps x = DN at *
  generalize kidsL xs x = K at *
  generalize sumsL xs ys = S at *
  have n1 := g1
  go_enter Try.func146, Try.ntmps146
  obtain ⟨w0, hw0⟩ : ∃ w0, w0 = (w.alloc (.cells #[.slice A n c, .slice B n e] 28)).alloc (.cells #[.int .i64 0, .int .i64 0] 51) := ⟨_, rfl⟩
  have hx0 : w0.cell? ⟨w.heap.size, 0, none⟩ = some (.slice A n c) := by rw [hw0]; simp
  have hx1 : w0.cell? ⟨w.heap.size, 1, none⟩ = some (.slice B n e) := by rw [hw0]; simp
  have hr0 : w0.cell? ⟨w.heap.size + 1, 0, none⟩ = some (.int .i64 0) := by rw [hw0]; simp
  have hr1 : w0.cell? ⟨w.heap.size + 1, 1, none⟩ = some (.int .i64 0) := by rw [hw0]; simp
  have hf0 : w0.frozen? ⟨w.heap.size + 1, 0, none⟩ = false := by rw [hw0]; simp
  have hf1 : w0.frozen? ⟨w.heap.size + 1, 1, none⟩ = false := by rw [hw0]; simp
  have hw : Below w.heap.size w w0 := by rw [hw0]; (repeat (first | with_reducible exact Below.refl _ _ | with_reducible assumption | with_reducible refine Below.alloc' ?_ ?_ _ | with_reducible refine Below.setCell' ?_ ?_ _ | with_reducible refine Below.drewN' ?_ _ | with_reducible refine Below.drew ?_ | with_reducible refine Below.transA ?_ (by assumption) ?_ | omega | (focus (simp; done)) | (focus (simp; omega))))
  have HW0 := Lib.hid hw0
  clear hw0
  go_wp2
  rw [← HW0.out]
  clear HW0
  refine wp_region_held_drew (S := fun w' => Below w0.heap.size w0 w') (by kernel_rfl) ((Below.refl _ _)).drew (fun hHeld => ?_)
  replace hw := hw.drew
  refine wpAnyH_take (i := 0) (oi := ?oo1) (v := ?vv1) ?hi1 (by kernel_rfl) (by kernel_rfl) (by kernel_rfl) ?hq1 (Or.inl ⟨?hg1, ?hy1⟩) (by assumption) ?rest1
  case hi1 => simp only [List.getElem?_toArray, List.getElem?_cons_zero, List.getElem?_cons_succ]; rfl
  case hq1 => exact fun _ _ _ h => h
  case hg1 => rfl
  case hy1 =>
    intro wq hSw
    replace hx0 := keep_cell hSw hx0
    replace hx1 := keep_cell hSw hx1
    replace hr0 := keep_cell hSw hr0
    replace hr1 := keep_cell hSw hr1
    go_simp
    (try with_reducible rfl)
  (try simp only [Act.put, List.setIfInBounds_toArray, List.set_cons_zero, List.set_cons_succ])
  refine wpAnyH_take (i := 1) (oi := ?oo2) (v := ?vv2) ?hi2 (by kernel_rfl) (by kernel_rfl) (by kernel_rfl) ?hq2 (Or.inl ⟨?hg2, ?hy2⟩) (by assumption) ?rest2
  case hi2 => simp only [List.getElem?_toArray, List.getElem?_cons_zero, List.getElem?_cons_succ]; rfl
  case hq2 => exact fun _ _ _ h => h
  case hg2 => rfl
  case hy2 =>
    intro wq hSw
    replace hx0 := keep_cell hSw hx0
    replace hx1 := keep_cell hSw hx1
    replace hr0 := keep_cell hSw hr0
    replace hr1 := keep_cell hSw hr1
    go_simp
    (try with_reducible rfl)
  (try simp only [Act.put, List.setIfInBounds_toArray, List.set_cons_zero, List.set_cons_succ])
  refine wpAnyH_take (i := 3) (oi := ?oo3) (v := ?vv3) ?hi3 (by kernel_rfl) (by kernel_rfl) (by kernel_rfl) ?hq3 (Or.inl ⟨?hg3, ?hy3⟩) (by assumption) ?rest3
  case hi3 => simp only [List.getElem?_toArray, List.getElem?_cons_zero, List.getElem?_cons_succ]; rfl
  case hq3 => exact fun _ _ _ h => h
  case hg3 => rfl
  case hy3 =>
    intro wq hSw
    replace hx0 := keep_cell hSw hx0
    replace hx1 := keep_cell hSw hx1
    replace hr0 := keep_cell hSw hr0
    replace hr1 := keep_cell hSw hr1
    go_simp
    (try with_reducible rfl)
  (try simp only [Act.put, List.setIfInBounds_toArray, List.set_cons_zero, List.set_cons_succ])
  refine wpAnyH_ready (rs := [2]) (by kernel_rfl) (by simp) ?_
  refine AllReadyH.cons (i := 2) (o := ?oo4) ?ho4 (fun K hK => ?hstep4) AllReadyH.nil
  case ho4 => simp only [List.getElem?_toArray, List.getElem?_cons_zero, List.getElem?_cons_succ]; rfl
  go_simp
  refine (HK.out _ (h.below hw)).mono ?_
  rintro e1 wz ⟨A1, c1, rfl, hok, hb⟩
  go_wp2_with fail
  refine hK.out _ _ (keep_below hb hHeld) (fun _ => ?_)
  clear hK K
  (try simp only [Act.put, List.setIfInBounds_toArray, List.set_cons_zero, List.set_cons_succ])
  refine wpAnyH_mono (S' := fun w' => Below wz.heap.size wz w') (fun _ h => keep_below h (keep_below hb hHeld)) _ _ _ _ ?_
  replace hw := keep_below hb hw
  replace hf0 := keep_froz2 hb hr0 hf0
  replace hf1 := keep_froz2 hb hr1 hf1
  replace hx0 := keep_cell hb hx0
  replace hx1 := keep_cell hb hx1
  replace hr0 := keep_cell hb hr0
  replace hr1 := keep_cell hb hr1
  clear hHeld hb
  have hHeld : Below wz.heap.size wz wz := (Below.refl _ _)
  refine wpAnyH_ready (rs := [4]) (by kernel_rfl) (by simp) ?_
  refine AllReadyH.cons (i := 4) (o := ?oo5) ?ho5 (fun K hK => ?hstep5) AllReadyH.nil
  case ho5 => simp only [List.getElem?_toArray, List.getElem?_cons_zero, List.getElem?_cons_succ]; rfl
  go_simp
  refine (HSu.out _ (h.below hw) (k.below hw)).mono ?_
  rintro e1 wz ⟨As, cs, rfl, hos, hb⟩
  replace hok := hok.below hb
  go_wp2_with fail
  refine hK.out _ _ (keep_below hb hHeld) (fun _ => ?_)
  clear hK K
  (try simp only [Act.put, List.setIfInBounds_toArray, List.set_cons_zero, List.set_cons_succ])
  refine wpAnyH_mono (S' := fun w' => Below wz.heap.size wz w') (fun _ h => keep_below h (keep_below hb hHeld)) _ _ _ _ ?_
  replace hw := keep_below hb hw
  replace hf0 := keep_froz2 hb hr0 hf0
  replace hf1 := keep_froz2 hb hr1 hf1
  replace hx0 := keep_cell hb hx0
  replace hx1 := keep_cell hb hx1
  replace hr0 := keep_cell hb hr0
  replace hr1 := keep_cell hb hr1
  clear hHeld hb
  have hHeld : Below wz.heap.size wz wz := (Below.refl _ _)
  refine wpAnyH_take (i := 5) (oi := ?oo6) (v := ?vv6) ?hi6 (by kernel_rfl) (by kernel_rfl) (by kernel_rfl) ?hq6 (Or.inl ⟨?hg6, ?hy6⟩) (by assumption) ?rest6
  case hi6 => simp only [List.getElem?_toArray, List.getElem?_cons_zero, List.getElem?_cons_succ]; rfl
  case hq6 => exact fun _ _ _ h => h
  case hg6 => rfl
  case hy6 =>
    intro wq hSw
    replace hx0 := keep_cell hSw hx0
    replace hx1 := keep_cell hSw hx1
    replace hr0 := keep_cell hSw hr0
    replace hr1 := keep_cell hSw hr1
    go_simp
    (try with_reducible rfl)
  (try simp only [Act.put, List.setIfInBounds_toArray, List.set_cons_zero, List.set_cons_succ])
  refine wpAnyH_take (i := 6) (oi := ?oo7) (v := ?vv7) ?hi7 (by kernel_rfl) (by kernel_rfl) (by kernel_rfl) ?hq7 (Or.inl ⟨?hg7, ?hy7⟩) (by assumption) ?rest7
  case hi7 => simp only [List.getElem?_toArray, List.getElem?_cons_zero, List.getElem?_cons_succ]; rfl
  case hq7 => exact fun _ _ _ h => h
  case hg7 => rfl
  case hy7 =>
    intro wq hSw
    replace hx0 := keep_cell hSw hx0
    replace hx1 := keep_cell hSw hx1
    replace hr0 := keep_cell hSw hr0
    replace hr1 := keep_cell hSw hr1
    go_simp
    (try with_reducible rfl)
  (try simp only [Act.put, List.setIfInBounds_toArray, List.set_cons_zero, List.set_cons_succ])
  clear hHeld
  refine wpAnyH_done (by kernel_rfl) ?_ _
  obtain ⟨gS, rfl, hgS, hrS⟩ := hos.pos (by rw [HSL.out]; exact g1)
  clear hos hgS
  by_cases hk0 : K.length = 0
  · have hd := HLeaf.out hk0
    have hz : ((K.length : Int) == 0) = true := by rw [beq_iff_eq]; omega
    subst hd
    clear hk0 HIn HC HD HLeaf hrS hok
    go_wp2
    refine bodyPost_ret (v := .agg #[.int .i64 0, .int .i64 1]) (by simp (maxDischargeDepth := 9) [results, Try.results146, go_sem, *]) rfl ⟨rfl, ?_⟩
    (repeat (first | with_reducible exact Below.refl _ _ | with_reducible assumption | with_reducible refine Below.alloc' ?_ ?_ _ | with_reducible refine Below.setCell' ?_ ?_ _ | with_reducible refine Below.drewN' ?_ _ | with_reducible refine Below.drew ?_ | with_reducible refine Below.transA ?_ (by assumption) ?_ | omega | (focus (simp; done)) | (focus (simp; omega))))
  · have hk1 : 1 ≤ K.length := by omega
    have hz : ((K.length : Int) == 0) = false := by rw [beq_eq_false_iff_ne]; omega
    obtain ⟨gK, rfl, hgK, hrK⟩ := hok.pos hk1
    have hin := HIn.out hk1
    have hd := HD.out
    subst hd
    clear hk0 HIn HD HLeaf hok hgK
    have HT := Lib.hid (fun j (hj : j < K.length) => lsum_take (fun y => nth S y.toNat * nth ps y.toNat) hj)
    have HB := Lib.hid (fun j => lsum_bd (fun y => nth S y.toNat * nth ps y.toNat) (M := 479520) (fun y => by
      have h1 := hsb.out y.toNat
      have h2 := HP.out y.toNat
      have := mul_bd (A := 480) (D := 999) (a := nth S y.toNat) (d := nth ps y.toNat) (by omega) h2
      omega) (K.take j))
    have HF : Hid (lsum (fun y => nth S y.toNat * nth ps y.toNat) (K.take K.length) - nth S x * nth ps x = DN) := by show _ = _; rw [List.take_length]; exact hin
    have H0 : Hid (lsum (fun y => nth S y.toNat * nth ps y.toNat) (K.take 0) = 0) := rfl
    have HFn : Hid (∀ y : Nat, (fun y : Int => nth S y.toNat * nth ps y.toNat) (y : Int) = nth S y * nth ps y) := fun y => rfl
    clear hin
    generalize hL : lsum (fun y => nth S y.toNat * nth ps y.toNat) = L at *
    clear hL
    go_wp2
    go_loopw [9, 10] (fun sv i wr => ∃ j : Nat, j ≤ K.length ∧ i = .int .i64 j ∧ sv = .int .i64 (L (K.take j)) ∧ Row wr gK K ∧ Row wr gS S ∧ wr.cell? ⟨w.heap.size + 1, 0, none⟩ = some (.int .i64 0) ∧ wr.cell? ⟨w.heap.size + 1, 1, none⟩ = some (.int .i64 0) ∧ wr.frozen? ⟨w.heap.size + 1, 0, none⟩ = false ∧ wr.frozen? ⟨w.heap.size + 1, 1, none⟩ = false ∧ Below w.heap.size w wr) (fun _ i _ => K.length - (intOf i).toNat)
    case atStart => exact ⟨0, by omega, rfl, by rw [H0.out], hrK, hrS, hr0, hr1, hf0, hf1, hw⟩
    case round =>
      clear hrK hrS hr0 hr1 hf0 hf1 hw hx0 hx1
      obtain ⟨j, hj, rfl, rfl, hrK, hrS, hr0, hr1, hf0, hf1, hw⟩ := hrel
      have hbd := HB.out j
      have htl : ((K.take j).length : Int) ≤ 24 := by have := List.length_take_le j K; omega
      have hbd2 : ((479520 : Nat) : Int) * ((K.take j).length : Int) ≤ 479520 * 24 := Int.mul_le_mul_of_nonneg_left htl (by omega)
      by_cases hlt : j < K.length
      · obtain ⟨y, hy, hyn⟩ := HMem.out j hlt
        have hcK := hrK.cell hlt
        have hcS := hrS.cell (j := y) (by rw [HSL.out]; exact hyn)
        obtain ⟨b, o, rfl, hcp⟩ := (zp.below hw).at_ (j := y) (by rw [← HPL.out]; exact hyn)
        have hs := hsb.out y
        have hpy := HP.out y
        have ht := HT.out j hlt
        rw [hy] at hcK ht
        rw [HFn.out y] at ht
        obtain ⟨a, ha⟩ : ∃ a, nth S y = a := ⟨_, rfl⟩
        obtain ⟨q, hq⟩ : ∃ q, nth ps y = q := ⟨_, rfl⟩
        rw [ha, hq] at ht
        rw [ha] at hcS hs
        rw [hq] at hcp hpy
        have hm := mul_bd (A := 480) (D := 999) (a := a) (d := q) (by omega) hpy
        obtain ⟨m, hme⟩ : ∃ m, a * q = m := ⟨_, rfl⟩
        rw [hme] at ht hm
        have HTT := Lib.hid ht
        generalize L (K.take j) = sv at *
        have u1 : IntKind.i64.wrap (a * q) = m := by rw [hme]; exact IntWalk.i64_in _ (by omega)
        have u2 : IntKind.i64.wrap (sv + m) = sv + m := IntWalk.i64_in _ (by omega)
        have i1 : (j : Int) < K.length := by omega
        have i2 : (y : Int) < S.length := by rw [HSL.out]; omega
        have i3 : (y : Int) < n := by omega
        clear hy ha hq hme ht hbd hbd2 htl
        go_wp2
        go_still (by kernel_rfl)
        go_wp2
        go_roundw
        case rel => exact ⟨j + 1, by omega, by go_num, by rw [HTT.out], hrK, hrS, hr0, hr1, hf0, hf1, hw.drew⟩
        case measure => simp [intOf]; omega
      · have hje : j = K.length := by omega
        subst hje
        have hcS := hrS.cell (j := x) (by rw [HSL.out]; exact hx)
        obtain ⟨b, o, rfl, hcp⟩ := (zp.below hw).at_ (j := x) (by rw [← HPL.out]; exact hx)
        have hs := hsb.out x
        have hpy := HP.out x
        have hf := HF.out
        have hlS : (x : Int) < S.length := by rw [HSL.out]; omega
        have hxn : (x : Int) < n := by omega
        obtain ⟨a, ha⟩ : ∃ a, nth S x = a := ⟨_, rfl⟩
        obtain ⟨q, hq⟩ : ∃ q, nth ps x = q := ⟨_, rfl⟩
        rw [ha, hq] at hf
        rw [ha] at hcS hs HC hs1
        rw [hq] at hcp hpy
        have hm := mul_bd (A := 480) (D := 999) (a := a) (d := q) (by omega) hpy
        obtain ⟨m, hme⟩ : ∃ m, a * q = m := ⟨_, rfl⟩
        rw [hme] at hf hm
        generalize L (K.take K.length) = sv at *
        have u1 : IntKind.i64.wrap (a * q) = m := by rw [hme]; exact IntWalk.i64_in _ (by omega)
        have u2 : IntKind.i64.wrap (sv - m) = DN := by rw [hf]; exact IntWalk.i64_in _ (by omega)
        have HA := Lib.hid ha
        clear ha hq hme hf HF HT HB hbd hbd2 htl HMem hrK hrS
        go_wp2
        go_still_tail 15, (by kernel_rfl)
        change wpList _ _ _ _ _ wr.drew
        go_wp2_with fail
        refine (HC.out _).mono ?_
        rintro e1 wz ⟨rfl, hb⟩
        replace hf0 := keep_froz2 hb hr0 hf0
        replace hf1 := keep_froz2 hb hr1 hf1
        replace hr0 := keep_cell hb hr0
        replace hr1 := keep_cell hb hr1
        replace hw := keep_below hb hw.drew
        go_wp2
        refine bodyPost_ret (v := .agg #[.int .i64 (lowX DN a), .int .i64 (lowY DN a)]) (by simp (maxDischargeDepth := 9) [results, Try.results146, go_sem, *]) rfl ⟨by rw [HA.out], ?_⟩
        (repeat (first | with_reducible exact Below.refl _ _ | with_reducible assumption | with_reducible refine Below.alloc' ?_ ?_ _ | with_reducible refine Below.setCell' ?_ ?_ _ | with_reducible refine Below.drewN' ?_ _ | with_reducible refine Below.drew ?_ | with_reducible refine Below.transA ?_ (by assumption) ?_ | omega | (focus (simp; done)) | (focus (simp; omega))))
set_option maxHeartbeats 2000000 in
set_option maxRecDepth 100000 in
theorem l3Drifts_good {xs ys : List Int} (hg : good xs ys = true) (A B P : Option Addr) (c e cp : Nat) (ps : List Int) (w : World) (h : IntS w A xs) (k : IntS w B ys) (zp : IntS w P ps) (hpl : ps.length = xs.length) (hp : ∀ j, -999 ≤ nth ps j ∧ nth ps j ≤ 999) :
    Calls Try.prog 100 #[.agg #[.slice A xs.length c, .slice B ys.length e], .slice P ps.length cp] w (RetP w (dftK xs ys ps xs.length)) := by
  have hgl := good_len hg
  have HX := Lib.hid (fun W (h : IntS W A xs) (k : IntS W B ys) (zp : IntS W P ps) (x : Nat) (hx : x < xs.length) => l3Drift_good hg A B P c e cp x ps W h k zp hpl hp hx)
  have HDL := Lib.hid (fun k => dftK_len xs ys ps k)
  have HDS := Lib.hid (fun k => dftK_succ xs ys ps k)
  have HD0 : Hid (dftK xs ys ps 0 = []) := rfl
  obtain ⟨n, e1⟩ : ∃ n, xs.length = n := ⟨_, rfl⟩
  have e2 : ys.length = n := by rw [hgl.2.2]; exact e1
  have e3 : ps.length = n := by rw [hpl]; exact e1
  simp only [e1, e2, e3] at HX hgl ⊢
  obtain ⟨g1, g2, _⟩ := hgl
  clear e1 e2 e3 hpl hp hg
  generalize dftK xs ys ps = F at *
  generalize dftP xs ys ps = D at *
  obtain ⟨i0, hi, hz0, hz1, hz2⟩ := info_parts info_A2
  go_enter Try.func100, Try.ntmps100
  go_wp2
  go_loopw [5, 6] (fun v i wr => ∃ j : Nat, j ≤ n ∧ i = .int .i64 j ∧ wr.ownsRow (w.heap.size + 1) 51 2 v j (i64p (F j)) ∧ wr.cell? ⟨w.heap.size, 0, none⟩ = some (.slice A n c) ∧ wr.cell? ⟨w.heap.size, 1, none⟩ = some (.slice B n e) ∧ Below w.heap.size w wr) (fun _ i _ => n - (intOf i).toNat)
  case atStart => exact ⟨0, by omega, rfl, by rw [HD0.out]; exact own_empty2 _ _ _ (by simp) (by simp), by simp, by simp, by (repeat (first | with_reducible exact Below.refl _ _ | with_reducible assumption | with_reducible refine Below.alloc' ?_ ?_ _ | with_reducible refine Below.setCell' ?_ ?_ _ | with_reducible refine Below.drewN' ?_ _ | with_reducible refine Below.drew ?_ | with_reducible refine Below.transA ?_ (by assumption) ?_ | omega | (focus (simp; done)) | (focus (simp; omega))))⟩
  case round =>
    obtain ⟨j, hj, rfl, hown, hx0, hx1, hw⟩ := hrel
    by_cases hlt : j < n
    · have HXj := Lib.hid (fun W (h : IntS W A xs) (k : IntS W B ys) (zp : IntS W P ps) => HX.out W h k zp j hlt)
      have hds := HDS.out j
      obtain ⟨a, ha⟩ : ∃ a, (D j).1 = a := ⟨_, rfl⟩
      obtain ⟨b, hb⟩ : ∃ b, (D j).2 = b := ⟨_, rfl⟩
      have hds2 : i64p (F (j + 1)) = i64p (F j) ++ [Value.int .i64 a, Value.int .i64 b] := by rw [hds, ← ha, ← hb]; exact i64p_app _ _ _
      have HPX := Lib.hid hds2
      rw [ha, hb] at HXj
      clear hds hds2 ha hb
      generalize F j = L at *
      go_wp2_with fail
      refine (HXj.out _ (h.below hw) (k.below hw) (zp.below hw)).mono ?_
      rintro e1 w2 ⟨rfl, hb2⟩
      replace hown := own_below hown hb2
      replace hx0 := keep_cell hb2 hx0
      replace hx1 := keep_cell hb2 hx1
      replace hw := keep_below hb2 hw
      clear hb2
      have hlx : w.heap.size < w2.heap.size := World.block_lt_of_cell? _ _ hx0
      go_wp2_with (at_builtin; (refine wpList_append_own_at _ rfl _ _ 44 rfl (w.heap.size + 1) 51 i0 (.agg #[.int .i64 0, .int .i64 0]) 2 16 Try.underlying44 hi hz0 hz1 hz2 rfl (by decide) _ _ _ rfl (hown.alloc _) ⟨w2.heap.size, 0, none⟩ 1 1 [.int .i64 (a), .int .i64 (b)] rfl rfl (cells2_new _ _ _ _) (by simp [Value.oneCell']) (by unfold maxLen; omega) (by omega) (by simp; omega) ?_); intro v' w1 hown1 hgrow _ hat)
      have hxx0 := grown_cell hgrow (p := ⟨w.heap.size, 0, none⟩) (by rw [World.cell?_alloc_lt _ _ _ hlx]; exact hx0) (own_ne (g := w.heap.size) hown (by omega))
      have hxx1 := grown_cell hgrow (p := ⟨w.heap.size, 1, none⟩) (by rw [World.cell?_alloc_lt _ _ _ hlx]; exact hx1) (own_ne (g := w.heap.size) hown (by omega))
      have hb3 : Below w.heap.size w w1 := Below.grown (hw.alloc hw.size _) hgrow (by simp; omega) (fun g hg => by have := (hown.lt g hg).1; omega)
      rw [← HPX.out] at hown1
      clear hown hgrow hw HPX hx0 hx1 hat
      go_wp2
      go_roundw
      case rel => exact ⟨j + 1, by omega, by go_num, hown1, hxx0, hxx1, hb3⟩
      case measure => simp only [intOf]; omega
    · have hkn : j = n := by omega
      rw [hkn] at hown
      obtain ⟨A', c', rfl, hO⟩ := own_form2 hown
      have hll := Lib.hid (HDL.out n)
      clear hkn hown HDL HDS
      go_wp2
      go_ret
      exact ⟨A', c', rfl, hO.mono (by omega), hw⟩
set_option maxHeartbeats 4000000 in
set_option maxRecDepth 100000 in
theorem drifts_good {xs ys : List Int} (hg : good xs ys = true) (A B P : Option Addr) (c e cp : Nat) (ps : List Int) (w : World) (h : IntS w A xs) (k : IntS w B ys) (zp : IntS w P ps) (hpl : ps.length = xs.length) (hp : ∀ j, -999 ≤ nth ps j ∧ nth ps j ≤ 999) :
    Calls Try.prog 103 #[.agg #[.slice A xs.length c, .slice B ys.length e], .slice P ps.length cp] w (RetP w (dftK xs ys ps xs.length)) := by
  have hgl := good_len hg
  have HK := fun W (h : IntS W A xs) (x : Nat) => children_any A B c ys.length e (x : Int) xs W h (by omega)
  change ∀ W (h : IntS W A xs) (x : Nat), Calls _ _ _ W (RetI W (kidsL xs x)) at HK
  replace HK := Lib.hid HK
  have HSu := Lib.hid (fun W (h : IntS W A xs) (k : IntS W B ys) => sums_good hg A B c e W h k)
  have hsl := sums_len hg
  have hs1 := Lib.hid (fun x (hx : x < xs.length) => sums_one hg hx)
  have hsb := Lib.hid (fun j => sums_bd hg j)
  have hdb := Lib.hid (fun x => dft_bd hg hp x)
  have HP := Lib.hid hp
  have hkl := Lib.hid (fun x => kids_len xs x)
  have HMem : Hid (∀ x j, j < (kidsL xs x).length → ∃ y : Nat, nth (kidsL xs x) j = y ∧ y < xs.length) := fun x j hj => by obtain ⟨y, h1, h2, _⟩ := pick_mem hj; exact ⟨y, h1, h2⟩
  have HDf : Hid (∀ x, dftP xs ys ps x = (lowX (dftN xs ys ps x) (nth (sumsL xs ys) x), lowY (dftN xs ys ps x) (nth (sumsL xs ys) x))) := fun x => rfl
  have HNf : Hid (∀ x, dftN xs ys ps x = lsum (fun y => nth (sumsL xs ys) y.toNat * (nth ps y.toNat - nth ps x)) (kidsL xs x)) := fun x => rfl
  have HDL := Lib.hid (fun k => dftK_len xs ys ps k)
  have HDS := Lib.hid (fun k => dftK_succ xs ys ps k)
  have HD0 : Hid (dftK xs ys ps 0 = []) := rfl
  obtain ⟨n, e1⟩ : ∃ n, xs.length = n := ⟨_, rfl⟩
  have e2 : ys.length = n := by rw [hgl.2.2]; exact e1
  have e3 : ps.length = n := by rw [hpl]; exact e1
  simp only [e1, e2, e3] at HK HSu HMem hkl hgl hs1 ⊢
  have HPL := Lib.hid e3.symm
  have HSL : Hid ((sumsL xs ys).length = n) := by show _ = _; rw [hsl]; exact e1
  obtain ⟨g1, g2, _⟩ := hgl
  clear e1 e2 e3 hpl hp hg hsl
  generalize dftK xs ys ps = F at *
  generalize dftP xs ys ps = D at *
  generalize dftN xs ys ps = DN at *
  generalize kidsL xs = KL at *
  generalize sumsL xs ys = S at *
  obtain ⟨i0, hi, hz0, hz1, hz2⟩ := info_parts info_A2
  go_enter Try.func103, Try.ntmps103
  go_wp2_with fail
  refine (HSu.out _ ((h.alloc _).alloc _) ((k.alloc _).alloc _)).mono ?_
  rintro e1 w1 ⟨As, cs, rfl, hos, hb1⟩
  have hx0 : w1.cell? ⟨w.heap.size, 0, none⟩ = some (.slice A n c) := keep_cell hb1 (by simp)
  have hx1 : w1.cell? ⟨w.heap.size, 1, none⟩ = some (.slice B n e) := keep_cell hb1 (by simp)
  have hown0 := own_below (own_empty2 (w.alloc (.cells #[.slice A n c, .slice B n e] 28)) (w.heap.size + 1) (w.heap.size + 1) (by simp) (by simp)) hb1
  have hw : Below w.heap.size w w1 := below_alloc (below_alloc hb1)
  obtain ⟨gS, rfl, hgS, hrS⟩ := hos.pos (by rw [HSL.out]; exact g1)
  replace hgS : w.heap.size + 1 < gS := by simp at hgS; omega
  clear hos hb1 HSu
  go_wp2
  go_loopw [5, 19] (fun v i wr => ∃ j : Nat, j ≤ n ∧ i = .int .i64 j ∧ wr.ownsRow (w.heap.size + 1) 51 2 v j (i64p (F j)) ∧ v.ownBlock ≠ some gS ∧ Row wr gS S ∧ wr.cell? ⟨w.heap.size, 0, none⟩ = some (.slice A n c) ∧ wr.cell? ⟨w.heap.size, 1, none⟩ = some (.slice B n e) ∧ Below w.heap.size w wr) (fun _ i _ => n - (intOf i).toNat)
  case atStart => exact ⟨0, by omega, rfl, by rw [HD0.out]; exact hown0, by simp [Value.ownBlock]; omega, hrS, hx0, hx1, hw⟩
  case round =>
    clear hown0 hrS hx0 hx1 hw
    obtain ⟨x, hxj, rfl, hown, hne, hrS, hx0, hx1, hw⟩ := hrel
    by_cases hlt : x < n
    · have HKx := Lib.hid (fun W (h : IntS W A xs) => HK.out W h x)
      have hkx := hkl.out x
      have HMx := Lib.hid (fun j hj => HMem.out x j hj)
      have HNx := Lib.hid (HNf.out x)
      have HDx := Lib.hid (HDf.out x)
      have hsx := hsb.out x
      have hs1x := hs1.out x hlt
      have hdx := hdb.out x
      have hpx := HP.out x
      have hds := HDS.out x
      have HT := Lib.hid (fun j (hj : j < (KL x).length) => lsum_take (fun y => nth S y.toNat * (nth ps y.toNat - nth ps x)) hj)
      have HB := Lib.hid (fun j => lsum_bd (fun y => nth S y.toNat * (nth ps y.toNat - nth ps x)) (M := 959040) (fun y => by
        have h1 := hsb.out y.toNat
        have h2 := HP.out y.toNat
        have := mul_bd (A := 480) (D := 1998) (a := nth S y.toNat) (d := nth ps y.toNat - nth ps x) (by omega) (by omega)
        omega) ((KL x).take j))
      have H0 : Hid (lsum (fun y => nth S y.toNat * (nth ps y.toNat - nth ps x)) ((KL x).take 0) = 0) := rfl
      have HFn : Hid (∀ y : Nat, (fun y : Int => nth S y.toNat * (nth ps y.toNat - nth ps x)) (y : Int) = nth S y * (nth ps y - nth ps x)) := fun y => rfl
      have HNl : Hid (lsum (fun y => nth S y.toNat * (nth ps y.toNat - nth ps x)) ((KL x).take (KL x).length) = DN x) := by show _ = _; rw [List.take_length, ← HNx.out]
      obtain ⟨px, hpe⟩ : ∃ q, nth ps x = q := ⟨_, rfl⟩
      obtain ⟨sx, hse⟩ : ∃ q, nth S x = q := ⟨_, rfl⟩
      rw [hpe] at hpx HT HB H0 HFn HNl
      have HPE := Lib.hid hpe
      have HSE := Lib.hid hse
      have hds2 : i64p (F (x + 1)) = i64p (F x) ++ [Value.int .i64 (lowX (DN x) sx), Value.int .i64 (lowY (DN x) sx)] := by rw [hds, HDx.out, hse]; exact i64p_app _ _ _
      have HPX := Lib.hid hds2
      rw [hse] at hsx hs1x
      have hlow := drift_low (a := DN x) (b := sx) (by omega) (by omega)
      have HC := fun W => lowest_any (DN x) sx W (by omega) (by omega) (by omega)
      rw [hlow.1, hlow.2.1, hlow.2.2] at HC
      replace HC := Lib.hid HC
      clear hpe hse hlow hds hds2 HDx HNx hdx
      generalize hL : lsum (fun y => nth S y.toNat * (nth ps y.toNat - px)) = L at *
      clear hL
      generalize KL x = K at *
      generalize DN x = dn at *
      generalize F x = FX at *
      generalize lowX dn sx = a9 at *
      generalize lowY dn sx = b9 at *
      go_wp2_with fail
      refine (HKx.out _ (h.below hw)).mono ?_
      rintro e1 w2 ⟨A2, c2, rfl, hok, hb2⟩
      replace hown := own_below hown hb2
      replace hrS := hrS.below hb2
      replace hx0 := keep_cell hb2 hx0
      replace hx1 := keep_cell hb2 hx1
      replace hw := keep_below hb2 hw
      have hIK := hok.upper
      clear hb2 hok
      go_wp2
      go_loopw [8, 27] (fun sv i wq => ∃ j : Nat, j ≤ K.length ∧ i = .int .i64 j ∧ sv = .int .i64 (L (K.take j)) ∧ wq.ownsRow (w.heap.size + 1) 51 2 u5 x (i64p FX) ∧ IntS wq A2 K ∧ Row wq gS S ∧ wq.cell? ⟨w.heap.size, 0, none⟩ = some (.slice A n c) ∧ wq.cell? ⟨w.heap.size, 1, none⟩ = some (.slice B n e) ∧ Below w.heap.size w wq) (fun _ i _ => K.length - (intOf i).toNat)
      case atStart => exact ⟨0, by omega, rfl, by rw [H0.out], hown, hIK.ints, hrS, hx0, hx1, hw⟩
      case round =>
        clear hown hIK hrS hx0 hx1 hw
        obtain ⟨j, hj, rfl, rfl, hown, hIK, hrS, hx0, hx1, hw⟩ := hrel
        have hbd := HB.out j
        have htl : ((K.take j).length : Int) ≤ 24 := by have := List.length_take_le j K; omega
        have hbd2 : ((959040 : Nat) : Int) * ((K.take j).length : Int) ≤ 959040 * 24 := Int.mul_le_mul_of_nonneg_left htl (by omega)
        by_cases hlj : j < K.length
        · obtain ⟨y, hy, hyn⟩ := HMx.out j hlj
          obtain ⟨b1, o1, rfl, hcK⟩ := hIK.at_ hlj
          have hcS := hrS.cell (j := y) (by rw [HSL.out]; exact hyn)
          obtain ⟨b, o, rfl, hcp⟩ := (zp.below hw).at_ (j := y) (by rw [← HPL.out]; exact hyn)
          obtain ⟨b', o', hbo, hcx⟩ := (zp.below hw).at_ (j := x) (by rw [← HPL.out]; exact hlt)
          cases hbo
          rw [HPE.out] at hcx
          have hs := hsb.out y
          have hpy := HP.out y
          have ht := HT.out j hlj
          rw [hy] at hcK ht
          rw [HFn.out y] at ht
          obtain ⟨a, ha⟩ : ∃ a, nth S y = a := ⟨_, rfl⟩
          obtain ⟨q, hq⟩ : ∃ q, nth ps y = q := ⟨_, rfl⟩
          rw [ha, hq] at ht
          rw [ha] at hcS hs
          rw [hq] at hcp hpy
          have hm := mul_bd (A := 480) (D := 1998) (a := a) (d := q - px) (by omega) (by omega)
          obtain ⟨m, hme⟩ : ∃ m, a * (q - px) = m := ⟨_, rfl⟩
          rw [hme] at ht hm
          have HTT := Lib.hid ht
          generalize L (K.take j) = sv at *
          have u0 : IntKind.i64.wrap (q - px) = q - px := IntWalk.i64_in _ (by omega)
          have u1 : IntKind.i64.wrap (a * (q - px)) = m := by rw [hme]; exact IntWalk.i64_in _ (by omega)
          have u2 : IntKind.i64.wrap (sv + m) = sv + m := IntWalk.i64_in _ (by omega)
          have i1 : (j : Int) < K.length := by omega
          have i2 : (y : Int) < S.length := by rw [HSL.out]; omega
          have i3 : (y : Int) < n := by omega
          have i4 : (x : Int) < n := by omega
          clear hy ha hq hme ht hbd hbd2 htl
          go_wp2
          go_still (by kernel_rfl)
          go_wp2
          go_roundw
          case rel => exact ⟨j + 1, by omega, by go_num, by rw [HTT.out], hown, hIK, hrS, hx0, hx1, hw.drew⟩
          case measure => simp [intOf]; omega
        · have hje : j = K.length := by omega
          subst hje
          have hcS := hrS.cell (j := x) (by rw [HSL.out]; exact hlt)
          rw [HSE.out] at hcS
          have hlS : (x : Int) < S.length := by rw [HSL.out]; omega
          rw [HNl.out]
          clear HT HB HFn HNl HMx hbd hbd2 htl hIK H0
          go_wp2_with fail
          refine (HC.out _).mono ?_
          rintro e1 w3 ⟨rfl, hb3⟩
          replace hb3 : Below wr.heap.size wr w3 := ⟨hb3.os, hb3.tape, hb3.output, hb3.size, hb3.block⟩
          replace hown := own_below hown hb3
          replace hrS := hrS.below hb3
          replace hx0 := keep_cell hb3 hx0
          replace hx1 := keep_cell hb3 hx1
          replace hw := keep_below hb3 hw
          clear hb3 hcS
          have hlx : w.heap.size < w3.heap.size := World.block_lt_of_cell? _ _ hx0
          have hlS3 := hrS.lt
          replace hown := hown.alloc (.cells #[.int .i64 a9, .int .i64 b9] 51)
          replace hrS := hrS.alloc (.cells #[.int .i64 a9, .int .i64 b9] 51)
          have hy0 : (w3.alloc (.cells #[.int .i64 a9, .int .i64 b9] 51)).cell? ⟨w.heap.size, 0, none⟩ = some (.slice A n c) := by rw [World.cell?_alloc_lt _ _ _ hlx]; exact hx0
          have hy1 : (w3.alloc (.cells #[.int .i64 a9, .int .i64 b9] 51)).cell? ⟨w.heap.size, 1, none⟩ = some (.slice B n e) := by rw [World.cell?_alloc_lt _ _ _ hlx]; exact hx1
          replace hw := hw.alloc hw.size (.cells #[.int .i64 a9, .int .i64 b9] 51)
          have hlz := hlx
          replace hlx : w.heap.size < (w3.alloc (.cells #[.int .i64 a9, .int .i64 b9] 51)).heap.size := by simp; omega
          clear hx0 hx1
          have hcn := cells2_new (w3.alloc (.cells #[.int .i64 a9, .int .i64 b9] 51)) (.int .i64 a9) (.int .i64 b9) 51
          rw [show (w3.alloc (.cells #[.int .i64 a9, .int .i64 b9] 51)).heap.size = w3.heap.size + 1 from by simp] at hcn
          go_wp2_with (at_builtin; go_loud ((refine wpList_append_own_at _ rfl _ _ 44 rfl (w.heap.size + 1) 51 i0 (.agg #[.int .i64 0, .int .i64 0]) 2 16 Try.underlying44 hi hz0 hz1 hz2 rfl (by decide) _ _ _ rfl (hown.alloc _) ⟨w3.heap.size + 1, 0, none⟩ 1 1 [.int .i64 (a9), .int .i64 (b9)] rfl rfl hcn (by simp [Value.oneCell']) (by unfold maxLen; omega) (by omega) (by simp; omega) ?_); intro v' w1 hown1 hgrow _ hat))
          have hxx0 := grown_cell hgrow (p := ⟨w.heap.size, 0, none⟩) (by rw [World.cell?_alloc_lt _ _ _ hlx]; exact hy0) (own_ne (g := w.heap.size) hown (by omega))
          have hxx1 := grown_cell hgrow (p := ⟨w.heap.size, 1, none⟩) (by rw [World.cell?_alloc_lt _ _ _ hlx]; exact hy1) (own_ne (g := w.heap.size) hown (by omega))
          have hrS1 := (hrS.alloc _).grown hgrow (fun h => hne (by exact h.symm))
          have hne1 : v'.ownBlock ≠ some gS := by
            rcases hat with e | e
            · rw [e]; exact hne
            · rw [e]; intro h'; injection h' with h'; have := hrS.lt; simp at h'; omega
          have hb3 : Below w.heap.size w w1 := Below.grown (hw.alloc hw.size _) hgrow (by simp; omega) (fun g hg => by have := (hown.lt g hg).1; omega)
          rw [← HPX.out] at hown1
          clear hown hgrow hw HPX hy0 hy1 hat hrS hne
          go_wp2
          go_roundw
          case rel => exact ⟨x + 1, by omega, by go_num, hown1, hne1, hrS1, hxx0, hxx1, hb3⟩
          case measure => simp only [intOf]; omega
    · have hkn : x = n := by omega
      rw [hkn] at hown
      obtain ⟨A', c', rfl, hO⟩ := own_form2 hown
      have hll := Lib.hid (HDL.out n)
      clear hkn hown HDL HDS hrS hne
      go_wp2
      go_ret
      exact ⟨A', c', rfl, hO.mono (by omega), hw⟩
end Go.Proofs.Ytombfbmcplefgaa
