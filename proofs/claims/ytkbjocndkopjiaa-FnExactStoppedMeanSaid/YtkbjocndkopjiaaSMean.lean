/- Contracts: the mean of a stopped process. -/
import Derived.Test.YtkbjocndkopjiaaIsStop
import Derived.Test.YtkbjocndkopjiaaHigh
import Derived.Test.YtkbjocndkopjiaaChance
import Derived.Test.YtkbjocndkopjiaaDriftP
namespace Go.Proofs.Ytkbjocndkopjiaa
open Go.ChangeShapes Go.WideShapes Go.ChangeAt Go.RowKit

def smS (xs ys ps qs : List Int) : Int := lsum (fun y => nth (sumsL xs ys) y.toNat * nth ps y.toNat) qs
noncomputable def smOk (xs ys ps qs : List Int) : Bool := good xs ys && isProc xs.length ps && isStp xs qs
noncomputable def smN (xs ys ps qs : List Int) : Int := if smOk xs ys ps qs then lowX (smS xs ys ps qs) (nth (sumsL xs ys) 0) else 0
noncomputable def smM (xs ys ps qs : List Int) : Int := if smOk xs ys ps qs then lowY (smS xs ys ps qs) (nth (sumsL xs ys) 0) else 0
theorem smN_no {xs ys ps qs : List Int} (h : smOk xs ys ps qs = false) : smN xs ys ps qs = 0 := by unfold smN; rw [h]; rfl
theorem smM_no {xs ys ps qs : List Int} (h : smOk xs ys ps qs = false) : smM xs ys ps qs = 0 := by unfold smM; rw [h]; rfl
theorem smN_yes {xs ys ps qs : List Int} (h : smOk xs ys ps qs = true) : smN xs ys ps qs = lowX (smS xs ys ps qs) (nth (sumsL xs ys) 0) := by unfold smN; rw [h]; rfl
theorem smM_yes {xs ys ps qs : List Int} (h : smOk xs ys ps qs = true) : smM xs ys ps qs = lowY (smS xs ys ps qs) (nth (sumsL xs ys) 0) := by unfold smM; rw [h]; rfl

set_option maxHeartbeats 1000000 in
theorem l3Both_any (A B P Q : Option Addr) (c e cp cq : Nat) (xs ys ps qs : List Int) (w : World) (h : IntS w A xs) (k : IntS w B ys) (zp : IntS w P ps) (zq : IntS w Q qs) (hx : Bd xs) (hy : Bd ys) (hn : xs.length ≤ 1048576) (hm : ys.length ≤ 1048576) (lp : ps.length ≤ 1048576) (lq : qs.length ≤ 1048576) :
    Calls Try.prog 89 #[.agg #[.slice A xs.length c, .slice B ys.length e], .slice P ps.length cp, .slice Q qs.length cq] w fun e1 w' => e1 = .returned (.bool (good xs ys && isProc xs.length ps && isStp xs qs)) ∧ Below w.heap.size w w' := by
  have H1 := Lib.hid (fun W (h : IntS W A xs) (k : IntS W B ys) (zp : IntS W P ps) => l3Good_any A B P c e cp xs ys ps W h k zp hx hy hn hm lp)
  by_cases q1 : (good xs ys && isProc xs.length ps) = true
  · have H2 := Lib.hid (fun W (h : IntS W A xs) (zq : IntS W Q qs) => l3Stop_good (Bool.and_eq_true_iff.1 q1).1 A B Q c e cq qs W h zq lq)
    rw [q1] at H1 ⊢
    rw [Bool.true_and]
    generalize isStp xs qs = r at *
    clear q1 hx hy
    go_enter Try.func89, Try.ntmps89
    go_wp2_with fail
    refine (H1.out _ (h.alloc _) (k.alloc _) (zp.alloc _)).mono ?_
    rintro e1 w1 ⟨rfl, hb⟩
    have hx0 : w1.cell? ⟨w.heap.size, 0, none⟩ = some (.slice A xs.length c) := keep_cell hb (by simp)
    have hx1 : w1.cell? ⟨w.heap.size, 1, none⟩ = some (.slice B ys.length e) := keep_cell hb (by simp)
    have hw : Below w.heap.size w w1 := below_alloc hb
    clear hb
    go_wp2_with fail
    refine (H2.out _ (h.below hw) (zq.below hw)).mono ?_
    rintro e1 w2 ⟨rfl, hb⟩
    go_wp2
    go_ret
    exact ⟨rfl, keep_below hb hw⟩
  · replace q1 : (good xs ys && isProc xs.length ps) = false := by simpa using q1
    rw [q1] at H1 ⊢
    rw [Bool.false_and]
    clear q1 hx hy
    go_enter Try.func89, Try.ntmps89
    go_wp2_with fail
    refine (H1.out _ (h.alloc _) (k.alloc _) (zp.alloc _)).mono ?_
    rintro e1 w1 ⟨rfl, hb⟩
    go_wp2
    go_ret
    exact ⟨rfl, below_alloc hb⟩
set_option maxHeartbeats 2000000 in
set_option maxRecDepth 100000 in
theorem specStoppedMean_any (A B : Option Addr) (c e : Nat) (xs ys : List Int) (P : Option Addr) (cp : Nat) (ps : List Int) (Q : Option Addr) (cq : Nat) (qs : List Int) (w : World) (h : IntS w A xs) (k : IntS w B ys) (zp : IntS w P ps) (zq : IntS w Q qs) (_hx : Bd xs) (_hy : Bd ys) (_bp : Bd ps) (_bq : Bd qs) (hn : xs.length ≤ 1048576) (hm : ys.length ≤ 1048576) (lp : ps.length ≤ 1048576) (lq : qs.length ≤ 1048576) :
    Calls Try.prog 31 #[.agg #[.slice A xs.length c, .slice B ys.length e], .slice P ps.length cp, .slice Q qs.length cq] w (RetAB w (smN xs ys ps qs) (smM xs ys ps qs) (smOk xs ys ps qs)) := by
  obtain ⟨r1, q1⟩ : ∃ r, (good xs ys && isProc xs.length ps && isStp xs qs) = r := ⟨_, rfl⟩
  cases r1
  case false =>
    have hO : smOk xs ys ps qs = false := by unfold smOk ; simp [q1]
    have hV_smN := smN_no hO
    have hV_smM := smM_no hO
    rw [hV_smN]
    rw [hV_smM]
    (try rw [hO])
    clear hO hV_smN hV_smM
    have HG1 := Lib.hid (fun W (h : IntS W A xs) (k : IntS W B ys) (zp : IntS W P ps) (zq : IntS W Q qs) => l3Both_any A B P Q c e cp cq xs ys ps qs W h k zp zq _hx _hy hn hm lp lq)
    rw [q1] at HG1
    clear q1 _hx _hy _bp _bq
    go_enter Try.func31, Try.ntmps31
    go_wp2_with fail
    refine (HG1.out _ ((h.alloc _).alloc _) ((k.alloc _).alloc _) ((zp.alloc _).alloc _) ((zq.alloc _).alloc _)).mono ?_
    rintro e1 w1 ⟨rfl, hb⟩
    have hx0 : w1.cell? ⟨w.heap.size, 0, none⟩ = some (.slice A xs.length c) := keep_cell hb (by simp)
    have hx1 : w1.cell? ⟨w.heap.size, 1, none⟩ = some (.slice B ys.length e) := keep_cell hb (by simp)
    have hr0 : w1.cell? ⟨w.heap.size + 1, 0, none⟩ = some (.int .i64 0) := keep_cell hb (by simp)
    have hr1 : w1.cell? ⟨w.heap.size + 1, 1, none⟩ = some (.int .i64 0) := keep_cell hb (by simp)
    have hf0 : w1.frozen? ⟨w.heap.size + 1, 0, none⟩ = false := keep_froz hb (by simp) (by simp)
    have hf1 : w1.frozen? ⟨w.heap.size + 1, 1, none⟩ = false := keep_froz hb (by simp) (by simp)
    have hw : Below w.heap.size w w1 := below_alloc (below_alloc (hb))
    clear hb
    go_wp2
    refine bodyPost_ret (v := .tuple #[.agg #[.int .i64 0, .int .i64 0], .bool false]) (by simp (maxDischargeDepth := 9) [results, Try.results31, go_sem, *]) rfl ⟨rfl, ?_⟩
    (repeat (first | with_reducible exact Below.refl _ _ | with_reducible assumption | with_reducible refine Below.alloc' ?_ ?_ _ | with_reducible refine Below.setCell' ?_ ?_ _ | with_reducible refine Below.drewN' ?_ _ | with_reducible refine Below.drew ?_ | with_reducible refine Below.transA ?_ (by assumption) ?_ | omega | (focus (simp; done)) | (focus (simp; omega))))
  case true =>
    have hO : smOk xs ys ps qs = true := by unfold smOk ; simp [q1]
    have hV_smN := smN_yes hO
    have hV_smM := smM_yes hO
    rw [hV_smN]
    rw [hV_smM]
    (try rw [hO])
    clear hO hV_smN hV_smM
    have HG1 := Lib.hid (fun W (h : IntS W A xs) (k : IntS W B ys) (zp : IntS W P ps) (zq : IntS W Q qs) => l3Both_any A B P Q c e cp cq xs ys ps qs W h k zp zq _hx _hy hn hm lp lq)
    rw [q1] at HG1
    have hgl := good_len (Bool.and_eq_true_iff.1 (Bool.and_eq_true_iff.1 q1).1).1
    have hpp := isProc_iff (Bool.and_eq_true_iff.1 (Bool.and_eq_true_iff.1 q1).1).2
    have hq24 : qs.length ≤ 24 := by have := stp_len (Bool.and_eq_true_iff.1 q1).2; omega
    have HM := Lib.hid (stp_node (Bool.and_eq_true_iff.1 q1).2)
    have hsb := Lib.hid (fun j => sums_bd (Bool.and_eq_true_iff.1 (Bool.and_eq_true_iff.1 q1).1).1 j)
    have hs0 := sums_bd (Bool.and_eq_true_iff.1 (Bool.and_eq_true_iff.1 q1).1).1 0
    have hs1 := sums_root (Bool.and_eq_true_iff.1 (Bool.and_eq_true_iff.1 q1).1).1
    have HSu := Lib.hid (fun W (h : IntS W A xs) (k : IntS W B ys) => l2Sums_good (Bool.and_eq_true_iff.1 (Bool.and_eq_true_iff.1 q1).1).1 A B c e W h k)
    have HSL : Hid ((sumsL xs ys).length = xs.length) := sums_len (Bool.and_eq_true_iff.1 (Bool.and_eq_true_iff.1 q1).1).1
    have hl0 : 0 < (sumsL xs ys).length := by have := HSL.out; omega
    have HPL : Hid (ps.length = xs.length) := hpp.1
    have HPB := Lib.hid hpp.2
    have HT := Lib.hid (fun j (hj : j < qs.length) => lsum_take (fun y => nth (sumsL xs ys) y.toNat * nth ps y.toNat) hj)
    have HB := Lib.hid (fun j => lsum_bd (fun y => nth (sumsL xs ys) y.toNat * nth ps y.toNat) (M := 479520) (fun y => by
      have h1 := hsb.out y.toNat
      have h2 := HPB.out y.toNat
      have := mul_bd (A := 480) (D := 999) (a := nth (sumsL xs ys) y.toNat) (d := nth ps y.toNat) (by omega) h2
      omega) (qs.take j))
    have H0 : Hid (lsum (fun y => nth (sumsL xs ys) y.toNat * nth ps y.toNat) (qs.take 0) = 0) := rfl
    have HEE : Hid (lsum (fun y => nth (sumsL xs ys) y.toNat * nth ps y.toNat) (qs.take qs.length) = smS xs ys ps qs) := by show _ = _; rw [List.take_length]; rfl
    have HFn : Hid (∀ y : Nat, (fun y => nth (sumsL xs ys) y.toNat * nth ps y.toNat) (y : Int) = nth (sumsL xs ys) y * nth ps y) := fun y => rfl
    have hNb : -1000000000 ≤ smS xs ys ps qs ∧ smS xs ys ps qs ≤ 1000000000 := by
      have h1 := HB.out qs.length
      rw [HEE.out, List.take_length] at h1
      have h2 : ((479520 : Nat) : Int) * (qs.length : Int) ≤ 479520 * 24 := Int.mul_le_mul_of_nonneg_left (by omega) (by omega)
      omega
    have HC := fun W => l2Cut_any (smS xs ys ps qs) (nth (sumsL xs ys) 0) W (by omega) (by omega) (by omega)
    replace HC := Lib.hid HC
    generalize smS xs ys ps qs = N at *
    generalize hL : lsum (fun y => nth (sumsL xs ys) y.toNat * nth ps y.toNat) = L at *
    clear hL hgl hpp hs0 hs1 hNb
    generalize sumsL xs ys = S at *
    clear q1 _hx _hy _bp _bq
    go_enter Try.func31, Try.ntmps31
    go_wp2_with fail
    refine (HG1.out _ ((h.alloc _).alloc _) ((k.alloc _).alloc _) ((zp.alloc _).alloc _) ((zq.alloc _).alloc _)).mono ?_
    rintro e1 w1 ⟨rfl, hb⟩
    have hx0 : w1.cell? ⟨w.heap.size, 0, none⟩ = some (.slice A xs.length c) := keep_cell hb (by simp)
    have hx1 : w1.cell? ⟨w.heap.size, 1, none⟩ = some (.slice B ys.length e) := keep_cell hb (by simp)
    have hr0 : w1.cell? ⟨w.heap.size + 1, 0, none⟩ = some (.int .i64 0) := keep_cell hb (by simp)
    have hr1 : w1.cell? ⟨w.heap.size + 1, 1, none⟩ = some (.int .i64 0) := keep_cell hb (by simp)
    have hf0 : w1.frozen? ⟨w.heap.size + 1, 0, none⟩ = false := keep_froz hb (by simp) (by simp)
    have hf1 : w1.frozen? ⟨w.heap.size + 1, 1, none⟩ = false := keep_froz hb (by simp) (by simp)
    have hw : Below w.heap.size w w1 := below_alloc (below_alloc (hb))
    clear hb
    clear HG1
    have hrw := World.block_lt_of_cell? _ _ hr0
    replace hrw : w.heap.size + 1 < w1.heap.size := hrw
    go_wp2_with fail
    refine (HSu.out _ (h.below hw) (k.below hw)).mono ?_
    rintro e1 w9 ⟨As, cs, rfl, hos, hb⟩
    obtain ⟨gS, rfl, hgS, hrS⟩ := hos.pos hl0
    replace hgS : w.heap.size + 1 < gS := by omega
    replace hf0 := keep_froz2 hb hr0 hf0
    replace hf1 := keep_froz2 hb hr1 hf1
    replace hr0 := keep_cell hb hr0
    replace hr1 := keep_cell hb hr1
    replace hw := keep_below hb hw
    clear hos hb hrw hx0 hx1
    go_wp2
    go_loopw [9, 10] (fun sv i wr => ∃ j : Nat, j ≤ qs.length ∧ i = .int .i64 j ∧ sv = .int .i64 (L (qs.take j)) ∧ Row wr gS S ∧ wr.cell? ⟨w.heap.size + 1, 0, none⟩ = some (.int .i64 0) ∧ wr.cell? ⟨w.heap.size + 1, 1, none⟩ = some (.int .i64 0) ∧ wr.frozen? ⟨w.heap.size + 1, 0, none⟩ = false ∧ wr.frozen? ⟨w.heap.size + 1, 1, none⟩ = false ∧ Below w.heap.size w wr) (fun _ i _ => qs.length - (intOf i).toNat)
    case atStart => exact ⟨0, by omega, rfl, by rw [H0.out], hrS, hr0, hr1, hf0, hf1, hw⟩
    case round =>
      clear hrS hr0 hr1 hf0 hf1 hw
      obtain ⟨j, hj, rfl, rfl, hrS, hr0, hr1, hf0, hf1, hw⟩ := hrel
      by_cases hlt : j < qs.length
      · have hbd := HB.out j
        have htl : ((qs.take j).length : Int) ≤ 24 := by have := List.length_take_le j qs; omega
        have hbd2 : ((479520 : Nat) : Int) * ((qs.take j).length : Int) ≤ 479520 * 24 := Int.mul_le_mul_of_nonneg_left htl (by omega)
        obtain ⟨y, hy, hyn⟩ := HM.out j hlt
        obtain ⟨b2, o2, rfl, hcK⟩ := (zq.below hw).at_ hlt
        have hcS := hrS.cell (j := y) (by rw [HSL.out]; exact hyn)
        obtain ⟨b, o, rfl, hcp⟩ := (zp.below hw).at_ (j := y) (by rw [HPL.out]; exact hyn)
        have hs := hsb.out y
        have hpy := HPB.out y
        have ht := HT.out j hlt
        rw [hy] at hcK ht
        rw [HFn.out y] at ht
        obtain ⟨a, ha⟩ : ∃ a, nth S y = a := ⟨_, rfl⟩
        obtain ⟨q, hq⟩ : ∃ q, nth ps y = q := ⟨_, rfl⟩
        rw [ha, hq] at ht
        rw [ha] at hcS hs
        rw [hq] at hcp hpy
        have hm := mul_bd (A := 480) (D := 999) (a := a) (d := q) (by omega) hpy
        obtain ⟨m, hme⟩ : ∃ m, a * q = m := ⟨_, rfl⟩
        rw [hme] at ht hm
        have HTT := Lib.hid ht
        generalize L (qs.take j) = sv at *
        have u1 : IntKind.i64.wrap (a * q) = m := by rw [hme]; exact IntWalk.i64_in _ (by omega)
        have u2 : IntKind.i64.wrap (sv + m) = sv + m := IntWalk.i64_in _ (by omega)
        have i1 : (j : Int) < qs.length := by omega
        have i2 : (y : Int) < S.length := by rw [HSL.out]; omega
        have i3 : (y : Int) < ps.length := by rw [HPL.out]; omega
        clear hy ha hq hme ht hbd hbd2 htl
        go_wp2
        go_still (by kernel_rfl)
        go_wp2
        go_roundw
        case rel => exact ⟨j + 1, by omega, by go_num, by rw [HTT.out], hrS, hr0, hr1, hf0, hf1, hw.drew⟩
        case measure => simp [intOf]; omega
      · have hje : j = qs.length := by omega
        subst hje
        have hS0 := hrS.cell (j := 0) hl0
        rw [HEE.out]
        clear HT HB H0 HFn HEE HM hsb HPB
        go_wp2_with fail
        refine (HC.out _).mono ?_
        rintro e1 wz ⟨rfl, hb⟩
        replace hf0 := keep_froz2 hb hr0 hf0
        replace hf1 := keep_froz2 hb hr1 hf1
        replace hr0 := keep_cell hb hr0
        replace hr1 := keep_cell hb hr1
        replace hw := keep_below hb hw
        go_wp2
        refine bodyPost_ret (v := .tuple #[.agg #[.int .i64 (lowX N (nth S 0)), .int .i64 (lowY N (nth S 0))], .bool true]) (by simp (maxDischargeDepth := 9) [results, Try.results31, go_sem, *]) rfl ⟨rfl, ?_⟩
        (repeat (first | with_reducible exact Below.refl _ _ | with_reducible assumption | with_reducible refine Below.alloc' ?_ ?_ _ | with_reducible refine Below.setCell' ?_ ?_ _ | with_reducible refine Below.drewN' ?_ _ | with_reducible refine Below.drew ?_ | with_reducible refine Below.transA ?_ (by assumption) ?_ | omega | (focus (simp; done)) | (focus (simp; omega))))
set_option maxHeartbeats 2000000 in
set_option maxRecDepth 100000 in
theorem implStoppedMean_any (A B : Option Addr) (c e : Nat) (xs ys : List Int) (P : Option Addr) (cp : Nat) (ps : List Int) (Q : Option Addr) (cq : Nat) (qs : List Int) (w : World) (h : IntS w A xs) (k : IntS w B ys) (zp : IntS w P ps) (zq : IntS w Q qs) (_hx : Bd xs) (_hy : Bd ys) (_bp : Bd ps) (_bq : Bd qs) (hn : xs.length ≤ 1048576) (hm : ys.length ≤ 1048576) (lp : ps.length ≤ 1048576) (lq : qs.length ≤ 1048576) :
    Calls Try.prog 32 #[.agg #[.slice A xs.length c, .slice B ys.length e], .slice P ps.length cp, .slice Q qs.length cq] w (RetAB w (smN xs ys ps qs) (smM xs ys ps qs) (smOk xs ys ps qs)) := by
  obtain ⟨r1, q1⟩ : ∃ r, (good xs ys) = r := ⟨_, rfl⟩
  cases r1
  case false =>
    have hO : smOk xs ys ps qs = false := by unfold smOk ; simp [q1]
    have hV_smN := smN_no hO
    have hV_smM := smM_no hO
    rw [hV_smN]
    rw [hV_smM]
    (try rw [hO])
    clear hO hV_smN hV_smM
    have HG1 := Lib.hid (fun W (h : IntS W A xs) (k : IntS W B ys) => isTree_any A B c e xs ys W h k _hx _hy hn hm)
    rw [q1] at HG1
    clear q1 _hx _hy _bp _bq
    go_enter Try.func32, Try.ntmps32
    go_wp2_with fail
    refine (HG1.out _ ((h.alloc _).alloc _) ((k.alloc _).alloc _)).mono ?_
    rintro e1 w1 ⟨rfl, hb⟩
    have hx0 : w1.cell? ⟨w.heap.size, 0, none⟩ = some (.slice A xs.length c) := keep_cell hb (by simp)
    have hx1 : w1.cell? ⟨w.heap.size, 1, none⟩ = some (.slice B ys.length e) := keep_cell hb (by simp)
    have hr0 : w1.cell? ⟨w.heap.size + 1, 0, none⟩ = some (.int .i64 0) := keep_cell hb (by simp)
    have hr1 : w1.cell? ⟨w.heap.size + 1, 1, none⟩ = some (.int .i64 0) := keep_cell hb (by simp)
    have hf0 : w1.frozen? ⟨w.heap.size + 1, 0, none⟩ = false := keep_froz hb (by simp) (by simp)
    have hf1 : w1.frozen? ⟨w.heap.size + 1, 1, none⟩ = false := keep_froz hb (by simp) (by simp)
    have hw : Below w.heap.size w w1 := below_alloc (below_alloc (hb))
    clear hb
    go_wp2
    refine bodyPost_ret (v := .tuple #[.agg #[.int .i64 0, .int .i64 0], .bool false]) (by simp (maxDischargeDepth := 9) [results, Try.results32, go_sem, *]) rfl ⟨rfl, ?_⟩
    (repeat (first | with_reducible exact Below.refl _ _ | with_reducible assumption | with_reducible refine Below.alloc' ?_ ?_ _ | with_reducible refine Below.setCell' ?_ ?_ _ | with_reducible refine Below.drewN' ?_ _ | with_reducible refine Below.drew ?_ | with_reducible refine Below.transA ?_ (by assumption) ?_ | omega | (focus (simp; done)) | (focus (simp; omega))))
  case true =>
    obtain ⟨r2, q2⟩ : ∃ r, (isProc xs.length ps) = r := ⟨_, rfl⟩
    cases r2
    case false =>
      have hO : smOk xs ys ps qs = false := by unfold smOk ; simp [q1, q2]
      have hV_smN := smN_no hO
      have hV_smM := smM_no hO
      rw [hV_smN]
      rw [hV_smM]
      (try rw [hO])
      clear hO hV_smN hV_smM
      have HG1 := Lib.hid (fun W (h : IntS W A xs) (k : IntS W B ys) => isTree_any A B c e xs ys W h k _hx _hy hn hm)
      rw [q1] at HG1
      have HG2 := Lib.hid (fun W (zp : IntS W P ps) => isProcess_any A B P c ys.length e cp xs.length ps W zp lp hn)
      rw [q2] at HG2
      clear q1 q2 _hx _hy _bp _bq
      go_enter Try.func32, Try.ntmps32
      go_wp2_with fail
      refine (HG1.out _ ((h.alloc _).alloc _) ((k.alloc _).alloc _)).mono ?_
      rintro e1 w1 ⟨rfl, hb⟩
      have hx0 : w1.cell? ⟨w.heap.size, 0, none⟩ = some (.slice A xs.length c) := keep_cell hb (by simp)
      have hx1 : w1.cell? ⟨w.heap.size, 1, none⟩ = some (.slice B ys.length e) := keep_cell hb (by simp)
      have hr0 : w1.cell? ⟨w.heap.size + 1, 0, none⟩ = some (.int .i64 0) := keep_cell hb (by simp)
      have hr1 : w1.cell? ⟨w.heap.size + 1, 1, none⟩ = some (.int .i64 0) := keep_cell hb (by simp)
      have hf0 : w1.frozen? ⟨w.heap.size + 1, 0, none⟩ = false := keep_froz hb (by simp) (by simp)
      have hf1 : w1.frozen? ⟨w.heap.size + 1, 1, none⟩ = false := keep_froz hb (by simp) (by simp)
      have hw : Below w.heap.size w w1 := below_alloc (below_alloc (hb))
      clear hb
      go_wp2_with fail
      refine (HG2.out _ (zp.below hw)).mono ?_
      rintro e1 w2 ⟨rfl, hb⟩
      replace hx0 := keep_cell hb hx0
      replace hx1 := keep_cell hb hx1
      replace hf0 := keep_froz hb (by rw [hr0]; rfl) hf0
      replace hf1 := keep_froz hb (by rw [hr1]; rfl) hf1
      replace hr0 := keep_cell hb hr0
      replace hr1 := keep_cell hb hr1
      replace hw := keep_below hb hw
      clear hb
      go_wp2
      refine bodyPost_ret (v := .tuple #[.agg #[.int .i64 0, .int .i64 0], .bool false]) (by simp (maxDischargeDepth := 9) [results, Try.results32, go_sem, *]) rfl ⟨rfl, ?_⟩
      (repeat (first | with_reducible exact Below.refl _ _ | with_reducible assumption | with_reducible refine Below.alloc' ?_ ?_ _ | with_reducible refine Below.setCell' ?_ ?_ _ | with_reducible refine Below.drewN' ?_ _ | with_reducible refine Below.drew ?_ | with_reducible refine Below.transA ?_ (by assumption) ?_ | omega | (focus (simp; done)) | (focus (simp; omega))))
    case true =>
      obtain ⟨r3, q3⟩ : ∃ r, (isStp xs qs) = r := ⟨_, rfl⟩
      cases r3
      case false =>
        have hO : smOk xs ys ps qs = false := by unfold smOk ; simp [q1, q2, q3]
        have hV_smN := smN_no hO
        have hV_smM := smM_no hO
        rw [hV_smN]
        rw [hV_smM]
        (try rw [hO])
        clear hO hV_smN hV_smM
        have HG1 := Lib.hid (fun W (h : IntS W A xs) (k : IntS W B ys) => isTree_any A B c e xs ys W h k _hx _hy hn hm)
        rw [q1] at HG1
        have HG2 := Lib.hid (fun W (zp : IntS W P ps) => isProcess_any A B P c ys.length e cp xs.length ps W zp lp hn)
        rw [q2] at HG2
        have HG3 := Lib.hid (fun W (h : IntS W A xs) (zq : IntS W Q qs) => isStopping_good q1 A B Q c ys.length e cq qs W h zq lq)
        rw [q3] at HG3
        clear q1 q2 q3 _hx _hy _bp _bq
        go_enter Try.func32, Try.ntmps32
        go_wp2_with fail
        refine (HG1.out _ ((h.alloc _).alloc _) ((k.alloc _).alloc _)).mono ?_
        rintro e1 w1 ⟨rfl, hb⟩
        have hx0 : w1.cell? ⟨w.heap.size, 0, none⟩ = some (.slice A xs.length c) := keep_cell hb (by simp)
        have hx1 : w1.cell? ⟨w.heap.size, 1, none⟩ = some (.slice B ys.length e) := keep_cell hb (by simp)
        have hr0 : w1.cell? ⟨w.heap.size + 1, 0, none⟩ = some (.int .i64 0) := keep_cell hb (by simp)
        have hr1 : w1.cell? ⟨w.heap.size + 1, 1, none⟩ = some (.int .i64 0) := keep_cell hb (by simp)
        have hf0 : w1.frozen? ⟨w.heap.size + 1, 0, none⟩ = false := keep_froz hb (by simp) (by simp)
        have hf1 : w1.frozen? ⟨w.heap.size + 1, 1, none⟩ = false := keep_froz hb (by simp) (by simp)
        have hw : Below w.heap.size w w1 := below_alloc (below_alloc (hb))
        clear hb
        go_wp2_with fail
        refine (HG2.out _ (zp.below hw)).mono ?_
        rintro e1 w2 ⟨rfl, hb⟩
        replace hx0 := keep_cell hb hx0
        replace hx1 := keep_cell hb hx1
        replace hf0 := keep_froz hb (by rw [hr0]; rfl) hf0
        replace hf1 := keep_froz hb (by rw [hr1]; rfl) hf1
        replace hr0 := keep_cell hb hr0
        replace hr1 := keep_cell hb hr1
        replace hw := keep_below hb hw
        clear hb
        go_wp2_with fail
        refine (HG3.out _ (h.below hw) (zq.below hw)).mono ?_
        rintro e1 w3 ⟨rfl, hb⟩
        replace hx0 := keep_cell hb hx0
        replace hx1 := keep_cell hb hx1
        replace hf0 := keep_froz hb (by rw [hr0]; rfl) hf0
        replace hf1 := keep_froz hb (by rw [hr1]; rfl) hf1
        replace hr0 := keep_cell hb hr0
        replace hr1 := keep_cell hb hr1
        replace hw := keep_below hb hw
        clear hb
        go_wp2
        refine bodyPost_ret (v := .tuple #[.agg #[.int .i64 0, .int .i64 0], .bool false]) (by simp (maxDischargeDepth := 9) [results, Try.results32, go_sem, *]) rfl ⟨rfl, ?_⟩
        (repeat (first | with_reducible exact Below.refl _ _ | with_reducible assumption | with_reducible refine Below.alloc' ?_ ?_ _ | with_reducible refine Below.setCell' ?_ ?_ _ | with_reducible refine Below.drewN' ?_ _ | with_reducible refine Below.drew ?_ | with_reducible refine Below.transA ?_ (by assumption) ?_ | omega | (focus (simp; done)) | (focus (simp; omega))))
      case true =>
        have hO : smOk xs ys ps qs = true := by unfold smOk ; simp [q1, q2, q3]
        have hV_smN := smN_yes hO
        have hV_smM := smM_yes hO
        rw [hV_smN]
        rw [hV_smM]
        (try rw [hO])
        clear hO hV_smN hV_smM
        have HG1 := Lib.hid (fun W (h : IntS W A xs) (k : IntS W B ys) => isTree_any A B c e xs ys W h k _hx _hy hn hm)
        rw [q1] at HG1
        have HG2 := Lib.hid (fun W (zp : IntS W P ps) => isProcess_any A B P c ys.length e cp xs.length ps W zp lp hn)
        rw [q2] at HG2
        have HG3 := Lib.hid (fun W (h : IntS W A xs) (zq : IntS W Q qs) => isStopping_good q1 A B Q c ys.length e cq qs W h zq lq)
        rw [q3] at HG3
        have hgl := good_len q1
        have hpp := isProc_iff q2
        have hq24 : qs.length ≤ 24 := by have := stp_len q3; omega
        have HM := Lib.hid (stp_node q3)
        have hsb := Lib.hid (fun j => sums_bd q1 j)
        have hs0 := sums_bd q1 0
        have hs1 := sums_root q1
        have HSu := Lib.hid (fun W (h : IntS W A xs) (k : IntS W B ys) => sums_good q1 A B c e W h k)
        have HSL : Hid ((sumsL xs ys).length = xs.length) := sums_len q1
        have hl0 : 0 < (sumsL xs ys).length := by have := HSL.out; omega
        have HPL : Hid (ps.length = xs.length) := hpp.1
        have HPB := Lib.hid hpp.2
        have HT := Lib.hid (fun j (hj : j < qs.length) => lsum_take (fun y => nth (sumsL xs ys) y.toNat * nth ps y.toNat) hj)
        have HB := Lib.hid (fun j => lsum_bd (fun y => nth (sumsL xs ys) y.toNat * nth ps y.toNat) (M := 479520) (fun y => by
          have h1 := hsb.out y.toNat
          have h2 := HPB.out y.toNat
          have := mul_bd (A := 480) (D := 999) (a := nth (sumsL xs ys) y.toNat) (d := nth ps y.toNat) (by omega) h2
          omega) (qs.take j))
        have H0 : Hid (lsum (fun y => nth (sumsL xs ys) y.toNat * nth ps y.toNat) (qs.take 0) = 0) := rfl
        have HEE : Hid (lsum (fun y => nth (sumsL xs ys) y.toNat * nth ps y.toNat) (qs.take qs.length) = smS xs ys ps qs) := by show _ = _; rw [List.take_length]; rfl
        have HFn : Hid (∀ y : Nat, (fun y => nth (sumsL xs ys) y.toNat * nth ps y.toNat) (y : Int) = nth (sumsL xs ys) y * nth ps y) := fun y => rfl
        have hNb : -1000000000 ≤ smS xs ys ps qs ∧ smS xs ys ps qs ≤ 1000000000 := by
          have h1 := HB.out qs.length
          rw [HEE.out, List.take_length] at h1
          have h2 : ((479520 : Nat) : Int) * (qs.length : Int) ≤ 479520 * 24 := Int.mul_le_mul_of_nonneg_left (by omega) (by omega)
          omega
        have HC := fun W => lowest_any (smS xs ys ps qs) (nth (sumsL xs ys) 0) W (by omega) (by omega) (by omega)
        have hlo := low_small (a := smS xs ys ps qs) (b := nth (sumsL xs ys) 0) (by omega) (by omega)
        rw [hlo.1, hlo.2.1, hlo.2.2] at HC
        clear hlo
        replace HC := Lib.hid HC
        generalize smS xs ys ps qs = N at *
        generalize hL : lsum (fun y => nth (sumsL xs ys) y.toNat * nth ps y.toNat) = L at *
        clear hL hgl hpp hs0 hs1 hNb
        generalize sumsL xs ys = S at *
        clear q1 q2 q3 _hx _hy _bp _bq
        go_enter Try.func32, Try.ntmps32
        go_wp2_with fail
        refine (HG1.out _ ((h.alloc _).alloc _) ((k.alloc _).alloc _)).mono ?_
        rintro e1 w1 ⟨rfl, hb⟩
        have hx0 : w1.cell? ⟨w.heap.size, 0, none⟩ = some (.slice A xs.length c) := keep_cell hb (by simp)
        have hx1 : w1.cell? ⟨w.heap.size, 1, none⟩ = some (.slice B ys.length e) := keep_cell hb (by simp)
        have hr0 : w1.cell? ⟨w.heap.size + 1, 0, none⟩ = some (.int .i64 0) := keep_cell hb (by simp)
        have hr1 : w1.cell? ⟨w.heap.size + 1, 1, none⟩ = some (.int .i64 0) := keep_cell hb (by simp)
        have hf0 : w1.frozen? ⟨w.heap.size + 1, 0, none⟩ = false := keep_froz hb (by simp) (by simp)
        have hf1 : w1.frozen? ⟨w.heap.size + 1, 1, none⟩ = false := keep_froz hb (by simp) (by simp)
        have hw : Below w.heap.size w w1 := below_alloc (below_alloc (hb))
        clear hb
        go_wp2_with fail
        refine (HG2.out _ (zp.below hw)).mono ?_
        rintro e1 w2 ⟨rfl, hb⟩
        replace hx0 := keep_cell hb hx0
        replace hx1 := keep_cell hb hx1
        replace hf0 := keep_froz hb (by rw [hr0]; rfl) hf0
        replace hf1 := keep_froz hb (by rw [hr1]; rfl) hf1
        replace hr0 := keep_cell hb hr0
        replace hr1 := keep_cell hb hr1
        replace hw := keep_below hb hw
        clear hb
        go_wp2_with fail
        refine (HG3.out _ (h.below hw) (zq.below hw)).mono ?_
        rintro e1 w3 ⟨rfl, hb⟩
        replace hx0 := keep_cell hb hx0
        replace hx1 := keep_cell hb hx1
        replace hf0 := keep_froz hb (by rw [hr0]; rfl) hf0
        replace hf1 := keep_froz hb (by rw [hr1]; rfl) hf1
        replace hr0 := keep_cell hb hr0
        replace hr1 := keep_cell hb hr1
        replace hw := keep_below hb hw
        clear hb
        clear HG1 HG2 HG3
        have hrw := World.block_lt_of_cell? _ _ hr0
        replace hrw : w.heap.size + 1 < w3.heap.size := hrw
        go_wp2_with fail
        refine (HSu.out _ (h.below hw) (k.below hw)).mono ?_
        rintro e1 w9 ⟨As, cs, rfl, hos, hb⟩
        obtain ⟨gS, rfl, hgS, hrS⟩ := hos.pos hl0
        replace hgS : w.heap.size + 1 < gS := by omega
        replace hf0 := keep_froz2 hb hr0 hf0
        replace hf1 := keep_froz2 hb hr1 hf1
        replace hr0 := keep_cell hb hr0
        replace hr1 := keep_cell hb hr1
        replace hw := keep_below hb hw
        clear hos hb hrw hx0 hx1
        go_wp2
        go_loopw [8, 32] (fun sv i wr => ∃ j : Nat, j ≤ qs.length ∧ i = .int .i64 j ∧ sv = .int .i64 (L (qs.take j)) ∧ Row wr gS S ∧ wr.cell? ⟨w.heap.size + 1, 0, none⟩ = some (.int .i64 0) ∧ wr.cell? ⟨w.heap.size + 1, 1, none⟩ = some (.int .i64 0) ∧ wr.frozen? ⟨w.heap.size + 1, 0, none⟩ = false ∧ wr.frozen? ⟨w.heap.size + 1, 1, none⟩ = false ∧ Below w.heap.size w wr) (fun _ i _ => qs.length - (intOf i).toNat)
        case atStart => exact ⟨0, by omega, rfl, by rw [H0.out], hrS, hr0, hr1, hf0, hf1, hw⟩
        case round =>
          clear hrS hr0 hr1 hf0 hf1 hw
          obtain ⟨j, hj, rfl, rfl, hrS, hr0, hr1, hf0, hf1, hw⟩ := hrel
          by_cases hlt : j < qs.length
          · have hbd := HB.out j
            have htl : ((qs.take j).length : Int) ≤ 24 := by have := List.length_take_le j qs; omega
            have hbd2 : ((479520 : Nat) : Int) * ((qs.take j).length : Int) ≤ 479520 * 24 := Int.mul_le_mul_of_nonneg_left htl (by omega)
            obtain ⟨y, hy, hyn⟩ := HM.out j hlt
            obtain ⟨b2, o2, rfl, hcK⟩ := (zq.below hw).at_ hlt
            have hcS := hrS.cell (j := y) (by rw [HSL.out]; exact hyn)
            obtain ⟨b, o, rfl, hcp⟩ := (zp.below hw).at_ (j := y) (by rw [HPL.out]; exact hyn)
            have hs := hsb.out y
            have hpy := HPB.out y
            have ht := HT.out j hlt
            rw [hy] at hcK ht
            rw [HFn.out y] at ht
            obtain ⟨a, ha⟩ : ∃ a, nth S y = a := ⟨_, rfl⟩
            obtain ⟨q, hq⟩ : ∃ q, nth ps y = q := ⟨_, rfl⟩
            rw [ha, hq] at ht
            rw [ha] at hcS hs
            rw [hq] at hcp hpy
            have hm := mul_bd (A := 480) (D := 999) (a := a) (d := q) (by omega) hpy
            obtain ⟨m, hme⟩ : ∃ m, a * q = m := ⟨_, rfl⟩
            rw [hme] at ht hm
            have HTT := Lib.hid ht
            generalize L (qs.take j) = sv at *
            have u1 : IntKind.i64.wrap (q * a) = m := by rw [Int.mul_comm, hme]; exact IntWalk.i64_in _ (by omega)
            have u2 : IntKind.i64.wrap (sv + m) = sv + m := IntWalk.i64_in _ (by omega)
            have i1 : (j : Int) < qs.length := by omega
            have i2 : (y : Int) < S.length := by rw [HSL.out]; omega
            have i3 : (y : Int) < ps.length := by rw [HPL.out]; omega
            clear hy ha hq hme ht hbd hbd2 htl
            go_wp2
            go_still (by kernel_rfl)
            go_wp2
            go_roundw
            case rel => exact ⟨j + 1, by omega, by go_num, by rw [HTT.out], hrS, hr0, hr1, hf0, hf1, hw.drew⟩
            case measure => simp [intOf]; omega
          · have hje : j = qs.length := by omega
            subst hje
            have hS0 := hrS.cell (j := 0) hl0
            rw [HEE.out]
            clear HT HB H0 HFn HEE HM hsb HPB
            go_wp2_with fail
            refine (HC.out _).mono ?_
            rintro e1 wz ⟨rfl, hb⟩
            replace hf0 := keep_froz2 hb hr0 hf0
            replace hf1 := keep_froz2 hb hr1 hf1
            replace hr0 := keep_cell hb hr0
            replace hr1 := keep_cell hb hr1
            replace hw := keep_below hb hw
            go_wp2
            refine bodyPost_ret (v := .tuple #[.agg #[.int .i64 (lowX N (nth S 0)), .int .i64 (lowY N (nth S 0))], .bool true]) (by simp (maxDischargeDepth := 9) [results, Try.results32, go_sem, *]) rfl ⟨rfl, ?_⟩
            (repeat (first | with_reducible exact Below.refl _ _ | with_reducible assumption | with_reducible refine Below.alloc' ?_ ?_ _ | with_reducible refine Below.setCell' ?_ ?_ _ | with_reducible refine Below.drewN' ?_ _ | with_reducible refine Below.drew ?_ | with_reducible refine Below.transA ?_ (by assumption) ?_ | omega | (focus (simp; done)) | (focus (simp; omega))))
end Go.Proofs.Ytkbjocndkopjiaa
