/- Contracts: covariances. -/
import Derived.Test.YtkbjocndkopjiaaPays
import Derived.Test.YtkbjocndkopjiaaChance
namespace Go.Proofs.Ytkbjocndkopjiaa
open Go.ChangeShapes Go.WideShapes Go.ChangeAt Go.RowKit

/-- The products of the first k numbers of two lists. -/
def prdL (ps qs : List Int) (k : Nat) : List Int := (List.range k).map fun j => nth ps j * nth qs j
theorem prdL_succ (ps qs : List Int) (k : Nat) : prdL ps qs (k + 1) = prdL ps qs k ++ [nth ps k * nth qs k] := by
  unfold prdL; rw [List.range_succ, List.map_append]; rfl
theorem prdL_len (ps qs : List Int) (k : Nat) : (prdL ps qs k).length = k := by simp [prdL]
theorem prdL_bd {ps qs : List Int} (hp : ∀ j, -999 ≤ nth ps j ∧ nth ps j ≤ 999) (hq : ∀ j, -999 ≤ nth qs j ∧ nth qs j ≤ 999) (k j : Nat) : -((998001 : Nat) : Int) ≤ nth (prdL ps qs k) j ∧ nth (prdL ps qs k) j ≤ ((998001 : Nat) : Int) := by
  by_cases h : j < k
  · have e : nth (prdL ps qs k) j = nth ps j * nth qs j := by simp [prdL, nth, List.getD, h]
    rw [e]
    have := mul_bd (A := 999) (D := 999) (hp j) (hq j)
    omega
  · rw [nth_out (by rw [prdL_len]; omega)]; omega
def covA (xs ys ps qs : List Int) : Int := nth (totL xs ys (prdL ps qs ps.length)) 0 * nth (sumsL xs ys) 0 - nth (totL xs ys ps) 0 * nth (totL xs ys qs) 0
def covB (xs ys : List Int) : Int := nth (sumsL xs ys) 0 * nth (sumsL xs ys) 0
noncomputable def covOk (xs ys ps qs : List Int) : Bool := good xs ys && payB xs ps && payB xs qs
noncomputable def covN (xs ys ps qs : List Int) : Int := if covOk xs ys ps qs then lowN (covA xs ys ps qs) (covB xs ys) else 0
noncomputable def covM (xs ys ps qs : List Int) : Int := if covOk xs ys ps qs then lowM (covA xs ys ps qs) (covB xs ys) else 0
noncomputable def covR (xs ys ps qs : List Int) : Bool := covOk xs ys ps qs && lowOk (covA xs ys ps qs) (covB xs ys)
theorem covN_no {xs ys ps qs : List Int} (h : covOk xs ys ps qs = false) : covN xs ys ps qs = 0 := by unfold covN; rw [h]; rfl
theorem covM_no {xs ys ps qs : List Int} (h : covOk xs ys ps qs = false) : covM xs ys ps qs = 0 := by unfold covM; rw [h]; rfl
theorem covR_no {xs ys ps qs : List Int} (h : covOk xs ys ps qs = false) : covR xs ys ps qs = false := by unfold covR; rw [h]; rfl
theorem covN_yes {xs ys ps qs : List Int} (h : covOk xs ys ps qs = true) : covN xs ys ps qs = lowN (covA xs ys ps qs) (covB xs ys) := by unfold covN; rw [h]; rfl
theorem covM_yes {xs ys ps qs : List Int} (h : covOk xs ys ps qs = true) : covM xs ys ps qs = lowM (covA xs ys ps qs) (covB xs ys) := by unfold covM; rw [h]; rfl
theorem covR_yes {xs ys ps qs : List Int} (h : covOk xs ys ps qs = true) : covR xs ys ps qs = lowOk (covA xs ys ps qs) (covB xs ys) := by unfold covR; rw [h]; rfl
/-- Bounds of what a covariance is made of. -/
theorem cov_bd {xs ys ps qs : List Int} (hg : good xs ys = true) (hp : payB xs ps = true) (hq : payB xs qs = true) :
    (-479040480 ≤ nth (totL xs ys (prdL ps qs ps.length)) 0 ∧ nth (totL xs ys (prdL ps qs ps.length)) 0 ≤ 479040480) ∧ (-479520 ≤ nth (totL xs ys ps) 0 ∧ nth (totL xs ys ps) 0 ≤ 479520) ∧ (-479520 ≤ nth (totL xs ys qs) 0 ∧ nth (totL xs ys qs) 0 ≤ 479520) ∧ 1 ≤ nth (sumsL xs ys) 0 ∧ nth (sumsL xs ys) 0 ≤ 480 := by
  have h1 := tot_bd hg (vs := prdL ps qs ps.length) (V := 998001) (prdL_bd (pay_iff hp).2 (pay_iff hq).2 _) 0
  have h2 := tot_bd hg (vs := ps) (V := 999) (fun j => by have := (pay_iff hp).2 j; omega) 0
  have h3 := tot_bd hg (vs := qs) (V := 999) (fun j => by have := (pay_iff hq).2 j; omega) 0
  have h4 := sums_bd hg 0
  have h5 := sums_root hg
  omega
theorem l2Pays_good {xs ys : List Int} (hg : good xs ys = true) (A B P : Option Addr) (c e cz : Nat) (zs : List Int) (w : World) (h : IntS w A xs) (k : IntS w B ys) (z : IntS w P zs) (hx : Bd xs) (hy : Bd ys) (hn : xs.length ≤ 1048576) (hm : ys.length ≤ 1048576) (hz : zs.length ≤ 1048576) :
    Calls Try.prog 80 #[.agg #[.slice A xs.length c, .slice B ys.length e], .slice P zs.length cz] w fun e1 w' => e1 = .returned (.bool (payB xs zs)) ∧ Below w.heap.size w w' := by
  have := l2Pays_any A B P c e cz xs ys zs w h k z hx hy hn hm hz
  rw [hg, Bool.true_and] at this
  exact this
set_option maxHeartbeats 1000000 in
set_option maxRecDepth 100000 in
theorem specCovarianceOf_any (A B : Option Addr) (c e : Nat) (xs ys : List Int) (P : Option Addr) (cp : Nat) (ps : List Int) (Q : Option Addr) (cq : Nat) (qs : List Int) (w : World) (h : IntS w A xs) (k : IntS w B ys) (zp : IntS w P ps) (zq : IntS w Q qs) (_hx : Bd xs) (_hy : Bd ys) (_bp : Bd ps) (_bq : Bd qs) (hn : xs.length ≤ 1048576) (hm : ys.length ≤ 1048576) (lp : ps.length ≤ 1048576) (lq : qs.length ≤ 1048576) :
    Calls Try.prog 68 #[.agg #[.slice A xs.length c, .slice B ys.length e], .slice P ps.length cp, .slice Q qs.length cq] w (RetAB w (covN xs ys ps qs) (covM xs ys ps qs) (covR xs ys ps qs)) := by
  obtain ⟨r1, q1⟩ : ∃ r, (good xs ys && payB xs ps) = r := ⟨_, rfl⟩
  cases r1
  case false =>
    have hO : covOk xs ys ps qs = false := by unfold covOk ; simp [q1]
    have hV_covN := covN_no hO
    have hV_covM := covM_no hO
    have hV_covR := covR_no hO
    rw [hV_covN]
    rw [hV_covM]
    rw [hV_covR]
    (try rw [hO])
    clear hO hV_covN hV_covM hV_covR
    have HG1 := Lib.hid (fun W (h : IntS W A xs) (k : IntS W B ys) (zp : IntS W P ps) => l2Pays_any A B P c e cp xs ys ps W h k zp _hx _hy hn hm lp)
    rw [q1] at HG1
    clear q1 _hx _hy _bp _bq
    go_enter Try.func68, Try.ntmps68
    go_wp2_with fail
    refine (HG1.out _ ((h.alloc _).alloc _) ((k.alloc _).alloc _) ((zp.alloc _).alloc _)).mono ?_
    rintro e1 w1 ⟨rfl, hb⟩
    have hx0 : w1.cell? ⟨w.heap.size, 0, none⟩ = some (.slice A xs.length c) := keep_cell hb (by simp)
    have hx1 : w1.cell? ⟨w.heap.size, 1, none⟩ = some (.slice B ys.length e) := keep_cell hb (by simp)
    have hr0 : w1.cell? ⟨w.heap.size + 1, 0, none⟩ = some (.int .i64 0) := keep_cell hb (by simp)
    have hr1 : w1.cell? ⟨w.heap.size + 1, 1, none⟩ = some (.int .i64 0) := keep_cell hb (by simp)
    have hf0 : w1.frozen? ⟨w.heap.size + 1, 0, none⟩ = false := keep_froz hb (by simp) (by simp)
    have hf1 : w1.frozen? ⟨w.heap.size + 1, 1, none⟩ = false := keep_froz hb (by simp) (by simp)
    have hw : Below w.heap.size w w1 := below_alloc (below_alloc (hb))
    clear hb
    go_wp2
    refine bodyPost_ret (v := .tuple #[.agg #[.int .i64 0, .int .i64 0], .bool false]) (by simp (maxDischargeDepth := 9) [results, Try.results68, go_sem, *]) rfl ⟨rfl, ?_⟩
    (repeat (first | with_reducible exact Below.refl _ _ | with_reducible assumption | with_reducible refine Below.alloc' ?_ ?_ _ | with_reducible refine Below.setCell' ?_ ?_ _ | with_reducible refine Below.drewN' ?_ _ | with_reducible refine Below.drew ?_ | with_reducible refine Below.transA ?_ (by assumption) ?_ | omega | (focus (simp; done)) | (focus (simp; omega))))
  case true =>
    obtain ⟨r2, q2⟩ : ∃ r, (payB xs qs) = r := ⟨_, rfl⟩
    cases r2
    case false =>
      have hO : covOk xs ys ps qs = false := by unfold covOk ; simp [q1, q2]
      have hV_covN := covN_no hO
      have hV_covM := covM_no hO
      have hV_covR := covR_no hO
      rw [hV_covN]
      rw [hV_covM]
      rw [hV_covR]
      (try rw [hO])
      clear hO hV_covN hV_covM hV_covR
      have HG1 := Lib.hid (fun W (h : IntS W A xs) (k : IntS W B ys) (zp : IntS W P ps) => l2Pays_any A B P c e cp xs ys ps W h k zp _hx _hy hn hm lp)
      rw [q1] at HG1
      have HG2 := Lib.hid (fun W (h : IntS W A xs) (k : IntS W B ys) (zq : IntS W Q qs) => l2Pays_good (Bool.and_eq_true_iff.1 q1).1 A B Q c e cq qs W h k zq _hx _hy hn hm lq)
      rw [q2] at HG2
      clear q1 q2 _hx _hy _bp _bq
      go_enter Try.func68, Try.ntmps68
      go_wp2_with fail
      refine (HG1.out _ ((h.alloc _).alloc _) ((k.alloc _).alloc _) ((zp.alloc _).alloc _)).mono ?_
      rintro e1 w1 ⟨rfl, hb⟩
      have hx0 : w1.cell? ⟨w.heap.size, 0, none⟩ = some (.slice A xs.length c) := keep_cell hb (by simp)
      have hx1 : w1.cell? ⟨w.heap.size, 1, none⟩ = some (.slice B ys.length e) := keep_cell hb (by simp)
      have hr0 : w1.cell? ⟨w.heap.size + 1, 0, none⟩ = some (.int .i64 0) := keep_cell hb (by simp)
      have hr1 : w1.cell? ⟨w.heap.size + 1, 1, none⟩ = some (.int .i64 0) := keep_cell hb (by simp)
      have hf0 : w1.frozen? ⟨w.heap.size + 1, 0, none⟩ = false := keep_froz hb (by simp) (by simp)
      have hf1 : w1.frozen? ⟨w.heap.size + 1, 1, none⟩ = false := keep_froz hb (by simp) (by simp)
      have hw : Below w.heap.size w w1 := below_alloc (below_alloc (hb))
      clear hb
      go_wp2_with fail
      refine (HG2.out _ (h.below hw) (k.below hw) (zq.below hw)).mono ?_
      rintro e1 w2 ⟨rfl, hb⟩
      replace hx0 := keep_cell hb hx0
      replace hx1 := keep_cell hb hx1
      replace hf0 := keep_froz hb (by rw [hr0]; rfl) hf0
      replace hf1 := keep_froz hb (by rw [hr1]; rfl) hf1
      replace hr0 := keep_cell hb hr0
      replace hr1 := keep_cell hb hr1
      replace hw := keep_below hb hw
      clear hb
      go_wp2
      refine bodyPost_ret (v := .tuple #[.agg #[.int .i64 0, .int .i64 0], .bool false]) (by simp (maxDischargeDepth := 9) [results, Try.results68, go_sem, *]) rfl ⟨rfl, ?_⟩
      (repeat (first | with_reducible exact Below.refl _ _ | with_reducible assumption | with_reducible refine Below.alloc' ?_ ?_ _ | with_reducible refine Below.setCell' ?_ ?_ _ | with_reducible refine Below.drewN' ?_ _ | with_reducible refine Below.drew ?_ | with_reducible refine Below.transA ?_ (by assumption) ?_ | omega | (focus (simp; done)) | (focus (simp; omega))))
    case true =>
      have hO : covOk xs ys ps qs = true := by unfold covOk ; simp [q1, q2]
      have hV_covN := covN_yes hO
      have hV_covM := covM_yes hO
      have hV_covR := covR_yes hO
      rw [hV_covN]
      rw [hV_covM]
      rw [hV_covR]
      (try rw [hO])
      clear hO hV_covN hV_covM hV_covR
      have HG1 := Lib.hid (fun W (h : IntS W A xs) (k : IntS W B ys) (zp : IntS W P ps) => l2Pays_any A B P c e cp xs ys ps W h k zp _hx _hy hn hm lp)
      rw [q1] at HG1
      have HG2 := Lib.hid (fun W (h : IntS W A xs) (k : IntS W B ys) (zq : IntS W Q qs) => l2Pays_good (Bool.and_eq_true_iff.1 q1).1 A B Q c e cq qs W h k zq _hx _hy hn hm lq)
      rw [q2] at HG2
      have hpp := (pay_iff (Bool.and_eq_true_iff.1 q1).2).2
      have hqq := (pay_iff q2).2
      have lp1 := (pay_iff (Bool.and_eq_true_iff.1 q1).2).1
      have lq1 := (pay_iff q2).1
      have hel := ends_len xs
      have hgl := good_len (Bool.and_eq_true_iff.1 q1).1
      have hcb := cov_bd (Bool.and_eq_true_iff.1 q1).1 (Bool.and_eq_true_iff.1 q1).2 q2
      have HL : Hid (1 ≤ (sumsL xs ys).length) := by have := sums_len (Bool.and_eq_true_iff.1 q1).1; show 1 ≤ _; omega
      have HTL : Hid (∀ vs, (totL xs ys vs).length = xs.length) := fun vs => tot_len
      have HSu := Lib.hid (fun W (h : IntS W A xs) (k : IntS W B ys) => l2Sums_good (Bool.and_eq_true_iff.1 q1).1 A B c e W h k)
      have HTP := Lib.hid (fun W (h : IntS W A xs) (k : IntS W B ys) (z : IntS W P ps) => l2Totals_any (Bool.and_eq_true_iff.1 q1).1 A B P c e cp ps W h k z lp1 999 (by omega) (fun j => by have := hpp j; omega))
      have HTQ := Lib.hid (fun W (h : IntS W A xs) (k : IntS W B ys) (z : IntS W Q qs) => l2Totals_any (Bool.and_eq_true_iff.1 q1).1 A B Q c e cq qs W h k z lq1 999 (by omega) (fun j => by have := hqq j; omega))
      have HTO := Lib.hid (fun W (R : Option Addr) (cr : Nat) (h : IntS W A xs) (k : IntS W B ys) (z : IntS W R (prdL ps qs ps.length)) => l2Totals_any (Bool.and_eq_true_iff.1 q1).1 A B R c e cr (prdL ps qs ps.length) W h k z (by rw [prdL_len]; exact lp1) 998001 (by omega) (prdL_bd hpp hqq _))
      have HPL := Lib.hid (fun k => prdL_len ps qs k)
      have HPS := Lib.hid (fun k => prdL_succ ps qs k)
      have HP0 : Hid (prdL ps qs 0 = []) := rfl
      have HPB := Lib.hid (fun j => And.intro (hpp j) (hqq j))
      have HN1 : Hid (1 ≤ xs.length) := hgl.1
      have HSL : Hid ((sumsL xs ys).length = xs.length) := sums_len (Bool.and_eq_true_iff.1 q1).1
      have lpb : ps.length ≤ 24 := by omega
      have lqp : Hid (qs.length = ps.length) := by show _ = _; rw [lp1, lq1]
      unfold covA covB
      generalize sumsL xs ys = S at *
      obtain ⟨TO, eO⟩ : ∃ T, totL xs ys (prdL ps qs ps.length) = T := ⟨_, rfl⟩
      obtain ⟨TP, eP⟩ : ∃ T, totL xs ys ps = T := ⟨_, rfl⟩
      obtain ⟨TQ, eQ⟩ : ∃ T, totL xs ys qs = T := ⟨_, rfl⟩
      have HTLO := HTL.out (prdL ps qs ps.length)
      have HTLP := HTL.out ps
      have HTLQ := HTL.out qs
      rw [eO] at HTO hcb HTLO ⊢
      rw [eP] at HTP hcb HTLP ⊢
      rw [eQ] at HTQ hcb HTLQ ⊢
      obtain ⟨v1, v2, v3, v4, v5⟩ := hcb
      have HLO : Hid (1 ≤ TO.length) := by show 1 ≤ _; rw [HTLO]; exact hgl.1
      have HLP : Hid (1 ≤ TP.length) := by show 1 ≤ _; rw [HTLP]; exact hgl.1
      have HLQ : Hid (1 ≤ TQ.length) := by show 1 ≤ _; rw [HTLQ]; exact hgl.1
      have b1 := mul_bd (A := 479040480) (D := 480) (a := nth TO 0) (d := nth S 0) v1 (by omega)
      have b2 := mul_bd (A := 479520) (D := 479520) (a := nth TP 0) (d := nth TQ 0) v2 v3
      have b3 := mul_bd (A := 480) (D := 480) (a := nth S 0) (d := nth S 0) (by omega) (by omega)
      have b4 : 1 ≤ nth S 0 * nth S 0 := by have := Int.mul_le_mul (a := 1) (b := 1) (c := nth S 0) (d := nth S 0) v4 v4 (by omega) (by omega); omega
      have u1 : IntKind.i64.wrap (nth TO 0 * nth S 0) = nth TO 0 * nth S 0 := IntWalk.i64_in _ (by omega)
      have u2 : IntKind.i64.wrap (nth TP 0 * nth TQ 0) = nth TP 0 * nth TQ 0 := IntWalk.i64_in _ (by omega)
      have u3 : IntKind.i64.wrap (nth S 0 * nth S 0) = nth S 0 * nth S 0 := IntWalk.i64_in _ (by omega)
      have u4 : IntKind.i64.wrap (nth TO 0 * nth S 0 - nth TP 0 * nth TQ 0) = nth TO 0 * nth S 0 - nth TP 0 * nth TQ 0 := IntWalk.i64_in _ (by omega)
      have HC := Lib.hid (fun W => l2Cut_any (nth TO 0 * nth S 0 - nth TP 0 * nth TQ 0) (nth S 0 * nth S 0) W (by omega) (by omega) (by omega))
      have HK := fun W => kept_r (nth TO 0 * nth S 0 - nth TP 0 * nth TQ 0) (nth S 0 * nth S 0) (by omega) W
      unfold FracV at HK
      replace HK := Lib.hid HK
      clear hpp hqq lp1 lq1 hel hgl HTL eO eP eQ HTLO HTLP HTLQ v1 v2 v3 v4 v5 b1 b2 b3 b4
      generalize lowX (nth TO 0 * nth S 0 - nth TP 0 * nth TQ 0) (nth S 0 * nth S 0) = X at *
      generalize lowY (nth TO 0 * nth S 0 - nth TP 0 * nth TQ 0) (nth S 0 * nth S 0) = Y at *
      generalize lowN (nth TO 0 * nth S 0 - nth TP 0 * nth TQ 0) (nth S 0 * nth S 0) = N at *
      generalize lowM (nth TO 0 * nth S 0 - nth TP 0 * nth TQ 0) (nth S 0 * nth S 0) = M at *
      generalize lowOk (nth TO 0 * nth S 0 - nth TP 0 * nth TQ 0) (nth S 0 * nth S 0) = O at *
      clear q1 q2 _hx _hy _bp _bq
      go_enter Try.func68, Try.ntmps68
      go_wp2_with fail
      refine (HG1.out _ ((h.alloc _).alloc _) ((k.alloc _).alloc _) ((zp.alloc _).alloc _)).mono ?_
      rintro e1 w1 ⟨rfl, hb⟩
      have hx0 : w1.cell? ⟨w.heap.size, 0, none⟩ = some (.slice A xs.length c) := keep_cell hb (by simp)
      have hx1 : w1.cell? ⟨w.heap.size, 1, none⟩ = some (.slice B ys.length e) := keep_cell hb (by simp)
      have hr0 : w1.cell? ⟨w.heap.size + 1, 0, none⟩ = some (.int .i64 0) := keep_cell hb (by simp)
      have hr1 : w1.cell? ⟨w.heap.size + 1, 1, none⟩ = some (.int .i64 0) := keep_cell hb (by simp)
      have hf0 : w1.frozen? ⟨w.heap.size + 1, 0, none⟩ = false := keep_froz hb (by simp) (by simp)
      have hf1 : w1.frozen? ⟨w.heap.size + 1, 1, none⟩ = false := keep_froz hb (by simp) (by simp)
      have hw : Below w.heap.size w w1 := below_alloc (below_alloc (hb))
      clear hb
      go_wp2_with fail
      refine (HG2.out _ (h.below hw) (k.below hw) (zq.below hw)).mono ?_
      rintro e1 w2 ⟨rfl, hb⟩
      replace hx0 := keep_cell hb hx0
      replace hx1 := keep_cell hb hx1
      replace hf0 := keep_froz hb (by rw [hr0]; rfl) hf0
      replace hf1 := keep_froz hb (by rw [hr1]; rfl) hf1
      replace hr0 := keep_cell hb hr0
      replace hr1 := keep_cell hb hr1
      replace hw := keep_below hb hw
      clear hb
      clear HG1 HG2
      have hrw := World.block_lt_of_cell? _ _ hr0
      replace hrw : w.heap.size + 1 < w2.heap.size := hrw
      obtain ⟨i0, hi, hz0, hz1, hz2⟩ := info_parts info_int
      go_upto_region 4 with (fail)
      go_cut [8, 9] (fun s8 s9 wx => ∃ g : Nat, w.heap.size + 1 < g ∧ s8 = .slice (some ⟨g, 0, none⟩) 0 0 ∧ s9 = .int .i64 (nth S 0) ∧ wx.ownsRow (w.heap.size + 1) 3 1 (.slice (some ⟨g, 0, none⟩) 0 0) 0 [] ∧ wx.cell? ⟨w.heap.size, 0, none⟩ = some (.slice A xs.length c) ∧ wx.cell? ⟨w.heap.size, 1, none⟩ = some (.slice B ys.length e) ∧ wx.cell? ⟨w.heap.size + 1, 0, none⟩ = some (.int .i64 0) ∧ wx.cell? ⟨w.heap.size + 1, 1, none⟩ = some (.int .i64 0) ∧ wx.frozen? ⟨w.heap.size + 1, 0, none⟩ = false ∧ wx.frozen? ⟨w.heap.size + 1, 1, none⟩ = false ∧ Below w.heap.size w wx)
      case first =>
        refine wp_region_held_drew (S := fun w' => Below w2.heap.size w2 w') (by kernel_rfl) ((Below.refl _ _)).drew (fun hHeld => ?_)
        replace hw := hw.drew
        refine wpAnyH_take (i := 1) (oi := ?oo1) (v := ?vv1) ?hi1 (by kernel_rfl) (by kernel_rfl) (by kernel_rfl) ?hq1 (Or.inl ⟨?hg1, ?hy1⟩) (by assumption) ?rest1
        case hi1 => simp only [List.getElem?_toArray, List.getElem?_cons_zero, List.getElem?_cons_succ]; rfl
        case hq1 => exact fun _ _ _ h => h
        case hg1 => rfl
        case hy1 =>
          intro wq hSw
          replace hx0 := keep_cell hSw hx0
          replace hx1 := keep_cell hSw hx1
          replace hr0 := keep_cell hSw hr0
          replace hr1 := keep_cell hSw hr1
          go_simp
          (try with_reducible rfl)
        (try simp only [Act.put, List.setIfInBounds_toArray, List.set_cons_zero, List.set_cons_succ])
        refine wpAnyH_ready (rs := [0, 2]) (by kernel_rfl) (by simp) ?_
        refine AllReadyH.cons (i := 0) (o := ?oo2) ?ho2 (fun K hK => ?hstep2) ?more2
        case ho2 => simp only [List.getElem?_toArray, List.getElem?_cons_zero, List.getElem?_cons_succ]; rfl
        case hstep2 =>
          go_simp
          refine hK.out _ _ (by (repeat (first | with_reducible exact Below.refl _ _ | with_reducible assumption | with_reducible refine Below.alloc' ?_ ?_ _ | with_reducible refine Below.setCell' ?_ ?_ _ | with_reducible refine Below.drewN' ?_ _ | with_reducible refine Below.drew ?_ | with_reducible refine Below.transA ?_ (by assumption) ?_ | omega | (focus (simp; done)) | (focus (simp; omega))))) (fun hHeld => ?_)
          clear hK K
          (try simp only [Act.put, List.setIfInBounds_toArray, List.set_cons_zero, List.set_cons_succ])
          refine wpAnyH_name hHeld (fun wa hb hwz => ?_)
          have hown : wa.ownsRow (w.heap.size + 1) 3 1 (.slice (some ⟨w2.heap.size, 0, none⟩) 0 0) 0 [] := by rw [hwz]; exact (own_empty w2 (w.heap.size + 1) w2.heap.size rfl (by omega)).drew
          refine wpAnyH_mono (S' := fun w' => Below wa.heap.size wa w') (fun _ h => keep_below h hb) _ _ _ _ ?_
          replace hw := keep_below_dr hb hw
          replace hf0 := keep_froz2 hb hr0 hf0
          replace hf1 := keep_froz2 hb hr1 hf1
          replace hx0 := keep_cell hb hx0
          replace hx1 := keep_cell hb hx1
          replace hr0 := keep_cell hb hr0
          replace hr1 := keep_cell hb hr1
          clear hHeld hb hwz
          have hHeld : Below wa.heap.size wa wa := (Below.refl _ _)
          refine wpAnyH_ready (rs := [2]) (by kernel_rfl) (by simp) ?_
          refine AllReadyH.cons (i := 2) (o := ?oo3) ?ho3 (fun K hK => ?hstep3) AllReadyH.nil
          case ho3 => simp only [List.getElem?_toArray, List.getElem?_cons_zero, List.getElem?_cons_succ]; rfl
          go_simp
          refine (HSu.out _ (h.below hw) (k.below hw)).mono ?_
          rintro e1 wz ⟨As, cs, rfl, hos, hb⟩
          obtain ⟨gs, rfl, hgs, hrs⟩ := hos.pos HL.out
          have hS0 := hrs.cell (j := 0) HL.out
          have hl0 : 0 < S.length := HL.out
          clear hrs hos hgs
          replace hown := own_below hown hb
          go_wp2_with fail
          refine hK.out _ _ (keep_below hb hHeld) (fun _ => ?_)
          clear hK K
          (try simp only [Act.put, List.setIfInBounds_toArray, List.set_cons_zero, List.set_cons_succ])
          refine wpAnyH_mono (S' := fun w' => Below wz.heap.size wz w') (fun _ h => keep_below h (keep_below hb hHeld)) _ _ _ _ ?_
          replace hw := keep_below hb hw
          replace hf0 := keep_froz2 hb hr0 hf0
          replace hf1 := keep_froz2 hb hr1 hf1
          replace hx0 := keep_cell hb hx0
          replace hx1 := keep_cell hb hx1
          replace hr0 := keep_cell hb hr0
          replace hr1 := keep_cell hb hr1
          clear hHeld hb
          have hHeld : Below wz.heap.size wz wz := (Below.refl _ _)
          refine wpAnyH_take (i := 3) (oi := ?oo4) (v := ?vv4) ?hi4 (by kernel_rfl) (by kernel_rfl) (by kernel_rfl) ?hq4 (Or.inl ⟨?hg4, ?hy4⟩) (by assumption) ?rest4
          case hi4 => simp only [List.getElem?_toArray, List.getElem?_cons_zero, List.getElem?_cons_succ]; rfl
          case hq4 => exact fun _ _ _ h => h
          case hg4 => rfl
          case hy4 =>
            intro wq hSw
            replace hx0 := keep_cell hSw hx0
            replace hx1 := keep_cell hSw hx1
            replace hr0 := keep_cell hSw hr0
            replace hr1 := keep_cell hSw hr1
            replace hS0 := keep_cell hSw hS0
            go_simp
            (try with_reducible rfl)
          (try simp only [Act.put, List.setIfInBounds_toArray, List.set_cons_zero, List.set_cons_succ])
          refine wpAnyH_take (i := 4) (oi := ?oo5) (v := ?vv5) ?hi5 (by kernel_rfl) (by kernel_rfl) (by kernel_rfl) ?hq5 (Or.inl ⟨?hg5, ?hy5⟩) (by assumption) ?rest5
          case hi5 => simp only [List.getElem?_toArray, List.getElem?_cons_zero, List.getElem?_cons_succ]; rfl
          case hq5 => exact fun _ _ _ h => h
          case hg5 => rfl
          case hy5 =>
            intro wq hSw
            replace hx0 := keep_cell hSw hx0
            replace hx1 := keep_cell hSw hx1
            replace hr0 := keep_cell hSw hr0
            replace hr1 := keep_cell hSw hr1
            replace hS0 := keep_cell hSw hS0
            go_simp
            (try with_reducible rfl)
          (try simp only [Act.put, List.setIfInBounds_toArray, List.set_cons_zero, List.set_cons_succ])
          refine wpAnyH_take (i := 5) (oi := ?oo6) (v := ?vv6) ?hi6 (by kernel_rfl) (by kernel_rfl) (by kernel_rfl) ?hq6 (Or.inl ⟨?hg6, ?hy6⟩) (by assumption) ?rest6
          case hi6 => simp only [List.getElem?_toArray, List.getElem?_cons_zero, List.getElem?_cons_succ]; rfl
          case hq6 => exact fun _ _ _ h => h
          case hg6 => rfl
          case hy6 =>
            intro wq hSw
            replace hx0 := keep_cell hSw hx0
            replace hx1 := keep_cell hSw hx1
            replace hr0 := keep_cell hSw hr0
            replace hr1 := keep_cell hSw hr1
            replace hS0 := keep_cell hSw hS0
            go_simp
            (try with_reducible rfl)
          (try simp only [Act.put, List.setIfInBounds_toArray, List.set_cons_zero, List.set_cons_succ])
          refine wpAnyH_take (i := 6) (oi := ?oo7) (v := ?vv7) ?hi7 (by kernel_rfl) (by kernel_rfl) (by kernel_rfl) ?hq7 (Or.inl ⟨?hg7, ?hy7⟩) (by assumption) ?rest7
          case hi7 => simp only [List.getElem?_toArray, List.getElem?_cons_zero, List.getElem?_cons_succ]; rfl
          case hq7 => exact fun _ _ _ h => h
          case hg7 => rfl
          case hy7 =>
            intro wq hSw
            replace hx0 := keep_cell hSw hx0
            replace hx1 := keep_cell hSw hx1
            replace hr0 := keep_cell hSw hr0
            replace hr1 := keep_cell hSw hr1
            replace hS0 := keep_cell hSw hS0
            go_simp
            (try with_reducible rfl)
          (try simp only [Act.put, List.setIfInBounds_toArray, List.set_cons_zero, List.set_cons_succ])
          clear hHeld
          refine wpAnyH_done (by kernel_rfl) ?_ _
          go_wp2_with fail
          go_meet
          go_split_ands
          exact ⟨_, by omega, rfl, rfl, hown, by assumption, by assumption, by assumption, by assumption, by assumption, by assumption, by assumption⟩
        refine AllReadyH.cons (i := 2) (o := ?oo8) ?ho8 (fun K hK => ?hstep8) ?more8
        case ho8 => simp only [List.getElem?_toArray, List.getElem?_cons_zero, List.getElem?_cons_succ]; rfl
        case hstep8 =>
          go_simp
          refine (HSu.out _ (h.below hw) (k.below hw)).mono ?_
          rintro e1 wz ⟨As, cs, rfl, hos, hb⟩
          obtain ⟨gs, rfl, hgs, hrs⟩ := hos.pos HL.out
          have hS0 := hrs.cell (j := 0) HL.out
          have hl0 : 0 < S.length := HL.out
          clear hrs hos hgs
          go_wp2_with fail
          refine hK.out _ _ (keep_below hb hHeld) (fun _ => ?_)
          clear hK K
          (try simp only [Act.put, List.setIfInBounds_toArray, List.set_cons_zero, List.set_cons_succ])
          refine wpAnyH_mono (S' := fun w' => Below wz.heap.size wz w') (fun _ h => keep_below h (keep_below hb hHeld)) _ _ _ _ ?_
          replace hw := keep_below hb hw
          replace hf0 := keep_froz2 hb hr0 hf0
          replace hf1 := keep_froz2 hb hr1 hf1
          replace hx0 := keep_cell hb hx0
          replace hx1 := keep_cell hb hx1
          replace hr0 := keep_cell hb hr0
          replace hr1 := keep_cell hb hr1
          clear hHeld hb
          have hHeld : Below wz.heap.size wz wz := (Below.refl _ _)
          refine wpAnyH_take (i := 3) (oi := ?oo9) (v := ?vv9) ?hi9 (by kernel_rfl) (by kernel_rfl) (by kernel_rfl) ?hq9 (Or.inl ⟨?hg9, ?hy9⟩) (by assumption) ?rest9
          case hi9 => simp only [List.getElem?_toArray, List.getElem?_cons_zero, List.getElem?_cons_succ]; rfl
          case hq9 => exact fun _ _ _ h => h
          case hg9 => rfl
          case hy9 =>
            intro wq hSw
            replace hx0 := keep_cell hSw hx0
            replace hx1 := keep_cell hSw hx1
            replace hr0 := keep_cell hSw hr0
            replace hr1 := keep_cell hSw hr1
            replace hS0 := keep_cell hSw hS0
            go_simp
            (try with_reducible rfl)
          (try simp only [Act.put, List.setIfInBounds_toArray, List.set_cons_zero, List.set_cons_succ])
          refine wpAnyH_take (i := 4) (oi := ?oo10) (v := ?vv10) ?hi10 (by kernel_rfl) (by kernel_rfl) (by kernel_rfl) ?hq10 (Or.inl ⟨?hg10, ?hy10⟩) (by assumption) ?rest10
          case hi10 => simp only [List.getElem?_toArray, List.getElem?_cons_zero, List.getElem?_cons_succ]; rfl
          case hq10 => exact fun _ _ _ h => h
          case hg10 => rfl
          case hy10 =>
            intro wq hSw
            replace hx0 := keep_cell hSw hx0
            replace hx1 := keep_cell hSw hx1
            replace hr0 := keep_cell hSw hr0
            replace hr1 := keep_cell hSw hr1
            replace hS0 := keep_cell hSw hS0
            go_simp
            (try with_reducible rfl)
          (try simp only [Act.put, List.setIfInBounds_toArray, List.set_cons_zero, List.set_cons_succ])
          refine wpAnyH_ready (rs := [0]) (by kernel_rfl) (by simp) ?_
          refine AllReadyH.cons (i := 0) (o := ?oo11) ?ho11 (fun K hK => ?hstep11) AllReadyH.nil
          case ho11 => simp only [List.getElem?_toArray, List.getElem?_cons_zero, List.getElem?_cons_succ]; rfl
          go_simp
          refine hK.out _ _ (by (repeat (first | with_reducible exact Below.refl _ _ | with_reducible assumption | with_reducible refine Below.alloc' ?_ ?_ _ | with_reducible refine Below.setCell' ?_ ?_ _ | with_reducible refine Below.drewN' ?_ _ | with_reducible refine Below.drew ?_ | with_reducible refine Below.transA ?_ (by assumption) ?_ | omega | (focus (simp; done)) | (focus (simp; omega))))) (fun hHeld => ?_)
          clear hK K
          (try simp only [Act.put, List.setIfInBounds_toArray, List.set_cons_zero, List.set_cons_succ])
          refine wpAnyH_name hHeld (fun wa hb hwz => ?_)
          have hwl : w.heap.size + 1 < wz.heap.size := World.block_lt_of_cell? _ _ hr0
          have hown : wa.ownsRow (w.heap.size + 1) 3 1 (.slice (some ⟨wz.heap.size, 0, none⟩) 0 0) 0 [] := by rw [hwz]; exact own_empty wz (w.heap.size + 1) wz.heap.size rfl (by omega)
          refine wpAnyH_mono (S' := fun w' => Below wa.heap.size wa w') (fun _ h => keep_below h hb) _ _ _ _ ?_
          replace hw := keep_below hb hw
          replace hf0 := keep_froz2 hb hr0 hf0
          replace hf1 := keep_froz2 hb hr1 hf1
          replace hx0 := keep_cell hb hx0
          replace hx1 := keep_cell hb hx1
          replace hr0 := keep_cell hb hr0
          replace hr1 := keep_cell hb hr1
          replace hS0 := keep_cell hb hS0
          clear hHeld hb hwz
          have hHeld : Below wa.heap.size wa wa := (Below.refl _ _)
          refine wpAnyH_take (i := 5) (oi := ?oo12) (v := ?vv12) ?hi12 (by kernel_rfl) (by kernel_rfl) (by kernel_rfl) ?hq12 (Or.inl ⟨?hg12, ?hy12⟩) (by assumption) ?rest12
          case hi12 => simp only [List.getElem?_toArray, List.getElem?_cons_zero, List.getElem?_cons_succ]; rfl
          case hq12 => exact fun _ _ _ h => h
          case hg12 => rfl
          case hy12 =>
            intro wq hSw
            replace hx0 := keep_cell hSw hx0
            replace hx1 := keep_cell hSw hx1
            replace hr0 := keep_cell hSw hr0
            replace hr1 := keep_cell hSw hr1
            replace hS0 := keep_cell hSw hS0
            go_simp
            (try with_reducible rfl)
          (try simp only [Act.put, List.setIfInBounds_toArray, List.set_cons_zero, List.set_cons_succ])
          refine wpAnyH_take (i := 6) (oi := ?oo13) (v := ?vv13) ?hi13 (by kernel_rfl) (by kernel_rfl) (by kernel_rfl) ?hq13 (Or.inl ⟨?hg13, ?hy13⟩) (by assumption) ?rest13
          case hi13 => simp only [List.getElem?_toArray, List.getElem?_cons_zero, List.getElem?_cons_succ]; rfl
          case hq13 => exact fun _ _ _ h => h
          case hg13 => rfl
          case hy13 =>
            intro wq hSw
            replace hx0 := keep_cell hSw hx0
            replace hx1 := keep_cell hSw hx1
            replace hr0 := keep_cell hSw hr0
            replace hr1 := keep_cell hSw hr1
            replace hS0 := keep_cell hSw hS0
            go_simp
            (try with_reducible rfl)
          (try simp only [Act.put, List.setIfInBounds_toArray, List.set_cons_zero, List.set_cons_succ])
          clear hHeld
          refine wpAnyH_done (by kernel_rfl) ?_ _
          go_wp2_with fail
          go_meet
          go_split_ands
          exact ⟨_, by omega, rfl, rfl, hown, by assumption, by assumption, by assumption, by assumption, by assumption, by assumption, by assumption⟩
        exact AllReadyH.nil
      case rest =>
        obtain ⟨g, hgw, rfl, rfl, hown, hx0, hx1, hr0, hr1, hf0, hf1, hw⟩ := hcut
        clear hrw
        go_wp2
        go_loopw [8, 10] (fun v i wr => ∃ j : Nat, j ≤ ps.length ∧ i = .int .i64 j ∧ wr.ownsRow (w.heap.size + 1) 3 1 v (prdL ps qs j).length (i64s (prdL ps qs j)) ∧ v.ownBlock ≠ some (w.heap.size + 1) ∧ wr.cell? ⟨w.heap.size, 0, none⟩ = some (.slice A xs.length c) ∧ wr.cell? ⟨w.heap.size, 1, none⟩ = some (.slice B ys.length e) ∧ wr.cell? ⟨w.heap.size + 1, 0, none⟩ = some (.int .i64 0) ∧ wr.cell? ⟨w.heap.size + 1, 1, none⟩ = some (.int .i64 0) ∧ wr.frozen? ⟨w.heap.size + 1, 0, none⟩ = false ∧ wr.frozen? ⟨w.heap.size + 1, 1, none⟩ = false ∧ Below w.heap.size w wr) (fun _ i _ => ps.length - (intOf i).toNat)
        case atStart => exact ⟨0, by omega, rfl, hown, (by simp [Value.ownBlock]; omega), hx0, hx1, hr0, hr1, hf0, hf1, hw⟩
        case round =>
          clear hown hx0 hx1 hr0 hr1 hf0 hf1 hw
          obtain ⟨j, hj, rfl, hown, hne, hx0, hx1, hr0, hr1, hf0, hf1, hw⟩ := hrel
          have hlen := HPL.out j
          have hlx := World.block_lt_of_cell? _ _ hr0
          replace hlx : w.heap.size + 1 < wr.heap.size := hlx
          by_cases hlt : j < ps.length
          · obtain ⟨b1, o1, rfl, hcp⟩ := zp.at_ (j := j) hlt
            obtain ⟨b2, o2, rfl, hcq⟩ := zq.at_ (j := j) (by rw [lqp.out]; exact hlt)
            have l1 : b1 < w.heap.size := World.block_lt_of_cell? _ _ hcp
            have l2 : b2 < w.heap.size := World.block_lt_of_cell? _ _ hcq
            replace hcp := (hw.cell l1).trans hcp
            replace hcq := (hw.cell l2).trans hcq
            have hb := HPB.out j
            have hps := HPS.out j
            have hpi : (j : Int) < ps.length := by omega
            have hqi : (j : Int) < qs.length := by rw [lqp.out]; omega
            obtain ⟨x, hx⟩ : ∃ x, nth ps j = x := ⟨_, rfl⟩
            obtain ⟨y, hy⟩ : ∃ y, nth qs j = y := ⟨_, rfl⟩
            rw [hx, hy] at hps hb
            rw [hx] at hcp
            rw [hy] at hcq
            have hmb := mul_bd (A := 999) (D := 999) hb.1 hb.2
            obtain ⟨m, hm⟩ : ∃ m, x * y = m := ⟨_, rfl⟩
            have u9 : IntKind.i64.wrap (x * y) = m := by rw [hm]; exact IntWalk.i64_in _ (by omega)
            have u8 : IntKind.i64.wrap m = m := IntWalk.i64_in _ (by omega)
            rw [hm] at hps
            have HPX : Hid (i64s (prdL ps qs (j + 1)) = i64s (prdL ps qs j) ++ [Value.int .i64 m] ∧ (prdL ps qs (j + 1)).length = (prdL ps qs j).length + 1) := by rw [hps]; exact ⟨i64s_app _ _, by simp⟩
            have hlen2 : (prdL ps qs j).length ≤ 24 := by rw [hlen]; omega
            clear hx hy hb hps hlen u1 u2 u3 u4 
            generalize prdL ps qs j = L at *
            go_wp2
            go_region_held3 (fun w' => w'.cell? ⟨b1, o1 + j, none⟩ = some (.int .i64 x) ∧ w'.cell? ⟨b2, o2 + j, none⟩ = some (.int .i64 y))
              (first | go_keep | (go_split_ands; exact ⟨grown_cell hgrow (by assumption) (own_ne (g := b1) hown (by omega)), grown_cell hgrow (by assumption) (own_ne (g := b2) hown (by omega))⟩))
              ((refine step_append_elder _ (by rfl) _ _ 22 (by rfl) (w.heap.size + 1) 3 i0 (.int .i64 0) 1 8 Try.underlying22 hi hz0 hz1 hz2 rfl (by decide) _ _ _ (by rfl) ((hown.alloc _).drew) ⟨wr.heap.size, 0, none⟩ 1 1 [.int .i64 (m)] (by rfl) rfl (World.news_of_block (cs := #[.int .i64 (m)]) (t := 3) (fr := (0, 0)) (heap_alloc_new wr _)) (by simp [Value.oneCell']) (by unfold maxLen; omega) (by omega) (by simp; omega) ?_; intro v' w1 hown1 hgrow hat hel))
            have hq0 := grown_cell hgrow (p := ⟨w.heap.size, 0, none⟩) (by show (wr.alloc _).cell? _ = _; rw [World.cell?_alloc_lt _ _ _ (show w.heap.size < wr.heap.size by omega)]; exact hx0) (own_ne (g := w.heap.size) hown (by omega))
            have hq1 := grown_cell hgrow (p := ⟨w.heap.size, 1, none⟩) (by show (wr.alloc _).cell? _ = _; rw [World.cell?_alloc_lt _ _ _ (show w.heap.size < wr.heap.size by omega)]; exact hx1) (own_ne (g := w.heap.size) hown (by omega))
            have hq2 := grown_cell hgrow (p := ⟨w.heap.size + 1, 0, none⟩) (by show (wr.alloc _).cell? _ = _; rw [World.cell?_alloc_lt _ _ _ (show w.heap.size + 1 < wr.heap.size by omega)]; exact hr0) hne
            have hq3 := grown_cell hgrow (p := ⟨w.heap.size + 1, 1, none⟩) (by show (wr.alloc _).cell? _ = _; rw [World.cell?_alloc_lt _ _ _ (show w.heap.size + 1 < wr.heap.size by omega)]; exact hr1) hne
            have hq4 : w1.frozen? ⟨w.heap.size + 1, 0, none⟩ = false := (hgrow.frozen_far ⟨w.heap.size + 1, 0, none⟩ (by show w.heap.size + 1 < _; simp; omega) (fun e => hne e.symm)).trans ((((Below.refl wr.heap.size wr).alloc (Nat.le_refl _) _).frozen (show w.heap.size + 1 < wr.heap.size by omega)).trans hf0)
            have hq5 : w1.frozen? ⟨w.heap.size + 1, 1, none⟩ = false := (hgrow.frozen_far ⟨w.heap.size + 1, 1, none⟩ (by show w.heap.size + 1 < _; simp; omega) (fun e => hne e.symm)).trans ((((Below.refl wr.heap.size wr).alloc (Nat.le_refl _) _).frozen (show w.heap.size + 1 < wr.heap.size by omega)).trans hf1)
            have hb3 : Below w.heap.size w w1 := Below.grown ((hw.alloc hw.size _).drew) hgrow (by have := hw.size; simp; omega) (fun g hg => by have := (hown.lt g hg).1; omega)
            have hne1 : v'.ownBlock ≠ some (w.heap.size + 1) := by
              rcases hat with e | e
              · rw [e]; exact hne
              · rw [e]; simp; omega
            rw [← HPX.out.1, ← HPX.out.2] at hown1
            clear hown hgrow hw HPX hx0 hx1 hr0 hr1 hf0 hf1 hne hat
            go_wp2
            go_roundw
            case rel => exact ⟨j + 1, by omega, by go_num, hown1, hne1, hq0, hq1, hq2, hq3, hq4, hq5, hb3⟩
            case measure => simp only [intOf]; omega
          · have hje : j = ps.length := by omega
            rw [hje] at hown
            obtain ⟨A', c', rfl, hO⟩ := own_form hown
            have hpr := hO.ints
            clear hown hO hlen
            have hli : (prdL ps qs ps.length).length ≤ 24 := by rw [HPL.out]; exact lpb
            subst hje
            go_wp2
            refine wp_region_held_drew (S := fun w' => KeptBut wr w' (w.heap.size + 1) (w.heap.size + 1)) (by kernel_rfl) ((KeptBut.refl2 _ _)).drew (fun hHeld => ?_)
            replace hw := hw.drew
            refine wpAnyH_take (i := 0) (oi := ?oox1) (v := ?vvx1) ?hix1 (by kernel_rfl) (by kernel_rfl) (by kernel_rfl) ?hqx1 (Or.inl ⟨?hgx1, ?hyx1⟩) (by assumption) ?restx1
            case hix1 => simp only [List.getElem?_toArray, List.getElem?_cons_zero, List.getElem?_cons_succ]; rfl
            case hqx1 => exact fun _ _ _ h => h
            case hgx1 => rfl
            case hyx1 =>
              intro wq hSw
              replace hx0 := hSw.cell hx0 (by first | omega | (simp; done) | (simp; omega)) (by first | omega | (simp; done) | (simp; omega))
              replace hx1 := hSw.cell hx1 (by first | omega | (simp; done) | (simp; omega)) (by first | omega | (simp; done) | (simp; omega))
              go_simp
              (try with_reducible rfl)
            (try simp only [Act.put, List.setIfInBounds_toArray, List.set_cons_zero, List.set_cons_succ])
            refine wpAnyH_take (i := 1) (oi := ?oox2) (v := ?vvx2) ?hix2 (by kernel_rfl) (by kernel_rfl) (by kernel_rfl) ?hqx2 (Or.inl ⟨?hgx2, ?hyx2⟩) (by assumption) ?restx2
            case hix2 => simp only [List.getElem?_toArray, List.getElem?_cons_zero, List.getElem?_cons_succ]; rfl
            case hqx2 => exact fun _ _ _ h => h
            case hgx2 => rfl
            case hyx2 =>
              intro wq hSw
              replace hx0 := hSw.cell hx0 (by first | omega | (simp; done) | (simp; omega)) (by first | omega | (simp; done) | (simp; omega))
              replace hx1 := hSw.cell hx1 (by first | omega | (simp; done) | (simp; omega)) (by first | omega | (simp; done) | (simp; omega))
              go_simp
              (try with_reducible rfl)
            (try simp only [Act.put, List.setIfInBounds_toArray, List.set_cons_zero, List.set_cons_succ])
            refine wpAnyH_take (i := 5) (oi := ?oox3) (v := ?vvx3) ?hix3 (by kernel_rfl) (by kernel_rfl) (by kernel_rfl) ?hqx3 (Or.inl ⟨?hgx3, ?hyx3⟩) (by assumption) ?restx3
            case hix3 => simp only [List.getElem?_toArray, List.getElem?_cons_zero, List.getElem?_cons_succ]; rfl
            case hqx3 => exact fun _ _ _ h => h
            case hgx3 => rfl
            case hyx3 =>
              intro wq hSw
              replace hx0 := hSw.cell hx0 (by first | omega | (simp; done) | (simp; omega)) (by first | omega | (simp; done) | (simp; omega))
              replace hx1 := hSw.cell hx1 (by first | omega | (simp; done) | (simp; omega)) (by first | omega | (simp; done) | (simp; omega))
              go_simp
              (try with_reducible rfl)
            (try simp only [Act.put, List.setIfInBounds_toArray, List.set_cons_zero, List.set_cons_succ])
            refine wpAnyH_take (i := 7) (oi := ?oox4) (v := ?vvx4) ?hix4 (by kernel_rfl) (by kernel_rfl) (by kernel_rfl) ?hqx4 (Or.inl ⟨?hgx4, ?hyx4⟩) (by assumption) ?restx4
            case hix4 => simp only [List.getElem?_toArray, List.getElem?_cons_zero, List.getElem?_cons_succ]; rfl
            case hqx4 => exact fun _ _ _ h => h
            case hgx4 => rfl
            case hyx4 =>
              intro wq hSw
              replace hx0 := hSw.cell hx0 (by first | omega | (simp; done) | (simp; omega)) (by first | omega | (simp; done) | (simp; omega))
              replace hx1 := hSw.cell hx1 (by first | omega | (simp; done) | (simp; omega)) (by first | omega | (simp; done) | (simp; omega))
              go_simp
              (try with_reducible rfl)
            (try simp only [Act.put, List.setIfInBounds_toArray, List.set_cons_zero, List.set_cons_succ])
            refine wpAnyH_take (i := 8) (oi := ?oox5) (v := ?vvx5) ?hix5 (by kernel_rfl) (by kernel_rfl) (by kernel_rfl) ?hqx5 (Or.inl ⟨?hgx5, ?hyx5⟩) (by assumption) ?restx5
            case hix5 => simp only [List.getElem?_toArray, List.getElem?_cons_zero, List.getElem?_cons_succ]; rfl
            case hqx5 => exact fun _ _ _ h => h
            case hgx5 => rfl
            case hyx5 =>
              intro wq hSw
              replace hx0 := hSw.cell hx0 (by first | omega | (simp; done) | (simp; omega)) (by first | omega | (simp; done) | (simp; omega))
              replace hx1 := hSw.cell hx1 (by first | omega | (simp; done) | (simp; omega)) (by first | omega | (simp; done) | (simp; omega))
              go_simp
              (try with_reducible rfl)
            (try simp only [Act.put, List.setIfInBounds_toArray, List.set_cons_zero, List.set_cons_succ])
            refine wpAnyH_take (i := 12) (oi := ?oox6) (v := ?vvx6) ?hix6 (by kernel_rfl) (by kernel_rfl) (by kernel_rfl) ?hqx6 (Or.inl ⟨?hgx6, ?hyx6⟩) (by assumption) ?restx6
            case hix6 => simp only [List.getElem?_toArray, List.getElem?_cons_zero, List.getElem?_cons_succ]; rfl
            case hqx6 => exact fun _ _ _ h => h
            case hgx6 => rfl
            case hyx6 =>
              intro wq hSw
              replace hx0 := hSw.cell hx0 (by first | omega | (simp; done) | (simp; omega)) (by first | omega | (simp; done) | (simp; omega))
              replace hx1 := hSw.cell hx1 (by first | omega | (simp; done) | (simp; omega)) (by first | omega | (simp; done) | (simp; omega))
              go_simp
              (try with_reducible rfl)
            (try simp only [Act.put, List.setIfInBounds_toArray, List.set_cons_zero, List.set_cons_succ])
            refine wpAnyH_take (i := 13) (oi := ?oox7) (v := ?vvx7) ?hix7 (by kernel_rfl) (by kernel_rfl) (by kernel_rfl) ?hqx7 (Or.inl ⟨?hgx7, ?hyx7⟩) (by assumption) ?restx7
            case hix7 => simp only [List.getElem?_toArray, List.getElem?_cons_zero, List.getElem?_cons_succ]; rfl
            case hqx7 => exact fun _ _ _ h => h
            case hgx7 => rfl
            case hyx7 =>
              intro wq hSw
              replace hx0 := hSw.cell hx0 (by first | omega | (simp; done) | (simp; omega)) (by first | omega | (simp; done) | (simp; omega))
              replace hx1 := hSw.cell hx1 (by first | omega | (simp; done) | (simp; omega)) (by first | omega | (simp; done) | (simp; omega))
              go_simp
              (try with_reducible rfl)
            (try simp only [Act.put, List.setIfInBounds_toArray, List.set_cons_zero, List.set_cons_succ])
            refine wpAnyH_take (i := 19) (oi := ?oox8) (v := ?vvx8) ?hix8 (by kernel_rfl) (by kernel_rfl) (by kernel_rfl) ?hqx8 (Or.inl ⟨?hgx8, ?hyx8⟩) (by assumption) ?restx8
            case hix8 => simp only [List.getElem?_toArray, List.getElem?_cons_zero, List.getElem?_cons_succ]; rfl
            case hqx8 => exact fun _ _ _ h => h
            case hgx8 => rfl
            case hyx8 =>
              intro wq hSw
              replace hx0 := hSw.cell hx0 (by first | omega | (simp; done) | (simp; omega)) (by first | omega | (simp; done) | (simp; omega))
              replace hx1 := hSw.cell hx1 (by first | omega | (simp; done) | (simp; omega)) (by first | omega | (simp; done) | (simp; omega))
              go_simp
              (try with_reducible rfl)
            (try simp only [Act.put, List.setIfInBounds_toArray, List.set_cons_zero, List.set_cons_succ])
            refine wpAnyH_take (i := 20) (oi := ?oox9) (v := ?vvx9) ?hix9 (by kernel_rfl) (by kernel_rfl) (by kernel_rfl) ?hqx9 (Or.inl ⟨?hgx9, ?hyx9⟩) (by assumption) ?restx9
            case hix9 => simp only [List.getElem?_toArray, List.getElem?_cons_zero, List.getElem?_cons_succ]; rfl
            case hqx9 => exact fun _ _ _ h => h
            case hgx9 => rfl
            case hyx9 =>
              intro wq hSw
              replace hx0 := hSw.cell hx0 (by first | omega | (simp; done) | (simp; omega)) (by first | omega | (simp; done) | (simp; omega))
              replace hx1 := hSw.cell hx1 (by first | omega | (simp; done) | (simp; omega)) (by first | omega | (simp; done) | (simp; omega))
              go_simp
              (try with_reducible rfl)
            (try simp only [Act.put, List.setIfInBounds_toArray, List.set_cons_zero, List.set_cons_succ])
            refine wpAnyH_take (i := 21) (oi := ?oox10) (v := ?vvx10) ?hix10 (by kernel_rfl) (by kernel_rfl) (by kernel_rfl) ?hqx10 (Or.inl ⟨?hgx10, ?hyx10⟩) (by assumption) ?restx10
            case hix10 => simp only [List.getElem?_toArray, List.getElem?_cons_zero, List.getElem?_cons_succ]; rfl
            case hqx10 => exact fun _ _ _ h => h
            case hgx10 => rfl
            case hyx10 =>
              intro wq hSw
              replace hx0 := hSw.cell hx0 (by first | omega | (simp; done) | (simp; omega)) (by first | omega | (simp; done) | (simp; omega))
              replace hx1 := hSw.cell hx1 (by first | omega | (simp; done) | (simp; omega)) (by first | omega | (simp; done) | (simp; omega))
              go_simp
              (try with_reducible rfl)
            (try simp only [Act.put, List.setIfInBounds_toArray, List.set_cons_zero, List.set_cons_succ])
            refine wpAnyH_ready (rs := [2]) (by kernel_rfl) (by simp) ?_
            refine AllReadyH.cons (i := 2) (o := ?oox11) ?hox11 (fun K hK => ?hstepx11) AllReadyH.nil
            case hox11 => simp only [List.getElem?_toArray, List.getElem?_cons_zero, List.getElem?_cons_succ]; rfl
            go_simp
            have hrz := World.block_lt_of_cell? _ _ hr0
            simp only at hrz
            refine (HTO.out _ _ _ (h.below hw) (k.below hw) hpr).mono ?_
            rintro e1 wz ⟨A1, c1, rfl, hos, hb⟩
            obtain ⟨g1, rfl, hgs, hrs⟩ := hos.pos HLO.out
            have hT1 := hrs.cell (j := 0) HLO.out
            have hl1 : 0 < TO.length := HLO.out
            have hgr1 : w.heap.size + 1 < g1 := Nat.lt_of_lt_of_le hrz hgs
            clear hrs hos hgs hrz
            clear hpr
            go_wp2_with fail
            refine hK.out _ _ (hHeld.post hb) (fun _ => ?_)
            clear hK K
            (try simp only [Act.put, List.setIfInBounds_toArray, List.set_cons_zero, List.set_cons_succ])
            refine wpAnyH_mono (S' := fun w' => KeptBut wz w' (w.heap.size + 1) (w.heap.size + 1)) (fun _ h => (hHeld.post hb).trans2 h) _ _ _ _ ?_
            replace hx0 := keep_cell hb hx0
            replace hx1 := keep_cell hb hx1
            replace hf0 := keep_froz2 hb hr0 hf0
            replace hf1 := keep_froz2 hb hr1 hf1
            replace hr0 := keep_cell hb hr0
            replace hr1 := keep_cell hb hr1
            replace hw := keep_below hb hw
            clear hHeld hb
            have hHeld : KeptBut wz wz (w.heap.size + 1) (w.heap.size + 1) := (KeptBut.refl2 _ _)
            refine wpAnyH_take (i := 3) (oi := ?oox12) (v := ?vvx12) ?hix12 (by kernel_rfl) (by kernel_rfl) (by kernel_rfl) ?hqx12 (Or.inl ⟨?hgx12, ?hyx12⟩) (by assumption) ?restx12
            case hix12 => simp only [List.getElem?_toArray, List.getElem?_cons_zero, List.getElem?_cons_succ]; rfl
            case hqx12 => exact fun _ _ _ h => h
            case hgx12 => rfl
            case hyx12 =>
              intro wq hSw
              replace hx0 := hSw.cell hx0 (by first | omega | (simp; done) | (simp; omega)) (by first | omega | (simp; done) | (simp; omega))
              replace hx1 := hSw.cell hx1 (by first | omega | (simp; done) | (simp; omega)) (by first | omega | (simp; done) | (simp; omega))
              replace hT1 := hSw.cell hT1 (by first | omega | (simp; done) | (simp; omega)) (by first | omega | (simp; done) | (simp; omega))
              go_simp
              (try with_reducible rfl)
            (try simp only [Act.put, List.setIfInBounds_toArray, List.set_cons_zero, List.set_cons_succ])
            refine wpAnyH_take (i := 4) (oi := ?oox13) (v := ?vvx13) ?hix13 (by kernel_rfl) (by kernel_rfl) (by kernel_rfl) ?hqx13 (Or.inl ⟨?hgx13, ?hyx13⟩) (by assumption) ?restx13
            case hix13 => simp only [List.getElem?_toArray, List.getElem?_cons_zero, List.getElem?_cons_succ]; rfl
            case hqx13 => exact fun _ _ _ h => h
            case hgx13 => rfl
            case hyx13 =>
              intro wq hSw
              replace hx0 := hSw.cell hx0 (by first | omega | (simp; done) | (simp; omega)) (by first | omega | (simp; done) | (simp; omega))
              replace hx1 := hSw.cell hx1 (by first | omega | (simp; done) | (simp; omega)) (by first | omega | (simp; done) | (simp; omega))
              replace hT1 := hSw.cell hT1 (by first | omega | (simp; done) | (simp; omega)) (by first | omega | (simp; done) | (simp; omega))
              go_simp
              (try with_reducible rfl)
            (try simp only [Act.put, List.setIfInBounds_toArray, List.set_cons_zero, List.set_cons_succ])
            refine wpAnyH_take (i := 6) (oi := ?oox14) (v := ?vvx14) ?hix14 (by kernel_rfl) (by kernel_rfl) (by kernel_rfl) ?hqx14 (Or.inl ⟨?hgx14, ?hyx14⟩) (by assumption) ?restx14
            case hix14 => simp only [List.getElem?_toArray, List.getElem?_cons_zero, List.getElem?_cons_succ]; rfl
            case hqx14 => exact fun _ _ _ h => h
            case hgx14 => rfl
            case hyx14 =>
              intro wq hSw
              replace hx0 := hSw.cell hx0 (by first | omega | (simp; done) | (simp; omega)) (by first | omega | (simp; done) | (simp; omega))
              replace hx1 := hSw.cell hx1 (by first | omega | (simp; done) | (simp; omega)) (by first | omega | (simp; done) | (simp; omega))
              replace hT1 := hSw.cell hT1 (by first | omega | (simp; done) | (simp; omega)) (by first | omega | (simp; done) | (simp; omega))
              go_simp
              (try with_reducible rfl)
            (try simp only [Act.put, List.setIfInBounds_toArray, List.set_cons_zero, List.set_cons_succ])
            refine wpAnyH_ready (rs := [9]) (by kernel_rfl) (by simp) ?_
            refine AllReadyH.cons (i := 9) (o := ?oox15) ?hox15 (fun K hK => ?hstepx15) AllReadyH.nil
            case hox15 => simp only [List.getElem?_toArray, List.getElem?_cons_zero, List.getElem?_cons_succ]; rfl
            go_simp
            have hrz := World.block_lt_of_cell? _ _ hr0
            simp only at hrz
            refine (HTP.out _ (h.below hw) (k.below hw) (zp.below hw)).mono ?_
            rintro e1 wz ⟨A1, c1, rfl, hos, hb⟩
            obtain ⟨g2, rfl, hgs, hrs⟩ := hos.pos HLP.out
            have hT2 := hrs.cell (j := 0) HLP.out
            have hl2 : 0 < TP.length := HLP.out
            have hgr2 : w.heap.size + 1 < g2 := Nat.lt_of_lt_of_le hrz hgs
            clear hrs hos hgs hrz
            go_wp2_with fail
            refine hK.out _ _ (hHeld.post hb) (fun _ => ?_)
            clear hK K
            (try simp only [Act.put, List.setIfInBounds_toArray, List.set_cons_zero, List.set_cons_succ])
            refine wpAnyH_mono (S' := fun w' => KeptBut wz w' (w.heap.size + 1) (w.heap.size + 1)) (fun _ h => (hHeld.post hb).trans2 h) _ _ _ _ ?_
            replace hx0 := keep_cell hb hx0
            replace hx1 := keep_cell hb hx1
            replace hT1 := keep_cell hb hT1
            replace hf0 := keep_froz2 hb hr0 hf0
            replace hf1 := keep_froz2 hb hr1 hf1
            replace hr0 := keep_cell hb hr0
            replace hr1 := keep_cell hb hr1
            replace hw := keep_below hb hw
            clear hHeld hb
            have hHeld : KeptBut wz wz (w.heap.size + 1) (w.heap.size + 1) := (KeptBut.refl2 _ _)
            refine wpAnyH_take (i := 10) (oi := ?oox16) (v := ?vvx16) ?hix16 (by kernel_rfl) (by kernel_rfl) (by kernel_rfl) ?hqx16 (Or.inl ⟨?hgx16, ?hyx16⟩) (by assumption) ?restx16
            case hix16 => simp only [List.getElem?_toArray, List.getElem?_cons_zero, List.getElem?_cons_succ]; rfl
            case hqx16 => exact fun _ _ _ h => h
            case hgx16 => rfl
            case hyx16 =>
              intro wq hSw
              replace hx0 := hSw.cell hx0 (by first | omega | (simp; done) | (simp; omega)) (by first | omega | (simp; done) | (simp; omega))
              replace hx1 := hSw.cell hx1 (by first | omega | (simp; done) | (simp; omega)) (by first | omega | (simp; done) | (simp; omega))
              replace hT1 := hSw.cell hT1 (by first | omega | (simp; done) | (simp; omega)) (by first | omega | (simp; done) | (simp; omega))
              replace hT2 := hSw.cell hT2 (by first | omega | (simp; done) | (simp; omega)) (by first | omega | (simp; done) | (simp; omega))
              go_simp
              (try with_reducible rfl)
            (try simp only [Act.put, List.setIfInBounds_toArray, List.set_cons_zero, List.set_cons_succ])
            refine wpAnyH_take (i := 11) (oi := ?oox17) (v := ?vvx17) ?hix17 (by kernel_rfl) (by kernel_rfl) (by kernel_rfl) ?hqx17 (Or.inl ⟨?hgx17, ?hyx17⟩) (by assumption) ?restx17
            case hix17 => simp only [List.getElem?_toArray, List.getElem?_cons_zero, List.getElem?_cons_succ]; rfl
            case hqx17 => exact fun _ _ _ h => h
            case hgx17 => rfl
            case hyx17 =>
              intro wq hSw
              replace hx0 := hSw.cell hx0 (by first | omega | (simp; done) | (simp; omega)) (by first | omega | (simp; done) | (simp; omega))
              replace hx1 := hSw.cell hx1 (by first | omega | (simp; done) | (simp; omega)) (by first | omega | (simp; done) | (simp; omega))
              replace hT1 := hSw.cell hT1 (by first | omega | (simp; done) | (simp; omega)) (by first | omega | (simp; done) | (simp; omega))
              replace hT2 := hSw.cell hT2 (by first | omega | (simp; done) | (simp; omega)) (by first | omega | (simp; done) | (simp; omega))
              go_simp
              (try with_reducible rfl)
            (try simp only [Act.put, List.setIfInBounds_toArray, List.set_cons_zero, List.set_cons_succ])
            refine wpAnyH_ready (rs := [14]) (by kernel_rfl) (by simp) ?_
            refine AllReadyH.cons (i := 14) (o := ?oox18) ?hox18 (fun K hK => ?hstepx18) AllReadyH.nil
            case hox18 => simp only [List.getElem?_toArray, List.getElem?_cons_zero, List.getElem?_cons_succ]; rfl
            go_simp
            have hrz := World.block_lt_of_cell? _ _ hr0
            simp only at hrz
            refine (HTQ.out _ (h.below hw) (k.below hw) (zq.below hw)).mono ?_
            rintro e1 wz ⟨A1, c1, rfl, hos, hb⟩
            obtain ⟨g3, rfl, hgs, hrs⟩ := hos.pos HLQ.out
            have hT3 := hrs.cell (j := 0) HLQ.out
            have hl3 : 0 < TQ.length := HLQ.out
            have hgr3 : w.heap.size + 1 < g3 := Nat.lt_of_lt_of_le hrz hgs
            clear hrs hos hgs hrz
            go_wp2_with fail
            refine hK.out _ _ (hHeld.post hb) (fun _ => ?_)
            clear hK K
            (try simp only [Act.put, List.setIfInBounds_toArray, List.set_cons_zero, List.set_cons_succ])
            refine wpAnyH_mono (S' := fun w' => KeptBut wz w' (w.heap.size + 1) (w.heap.size + 1)) (fun _ h => (hHeld.post hb).trans2 h) _ _ _ _ ?_
            replace hx0 := keep_cell hb hx0
            replace hx1 := keep_cell hb hx1
            replace hT1 := keep_cell hb hT1
            replace hT2 := keep_cell hb hT2
            replace hf0 := keep_froz2 hb hr0 hf0
            replace hf1 := keep_froz2 hb hr1 hf1
            replace hr0 := keep_cell hb hr0
            replace hr1 := keep_cell hb hr1
            replace hw := keep_below hb hw
            clear hHeld hb
            have hHeld : KeptBut wz wz (w.heap.size + 1) (w.heap.size + 1) := (KeptBut.refl2 _ _)
            refine wpAnyH_take (i := 15) (oi := ?oox19) (v := ?vvx19) ?hix19 (by kernel_rfl) (by kernel_rfl) (by kernel_rfl) ?hqx19 (Or.inl ⟨?hgx19, ?hyx19⟩) (by assumption) ?restx19
            case hix19 => simp only [List.getElem?_toArray, List.getElem?_cons_zero, List.getElem?_cons_succ]; rfl
            case hqx19 => exact fun _ _ _ h => h
            case hgx19 => rfl
            case hyx19 =>
              intro wq hSw
              replace hx0 := hSw.cell hx0 (by first | omega | (simp; done) | (simp; omega)) (by first | omega | (simp; done) | (simp; omega))
              replace hx1 := hSw.cell hx1 (by first | omega | (simp; done) | (simp; omega)) (by first | omega | (simp; done) | (simp; omega))
              replace hT1 := hSw.cell hT1 (by first | omega | (simp; done) | (simp; omega)) (by first | omega | (simp; done) | (simp; omega))
              replace hT2 := hSw.cell hT2 (by first | omega | (simp; done) | (simp; omega)) (by first | omega | (simp; done) | (simp; omega))
              replace hT3 := hSw.cell hT3 (by first | omega | (simp; done) | (simp; omega)) (by first | omega | (simp; done) | (simp; omega))
              go_simp
              (try with_reducible rfl)
            (try simp only [Act.put, List.setIfInBounds_toArray, List.set_cons_zero, List.set_cons_succ])
            refine wpAnyH_take (i := 16) (oi := ?oox20) (v := ?vvx20) ?hix20 (by kernel_rfl) (by kernel_rfl) (by kernel_rfl) ?hqx20 (Or.inl ⟨?hgx20, ?hyx20⟩) (by assumption) ?restx20
            case hix20 => simp only [List.getElem?_toArray, List.getElem?_cons_zero, List.getElem?_cons_succ]; rfl
            case hqx20 => exact fun _ _ _ h => h
            case hgx20 => rfl
            case hyx20 =>
              intro wq hSw
              replace hx0 := hSw.cell hx0 (by first | omega | (simp; done) | (simp; omega)) (by first | omega | (simp; done) | (simp; omega))
              replace hx1 := hSw.cell hx1 (by first | omega | (simp; done) | (simp; omega)) (by first | omega | (simp; done) | (simp; omega))
              replace hT1 := hSw.cell hT1 (by first | omega | (simp; done) | (simp; omega)) (by first | omega | (simp; done) | (simp; omega))
              replace hT2 := hSw.cell hT2 (by first | omega | (simp; done) | (simp; omega)) (by first | omega | (simp; done) | (simp; omega))
              replace hT3 := hSw.cell hT3 (by first | omega | (simp; done) | (simp; omega)) (by first | omega | (simp; done) | (simp; omega))
              go_simp
              (try with_reducible rfl)
            (try simp only [Act.put, List.setIfInBounds_toArray, List.set_cons_zero, List.set_cons_succ])
            refine wpAnyH_take (i := 17) (oi := ?oox21) (v := ?vvx21) ?hix21 (by kernel_rfl) (by kernel_rfl) (by kernel_rfl) ?hqx21 (Or.inl ⟨?hgx21, ?hyx21⟩) (by assumption) ?restx21
            case hix21 => simp only [List.getElem?_toArray, List.getElem?_cons_zero, List.getElem?_cons_succ]; rfl
            case hqx21 => exact fun _ _ _ h => h
            case hgx21 => rfl
            case hyx21 =>
              intro wq hSw
              replace hx0 := hSw.cell hx0 (by first | omega | (simp; done) | (simp; omega)) (by first | omega | (simp; done) | (simp; omega))
              replace hx1 := hSw.cell hx1 (by first | omega | (simp; done) | (simp; omega)) (by first | omega | (simp; done) | (simp; omega))
              replace hT1 := hSw.cell hT1 (by first | omega | (simp; done) | (simp; omega)) (by first | omega | (simp; done) | (simp; omega))
              replace hT2 := hSw.cell hT2 (by first | omega | (simp; done) | (simp; omega)) (by first | omega | (simp; done) | (simp; omega))
              replace hT3 := hSw.cell hT3 (by first | omega | (simp; done) | (simp; omega)) (by first | omega | (simp; done) | (simp; omega))
              go_simp
              (try with_reducible rfl)
            (try simp only [Act.put, List.setIfInBounds_toArray, List.set_cons_zero, List.set_cons_succ])
            refine wpAnyH_take (i := 18) (oi := ?oox22) (v := ?vvx22) ?hix22 (by kernel_rfl) (by kernel_rfl) (by kernel_rfl) ?hqx22 (Or.inl ⟨?hgx22, ?hyx22⟩) (by assumption) ?restx22
            case hix22 => simp only [List.getElem?_toArray, List.getElem?_cons_zero, List.getElem?_cons_succ]; rfl
            case hqx22 => exact fun _ _ _ h => h
            case hgx22 => rfl
            case hyx22 =>
              intro wq hSw
              replace hx0 := hSw.cell hx0 (by first | omega | (simp; done) | (simp; omega)) (by first | omega | (simp; done) | (simp; omega))
              replace hx1 := hSw.cell hx1 (by first | omega | (simp; done) | (simp; omega)) (by first | omega | (simp; done) | (simp; omega))
              replace hT1 := hSw.cell hT1 (by first | omega | (simp; done) | (simp; omega)) (by first | omega | (simp; done) | (simp; omega))
              replace hT2 := hSw.cell hT2 (by first | omega | (simp; done) | (simp; omega)) (by first | omega | (simp; done) | (simp; omega))
              replace hT3 := hSw.cell hT3 (by first | omega | (simp; done) | (simp; omega)) (by first | omega | (simp; done) | (simp; omega))
              go_simp
              (try with_reducible rfl)
            (try simp only [Act.put, List.setIfInBounds_toArray, List.set_cons_zero, List.set_cons_succ])
            refine wpAnyH_ready (rs := [22]) (by kernel_rfl) (by simp) ?_
            refine AllReadyH.cons (i := 22) (o := ?oox23) ?hox23 (fun K hK => ?hstepx23) AllReadyH.nil
            case hox23 => simp only [List.getElem?_toArray, List.getElem?_cons_zero, List.getElem?_cons_succ]; rfl
            go_simp
            refine (HC.out _).mono ?_
            rintro e1 wz ⟨rfl, hb⟩
            go_wp2_with fail
            refine hK.out _ _ (hHeld.post hb) (fun _ => ?_)
            clear hK K
            (try simp only [Act.put, List.setIfInBounds_toArray, List.set_cons_zero, List.set_cons_succ])
            refine wpAnyH_mono (S' := fun w' => KeptBut wz w' (w.heap.size + 1) (w.heap.size + 1)) (fun _ h => (hHeld.post hb).trans2 h) _ _ _ _ ?_
            replace hx0 := keep_cell hb hx0
            replace hx1 := keep_cell hb hx1
            replace hT1 := keep_cell hb hT1
            replace hT2 := keep_cell hb hT2
            replace hT3 := keep_cell hb hT3
            replace hf0 := keep_froz2 hb hr0 hf0
            replace hf1 := keep_froz2 hb hr1 hf1
            replace hr0 := keep_cell hb hr0
            replace hr1 := keep_cell hb hr1
            replace hw := keep_below hb hw
            clear hHeld hb
            have hHeld : KeptBut wz wz (w.heap.size + 1) (w.heap.size + 1) := (KeptBut.refl2 _ _)
            refine wpAnyH_ready (rs := [23]) (by kernel_rfl) (by simp) ?_
            refine AllReadyH.cons (i := 23) (o := ?oox24) ?hox24 (fun K hK => ?hstepx24) AllReadyH.nil
            case hox24 => simp only [List.getElem?_toArray, List.getElem?_cons_zero, List.getElem?_cons_succ]; rfl
            go_simp
            refine (HK.out _).mono ?_
            rintro e1 wz ⟨rfl, hb⟩
            go_wp2_with fail
            refine hK.out _ _ (hHeld.post hb) (fun _ => ?_)
            clear hK K
            (try simp only [Act.put, List.setIfInBounds_toArray, List.set_cons_zero, List.set_cons_succ])
            refine wpAnyH_mono (S' := fun w' => KeptBut wz w' (w.heap.size + 1) (w.heap.size + 1)) (fun _ h => (hHeld.post hb).trans2 h) _ _ _ _ ?_
            replace hx0 := keep_cell hb hx0
            replace hx1 := keep_cell hb hx1
            replace hT1 := keep_cell hb hT1
            replace hT2 := keep_cell hb hT2
            replace hT3 := keep_cell hb hT3
            replace hf0 := keep_froz2 hb hr0 hf0
            replace hf1 := keep_froz2 hb hr1 hf1
            replace hr0 := keep_cell hb hr0
            replace hr1 := keep_cell hb hr1
            replace hw := keep_below hb hw
            clear hHeld hb
            have hHeld : KeptBut wz wz (w.heap.size + 1) (w.heap.size + 1) := (KeptBut.refl2 _ _)
            refine wpAnyH_take (i := 24) (oi := ?oox25) (v := ?vvx25) ?hix25 (by kernel_rfl) (by kernel_rfl) (by kernel_rfl) ?hqx25 (Or.inl ⟨?hgx25, ?hyx25⟩) (by assumption) ?restx25
            case hix25 => simp only [List.getElem?_toArray, List.getElem?_cons_zero, List.getElem?_cons_succ]; rfl
            case hqx25 => exact fun _ _ _ h => h
            case hgx25 => rfl
            case hyx25 =>
              intro wq hSw
              replace hx0 := hSw.cell hx0 (by first | omega | (simp; done) | (simp; omega)) (by first | omega | (simp; done) | (simp; omega))
              replace hx1 := hSw.cell hx1 (by first | omega | (simp; done) | (simp; omega)) (by first | omega | (simp; done) | (simp; omega))
              replace hT1 := hSw.cell hT1 (by first | omega | (simp; done) | (simp; omega)) (by first | omega | (simp; done) | (simp; omega))
              replace hT2 := hSw.cell hT2 (by first | omega | (simp; done) | (simp; omega)) (by first | omega | (simp; done) | (simp; omega))
              replace hT3 := hSw.cell hT3 (by first | omega | (simp; done) | (simp; omega)) (by first | omega | (simp; done) | (simp; omega))
              go_simp
              (try with_reducible rfl)
            (try simp only [Act.put, List.setIfInBounds_toArray, List.set_cons_zero, List.set_cons_succ])
            refine wpAnyH_take (i := 25) (oi := ?oox26) (v := ?vvx26) ?hix26 (by kernel_rfl) (by kernel_rfl) (by kernel_rfl) ?hqx26 (Or.inl ⟨?hgx26, ?hyx26⟩) (by assumption) ?restx26
            case hix26 => simp only [List.getElem?_toArray, List.getElem?_cons_zero, List.getElem?_cons_succ]; rfl
            case hqx26 => exact fun _ _ _ h => h
            case hgx26 => rfl
            case hyx26 =>
              intro wq hSw
              replace hx0 := hSw.cell hx0 (by first | omega | (simp; done) | (simp; omega)) (by first | omega | (simp; done) | (simp; omega))
              replace hx1 := hSw.cell hx1 (by first | omega | (simp; done) | (simp; omega)) (by first | omega | (simp; done) | (simp; omega))
              replace hT1 := hSw.cell hT1 (by first | omega | (simp; done) | (simp; omega)) (by first | omega | (simp; done) | (simp; omega))
              replace hT2 := hSw.cell hT2 (by first | omega | (simp; done) | (simp; omega)) (by first | omega | (simp; done) | (simp; omega))
              replace hT3 := hSw.cell hT3 (by first | omega | (simp; done) | (simp; omega)) (by first | omega | (simp; done) | (simp; omega))
              go_simp
              (try with_reducible rfl)
            (try simp only [Act.put, List.setIfInBounds_toArray, List.set_cons_zero, List.set_cons_succ])
            refine wpAnyH_ready (rs := [26]) (by kernel_rfl) (by simp) ?_
            refine AllReadyH.cons (i := 26) (o := ?oox27) ?hox27 (fun K hK => ?hstepx27) AllReadyH.nil
            case hox27 => simp only [List.getElem?_toArray, List.getElem?_cons_zero, List.getElem?_cons_succ]; rfl
            go_simp
            refine hK.out _ _ (((KeptBut.refl2 _ _).setg _ _).setg _ _) (fun hHeld2 => ?_)
            clear hK K
            (try simp only [Act.put, List.setIfInBounds_toArray, List.set_cons_zero, List.set_cons_succ])
            refine wpAnyH_take (i := 27) (oi := ?oox28) (v := ?vvx28) ?hix28 (by kernel_rfl) (by kernel_rfl) (by kernel_rfl) ?hqx28 (Or.inl ⟨?hgx28, ?hyx28⟩) (by assumption) ?restx28
            case hix28 => simp only [List.getElem?_toArray, List.getElem?_cons_zero, List.getElem?_cons_succ]; rfl
            case hqx28 => exact fun _ _ _ h => h
            case hgx28 => rfl
            case hyx28 =>
              intro wq hSw
              replace hx0 := hSw.cell hx0 (by first | omega | (simp; done) | (simp; omega)) (by first | omega | (simp; done) | (simp; omega))
              replace hx1 := hSw.cell hx1 (by first | omega | (simp; done) | (simp; omega)) (by first | omega | (simp; done) | (simp; omega))
              replace hT1 := hSw.cell hT1 (by first | omega | (simp; done) | (simp; omega)) (by first | omega | (simp; done) | (simp; omega))
              replace hT2 := hSw.cell hT2 (by first | omega | (simp; done) | (simp; omega)) (by first | omega | (simp; done) | (simp; omega))
              replace hT3 := hSw.cell hT3 (by first | omega | (simp; done) | (simp; omega)) (by first | omega | (simp; done) | (simp; omega))
              go_simp
              (try with_reducible rfl)
            (try simp only [Act.put, List.setIfInBounds_toArray, List.set_cons_zero, List.set_cons_succ])
            clear hHeld
            refine wpAnyH_done (by kernel_rfl) ?_ _
            go_wp2
            refine bodyPost_ret (v := .tuple #[.agg #[.int .i64 N, .int .i64 M], .bool O]) (by simp (maxDischargeDepth := 9) [results, Try.results68, go_sem, *]) rfl ⟨rfl, ?_⟩
            (repeat (first | with_reducible exact Below.refl _ _ | with_reducible assumption | with_reducible refine Below.alloc' ?_ ?_ _ | with_reducible refine Below.setCell' ?_ ?_ _ | with_reducible refine Below.drewN' ?_ _ | with_reducible refine Below.drew ?_ | with_reducible refine Below.transA ?_ (by assumption) ?_ | omega | (focus (simp; done)) | (focus (simp; omega))))
set_option maxHeartbeats 2000000 in
set_option maxRecDepth 100000 in
theorem covariance_good (A B : Option Addr) (c e : Nat) (xs ys : List Int) (P : Option Addr) (cp : Nat) (ps : List Int) (Q : Option Addr) (cq : Nat) (qs : List Int) (w : World) (hg : good xs ys = true) (q2 : payB xs ps = true) (q3 : payB xs qs = true) (h : IntS w A xs) (k : IntS w B ys) (zp : IntS w P ps) (zq : IntS w Q qs) :
    Calls Try.prog 127 #[.agg #[.slice A xs.length c, .slice B ys.length e], .slice P ps.length cp, .slice Q qs.length cq] w (RetAB w (lowN (covA xs ys ps qs) (covB xs ys)) (lowM (covA xs ys ps qs) (covB xs ys)) (lowOk (covA xs ys ps qs) (covB xs ys))) := by
  have hpp := (pay_iff q2).2
  have hqq := (pay_iff q3).2
  have lp1 := (pay_iff q2).1
  have lq1 := (pay_iff q3).1
  have hel := ends_len xs
  have hgl := good_len hg
  have hcb := cov_bd hg q2 q3
  have HL : Hid (1 ≤ (sumsL xs ys).length) := by have := sums_len hg; show 1 ≤ _; omega
  have HTL : Hid (∀ vs, (totL xs ys vs).length = xs.length) := fun vs => tot_len
  have HSu := Lib.hid (fun W (h : IntS W A xs) (k : IntS W B ys) => sums_good hg A B c e W h k)
  have HSP := Lib.hid (fun W (h : IntS W A xs) (k : IntS W B ys) (z : IntS W P ps) => spread_any hg A B P c e cp ps W h k z lp1 999 (by omega) (fun j => by have := hpp j; omega))
  have HSQ := Lib.hid (fun W (h : IntS W A xs) (k : IntS W B ys) (z : IntS W Q qs) => spread_any hg A B Q c e cq qs W h k z lq1 999 (by omega) (fun j => by have := hqq j; omega))
  have HSO := Lib.hid (fun W (R : Option Addr) (cr : Nat) (h : IntS W A xs) (k : IntS W B ys) (z : IntS W R (prdL ps qs ps.length)) => spread_any hg A B R c e cr (prdL ps qs ps.length) W h k z (by rw [prdL_len]; exact lp1) 998001 (by omega) (prdL_bd hpp hqq _))
  have HTP := Lib.hid (fun W (R : Option Addr) (cr : Nat) (h : IntS W A xs) (z : IntS W R (sprL xs.length ys (endsL xs) ps (endsL xs).length)) => gath_good hg A B R c e cr ps W h 999 (by omega) (fun j => by have := hpp j; omega) z)
  have HTQ := Lib.hid (fun W (R : Option Addr) (cr : Nat) (h : IntS W A xs) (z : IntS W R (sprL xs.length ys (endsL xs) qs (endsL xs).length)) => gath_good hg A B R c e cr qs W h 999 (by omega) (fun j => by have := hqq j; omega) z)
  have HTO := Lib.hid (fun W (R : Option Addr) (cr : Nat) (h : IntS W A xs) (z : IntS W R (sprL xs.length ys (endsL xs) (prdL ps qs ps.length) (endsL xs).length)) => gath_good hg A B R c e cr (prdL ps qs ps.length) W h 998001 (by omega) (prdL_bd hpp hqq _) z)
  generalize sprL xs.length ys (endsL xs) ps (endsL xs).length = FP at *
  generalize sprL xs.length ys (endsL xs) qs (endsL xs).length = FQ at *
  generalize sprL xs.length ys (endsL xs) (prdL ps qs ps.length) (endsL xs).length = FO at *
  have HPL := Lib.hid (fun k => prdL_len ps qs k)
  have HPS := Lib.hid (fun k => prdL_succ ps qs k)
  have HP0 : Hid (prdL ps qs 0 = []) := rfl
  have HPB := Lib.hid (fun j => And.intro (hpp j) (hqq j))
  have HN1 : Hid (1 ≤ xs.length) := hgl.1
  have HSL : Hid ((sumsL xs ys).length = xs.length) := sums_len hg
  have lpb : ps.length ≤ 24 := by omega
  have lqp : Hid (qs.length = ps.length) := by show _ = _; rw [lp1, lq1]
  unfold covA covB
  generalize sumsL xs ys = S at *
  obtain ⟨TO, eO⟩ : ∃ T, totL xs ys (prdL ps qs ps.length) = T := ⟨_, rfl⟩
  obtain ⟨TP, eP⟩ : ∃ T, totL xs ys ps = T := ⟨_, rfl⟩
  obtain ⟨TQ, eQ⟩ : ∃ T, totL xs ys qs = T := ⟨_, rfl⟩
  have HTLO := HTL.out (prdL ps qs ps.length)
  have HTLP := HTL.out ps
  have HTLQ := HTL.out qs
  rw [eO] at HTO hcb HTLO ⊢
  rw [eP] at HTP hcb HTLP ⊢
  rw [eQ] at HTQ hcb HTLQ ⊢
  obtain ⟨v1, v2, v3, v4, v5⟩ := hcb
  have HLO : Hid (1 ≤ TO.length) := by show 1 ≤ _; rw [HTLO]; exact hgl.1
  have HLP : Hid (1 ≤ TP.length) := by show 1 ≤ _; rw [HTLP]; exact hgl.1
  have HLQ : Hid (1 ≤ TQ.length) := by show 1 ≤ _; rw [HTLQ]; exact hgl.1
  have b1 := mul_bd (A := 479040480) (D := 480) (a := nth TO 0) (d := nth S 0) v1 (by omega)
  have b2 := mul_bd (A := 479520) (D := 479520) (a := nth TP 0) (d := nth TQ 0) v2 v3
  have b3 := mul_bd (A := 480) (D := 480) (a := nth S 0) (d := nth S 0) (by omega) (by omega)
  have b4 : 1 ≤ nth S 0 * nth S 0 := by have := Int.mul_le_mul (a := 1) (b := 1) (c := nth S 0) (d := nth S 0) v4 v4 (by omega) (by omega); omega
  have u1 : IntKind.i64.wrap (nth TO 0 * nth S 0) = nth TO 0 * nth S 0 := IntWalk.i64_in _ (by omega)
  have u2 : IntKind.i64.wrap (nth TP 0 * nth TQ 0) = nth TP 0 * nth TQ 0 := IntWalk.i64_in _ (by omega)
  have u3 : IntKind.i64.wrap (nth S 0 * nth S 0) = nth S 0 * nth S 0 := IntWalk.i64_in _ (by omega)
  have u4 : IntKind.i64.wrap (nth TO 0 * nth S 0 - nth TP 0 * nth TQ 0) = nth TO 0 * nth S 0 - nth TP 0 * nth TQ 0 := IntWalk.i64_in _ (by omega)
  have HC := Lib.hid (fun W => lowest_any (nth TO 0 * nth S 0 - nth TP 0 * nth TQ 0) (nth S 0 * nth S 0) W (by omega) (by omega) (by omega))
  clear hpp hqq lp1 lq1 hel hgl HTL eO eP eQ HTLO HTLP HTLQ v1 v2 v3 v4 v5 b1 b2 b3 b4
  generalize lowN (nth TO 0 * nth S 0 - nth TP 0 * nth TQ 0) (nth S 0 * nth S 0) = N at *
  generalize lowM (nth TO 0 * nth S 0 - nth TP 0 * nth TQ 0) (nth S 0 * nth S 0) = M at *
  generalize lowOk (nth TO 0 * nth S 0 - nth TP 0 * nth TQ 0) (nth S 0 * nth S 0) = O at *
  clear hg q2 q3
  obtain ⟨i0, hi, hz0, hz1, hz2⟩ := info_parts info_int
  go_enter Try.func127, Try.ntmps127
  go_wp2
  go_loopw [8, 18] (fun v i wr => ∃ j : Nat, j ≤ ps.length ∧ i = .int .i64 j ∧ wr.ownsRow (w.heap.size + 1) 3 1 v (prdL ps qs j).length (i64s (prdL ps qs j)) ∧ v.ownBlock ≠ some (w.heap.size + 1) ∧ wr.cell? ⟨w.heap.size, 0, none⟩ = some (.slice A xs.length c) ∧ wr.cell? ⟨w.heap.size, 1, none⟩ = some (.slice B ys.length e) ∧ wr.cell? ⟨w.heap.size + 1, 0, none⟩ = some (.int .i64 0) ∧ wr.cell? ⟨w.heap.size + 1, 1, none⟩ = some (.int .i64 0) ∧ wr.frozen? ⟨w.heap.size + 1, 0, none⟩ = false ∧ wr.frozen? ⟨w.heap.size + 1, 1, none⟩ = false ∧ Below w.heap.size w wr) (fun _ i _ => ps.length - (intOf i).toNat)
  case atStart =>
    obtain ⟨t0, t1, t2, t3, t4, t5⟩ := alloc3 w (.slice A xs.length c) (.slice B ys.length e) (.int .i64 0) (.int .i64 0) 28 43 (.cells #[] 3) rfl
    exact ⟨0, by omega, rfl, own_empty _ _ _ (by simp) (by simp), (by simp [Value.ownBlock]), t0, t1, t2, t3, t4, t5, by (repeat (first | with_reducible exact Below.refl _ _ | with_reducible assumption | with_reducible refine Below.alloc' ?_ ?_ _ | with_reducible refine Below.setCell' ?_ ?_ _ | with_reducible refine Below.drewN' ?_ _ | with_reducible refine Below.drew ?_ | with_reducible refine Below.transA ?_ (by assumption) ?_ | omega | (focus (simp; done)) | (focus (simp; omega))))⟩
  case round =>
    skip
    obtain ⟨j, hj, rfl, hown, hne, hx0, hx1, hr0, hr1, hf0, hf1, hw⟩ := hrel
    have hlen := HPL.out j
    have hlx := World.block_lt_of_cell? _ _ hr0
    replace hlx : w.heap.size + 1 < wr.heap.size := hlx
    by_cases hlt : j < ps.length
    · obtain ⟨b1, o1, rfl, hcp⟩ := zp.at_ (j := j) hlt
      obtain ⟨b2, o2, rfl, hcq⟩ := zq.at_ (j := j) (by rw [lqp.out]; exact hlt)
      have l1 : b1 < w.heap.size := World.block_lt_of_cell? _ _ hcp
      have l2 : b2 < w.heap.size := World.block_lt_of_cell? _ _ hcq
      replace hcp := (hw.cell l1).trans hcp
      replace hcq := (hw.cell l2).trans hcq
      have hb := HPB.out j
      have hps := HPS.out j
      have hpi : (j : Int) < ps.length := by omega
      have hqi : (j : Int) < qs.length := by rw [lqp.out]; omega
      obtain ⟨x, hx⟩ : ∃ x, nth ps j = x := ⟨_, rfl⟩
      obtain ⟨y, hy⟩ : ∃ y, nth qs j = y := ⟨_, rfl⟩
      rw [hx, hy] at hps hb
      rw [hx] at hcp
      rw [hy] at hcq
      have hmb := mul_bd (A := 999) (D := 999) hb.1 hb.2
      obtain ⟨m, hm⟩ : ∃ m, x * y = m := ⟨_, rfl⟩
      have u9 : IntKind.i64.wrap (x * y) = m := by rw [hm]; exact IntWalk.i64_in _ (by omega)
      have u8 : IntKind.i64.wrap m = m := IntWalk.i64_in _ (by omega)
      rw [hm] at hps
      have HPX : Hid (i64s (prdL ps qs (j + 1)) = i64s (prdL ps qs j) ++ [Value.int .i64 m] ∧ (prdL ps qs (j + 1)).length = (prdL ps qs j).length + 1) := by rw [hps]; exact ⟨i64s_app _ _, by simp⟩
      have hlen2 : (prdL ps qs j).length ≤ 24 := by rw [hlen]; omega
      clear hx hy hb hps hlen u1 u2 u3 u4 
      generalize prdL ps qs j = L at *
      have W0 : w.heap.size + 1 < wr.heap.size := hlx
      go_wp2_with (at_builtin; (refine wpList_append_own_at _ rfl _ _ 22 rfl (w.heap.size + 1) 3 i0 (.int .i64 0) 1 8 Try.underlying22 hi hz0 hz1 hz2 rfl (by decide) _ _ _ rfl (hown.alloc _) ⟨wr.heap.size, 0, none⟩ 1 1 [.int .i64 (m)] rfl rfl (cell_one_new _ _ _) (by simp [Value.oneCell']) (by unfold maxLen; omega) (by omega) (by simp; omega) ?_); intro v' w1 hown1 hgrow _ hat)
      have hq0 := grown_cell hgrow (p := ⟨w.heap.size, 0, none⟩) (by rw [World.cell?_alloc_lt _ _ _ (show w.heap.size < wr.heap.size by omega)]; exact hx0) (own_ne (g := w.heap.size) hown (by omega))
      have hq1 := grown_cell hgrow (p := ⟨w.heap.size, 1, none⟩) (by rw [World.cell?_alloc_lt _ _ _ (show w.heap.size < wr.heap.size by omega)]; exact hx1) (own_ne (g := w.heap.size) hown (by omega))
      have hq2 := grown_cell hgrow (p := ⟨w.heap.size + 1, 0, none⟩) (by rw [World.cell?_alloc_lt _ _ _ (show w.heap.size + 1 < wr.heap.size by omega)]; exact hr0) hne
      have hq3 := grown_cell hgrow (p := ⟨w.heap.size + 1, 1, none⟩) (by rw [World.cell?_alloc_lt _ _ _ (show w.heap.size + 1 < wr.heap.size by omega)]; exact hr1) hne
      have hq4 : w1.frozen? ⟨w.heap.size + 1, 0, none⟩ = false := (hgrow.frozen_far ⟨w.heap.size + 1, 0, none⟩ (by show w.heap.size + 1 < _; simp; omega) (fun e => hne e.symm)).trans ((((Below.refl wr.heap.size wr).alloc (Nat.le_refl _) _).frozen (show w.heap.size + 1 < wr.heap.size by omega)).trans hf0)
      have hq5 : w1.frozen? ⟨w.heap.size + 1, 1, none⟩ = false := (hgrow.frozen_far ⟨w.heap.size + 1, 1, none⟩ (by show w.heap.size + 1 < _; simp; omega) (fun e => hne e.symm)).trans ((((Below.refl wr.heap.size wr).alloc (Nat.le_refl _) _).frozen (show w.heap.size + 1 < wr.heap.size by omega)).trans hf1)
      have hb3 : Below w.heap.size w w1 := Below.grown (hw.alloc hw.size _) hgrow (by have := hw.size; simp; omega) (fun g hg => by have := (hown.lt g hg).1; omega)
      have hne1 : v'.ownBlock ≠ some (w.heap.size + 1) := by
        rcases hat with e | e
        · rw [e]; exact hne
        · rw [e]; simp; omega
      rw [← HPX.out.1, ← HPX.out.2] at hown1
      clear hown hgrow hw HPX hx0 hx1 hr0 hr1 hf0 hf1 hne hat
      go_wp2
      go_roundw
      case rel => exact ⟨j + 1, by omega, by go_num, hown1, hne1, hq0, hq1, hq2, hq3, hq4, hq5, hb3⟩
      case measure => simp only [intOf]; omega
    · have hje : j = ps.length := by omega
      rw [hje] at hown
      obtain ⟨A', c', rfl, hO⟩ := own_form hown
      have hpr := hO.ints
      clear hown hO hlen
      have hli : (prdL ps qs ps.length).length ≤ 24 := by rw [HPL.out]; exact lpb
      subst hje
      go_wp2_with fail
      refine (HSu.out _ (h.below hw) (k.below hw)).mono ?_
      rintro e1 wa ⟨As, cs, rfl, hos, hb⟩
      obtain ⟨gs, rfl, hgs, hrs⟩ := hos.pos HL.out
      have hS0 := hrs.cell (j := 0) HL.out
      have hl0 : 0 < S.length := HL.out
      replace hf0 := keep_froz2 hb hr0 hf0
      replace hf1 := keep_froz2 hb hr1 hf1
      replace hx0 := keep_cell hb hx0
      replace hx1 := keep_cell hb hx1
      replace hr0 := keep_cell hb hr0
      replace hr1 := keep_cell hb hr1
      replace hpr := hpr.below hb
      replace hw := keep_below hb hw
      clear hb hos hrs
      go_wp2
      refine wp_region_held_drew (S := fun w' => Below wa.heap.size wa w') (by kernel_rfl) ((Below.refl _ _)).drew (fun hHeld => ?_)
      replace hw := hw.drew
      refine wpAnyH_take (i := 0) (oi := ?ooy1) (v := ?vvy1) ?hiy1 (by kernel_rfl) (by kernel_rfl) (by kernel_rfl) ?hqy1 (Or.inl ⟨?hgy1, ?hyy1⟩) (by assumption) ?resty1
      case hiy1 => simp only [List.getElem?_toArray, List.getElem?_cons_zero, List.getElem?_cons_succ]; rfl
      case hqy1 => exact fun _ _ _ h => h
      case hgy1 => rfl
      case hyy1 =>
        intro wq hSw
        replace hx0 := keep_cell hSw hx0
        replace hx1 := keep_cell hSw hx1
        replace hr0 := keep_cell hSw hr0
        replace hr1 := keep_cell hSw hr1
        go_simp
        (try with_reducible rfl)
      (try simp only [Act.put, List.setIfInBounds_toArray, List.set_cons_zero, List.set_cons_succ])
      refine wpAnyH_take (i := 1) (oi := ?ooy2) (v := ?vvy2) ?hiy2 (by kernel_rfl) (by kernel_rfl) (by kernel_rfl) ?hqy2 (Or.inl ⟨?hgy2, ?hyy2⟩) (by assumption) ?resty2
      case hiy2 => simp only [List.getElem?_toArray, List.getElem?_cons_zero, List.getElem?_cons_succ]; rfl
      case hqy2 => exact fun _ _ _ h => h
      case hgy2 => rfl
      case hyy2 =>
        intro wq hSw
        replace hx0 := keep_cell hSw hx0
        replace hx1 := keep_cell hSw hx1
        replace hr0 := keep_cell hSw hr0
        replace hr1 := keep_cell hSw hr1
        go_simp
        (try with_reducible rfl)
      (try simp only [Act.put, List.setIfInBounds_toArray, List.set_cons_zero, List.set_cons_succ])
      refine wpAnyH_take (i := 2) (oi := ?ooy3) (v := ?vvy3) ?hiy3 (by kernel_rfl) (by kernel_rfl) (by kernel_rfl) ?hqy3 (Or.inl ⟨?hgy3, ?hyy3⟩) (by assumption) ?resty3
      case hiy3 => simp only [List.getElem?_toArray, List.getElem?_cons_zero, List.getElem?_cons_succ]; rfl
      case hqy3 => exact fun _ _ _ h => h
      case hgy3 => rfl
      case hyy3 =>
        intro wq hSw
        replace hx0 := keep_cell hSw hx0
        replace hx1 := keep_cell hSw hx1
        replace hr0 := keep_cell hSw hr0
        replace hr1 := keep_cell hSw hr1
        go_simp
        (try with_reducible rfl)
      (try simp only [Act.put, List.setIfInBounds_toArray, List.set_cons_zero, List.set_cons_succ])
      refine wpAnyH_take (i := 7) (oi := ?ooy4) (v := ?vvy4) ?hiy4 (by kernel_rfl) (by kernel_rfl) (by kernel_rfl) ?hqy4 (Or.inl ⟨?hgy4, ?hyy4⟩) (by assumption) ?resty4
      case hiy4 => simp only [List.getElem?_toArray, List.getElem?_cons_zero, List.getElem?_cons_succ]; rfl
      case hqy4 => exact fun _ _ _ h => h
      case hgy4 => rfl
      case hyy4 =>
        intro wq hSw
        replace hx0 := keep_cell hSw hx0
        replace hx1 := keep_cell hSw hx1
        replace hr0 := keep_cell hSw hr0
        replace hr1 := keep_cell hSw hr1
        go_simp
        (try with_reducible rfl)
      (try simp only [Act.put, List.setIfInBounds_toArray, List.set_cons_zero, List.set_cons_succ])
      refine wpAnyH_take (i := 8) (oi := ?ooy5) (v := ?vvy5) ?hiy5 (by kernel_rfl) (by kernel_rfl) (by kernel_rfl) ?hqy5 (Or.inl ⟨?hgy5, ?hyy5⟩) (by assumption) ?resty5
      case hiy5 => simp only [List.getElem?_toArray, List.getElem?_cons_zero, List.getElem?_cons_succ]; rfl
      case hqy5 => exact fun _ _ _ h => h
      case hgy5 => rfl
      case hyy5 =>
        intro wq hSw
        replace hx0 := keep_cell hSw hx0
        replace hx1 := keep_cell hSw hx1
        replace hr0 := keep_cell hSw hr0
        replace hr1 := keep_cell hSw hr1
        go_simp
        (try with_reducible rfl)
      (try simp only [Act.put, List.setIfInBounds_toArray, List.set_cons_zero, List.set_cons_succ])
      refine wpAnyH_take (i := 9) (oi := ?ooy6) (v := ?vvy6) ?hiy6 (by kernel_rfl) (by kernel_rfl) (by kernel_rfl) ?hqy6 (Or.inl ⟨?hgy6, ?hyy6⟩) (by assumption) ?resty6
      case hiy6 => simp only [List.getElem?_toArray, List.getElem?_cons_zero, List.getElem?_cons_succ]; rfl
      case hqy6 => exact fun _ _ _ h => h
      case hgy6 => rfl
      case hyy6 =>
        intro wq hSw
        replace hx0 := keep_cell hSw hx0
        replace hx1 := keep_cell hSw hx1
        replace hr0 := keep_cell hSw hr0
        replace hr1 := keep_cell hSw hr1
        go_simp
        (try with_reducible rfl)
      (try simp only [Act.put, List.setIfInBounds_toArray, List.set_cons_zero, List.set_cons_succ])
      refine wpAnyH_take (i := 14) (oi := ?ooy7) (v := ?vvy7) ?hiy7 (by kernel_rfl) (by kernel_rfl) (by kernel_rfl) ?hqy7 (Or.inl ⟨?hgy7, ?hyy7⟩) (by assumption) ?resty7
      case hiy7 => simp only [List.getElem?_toArray, List.getElem?_cons_zero, List.getElem?_cons_succ]; rfl
      case hqy7 => exact fun _ _ _ h => h
      case hgy7 => rfl
      case hyy7 =>
        intro wq hSw
        replace hx0 := keep_cell hSw hx0
        replace hx1 := keep_cell hSw hx1
        replace hr0 := keep_cell hSw hr0
        replace hr1 := keep_cell hSw hr1
        go_simp
        (try with_reducible rfl)
      (try simp only [Act.put, List.setIfInBounds_toArray, List.set_cons_zero, List.set_cons_succ])
      refine wpAnyH_take (i := 15) (oi := ?ooy8) (v := ?vvy8) ?hiy8 (by kernel_rfl) (by kernel_rfl) (by kernel_rfl) ?hqy8 (Or.inl ⟨?hgy8, ?hyy8⟩) (by assumption) ?resty8
      case hiy8 => simp only [List.getElem?_toArray, List.getElem?_cons_zero, List.getElem?_cons_succ]; rfl
      case hqy8 => exact fun _ _ _ h => h
      case hgy8 => rfl
      case hyy8 =>
        intro wq hSw
        replace hx0 := keep_cell hSw hx0
        replace hx1 := keep_cell hSw hx1
        replace hr0 := keep_cell hSw hr0
        replace hr1 := keep_cell hSw hr1
        go_simp
        (try with_reducible rfl)
      (try simp only [Act.put, List.setIfInBounds_toArray, List.set_cons_zero, List.set_cons_succ])
      refine wpAnyH_take (i := 16) (oi := ?ooy9) (v := ?vvy9) ?hiy9 (by kernel_rfl) (by kernel_rfl) (by kernel_rfl) ?hqy9 (Or.inl ⟨?hgy9, ?hyy9⟩) (by assumption) ?resty9
      case hiy9 => simp only [List.getElem?_toArray, List.getElem?_cons_zero, List.getElem?_cons_succ]; rfl
      case hqy9 => exact fun _ _ _ h => h
      case hgy9 => rfl
      case hyy9 =>
        intro wq hSw
        replace hx0 := keep_cell hSw hx0
        replace hx1 := keep_cell hSw hx1
        replace hr0 := keep_cell hSw hr0
        replace hr1 := keep_cell hSw hr1
        go_simp
        (try with_reducible rfl)
      (try simp only [Act.put, List.setIfInBounds_toArray, List.set_cons_zero, List.set_cons_succ])
      refine wpAnyH_ready (rs := [3]) (by kernel_rfl) (by simp) ?_
      refine AllReadyH.cons (i := 3) (o := ?ooy10) ?hoy10 (fun K hK => ?hstepy10) AllReadyH.nil
      case hoy10 => simp only [List.getElem?_toArray, List.getElem?_cons_zero, List.getElem?_cons_succ]; rfl
      go_simp
      refine (HSO.out _ _ _ (h.below hw) (k.below hw) hpr).mono ?_
      rintro e1 wz ⟨Af, cf, rfl, hof, hb⟩
      have hif := hof.ints
      clear hof
      clear hpr
      go_wp2_with fail
      refine hK.out _ _ (keep_below hb hHeld) (fun _ => ?_)
      clear hK K
      (try simp only [Act.put, List.setIfInBounds_toArray, List.set_cons_zero, List.set_cons_succ])
      refine wpAnyH_mono (S' := fun w' => Below wz.heap.size wz w') (fun _ h => keep_below h (keep_below hb hHeld)) _ _ _ _ ?_
      replace hw := keep_below hb hw
      replace hf0 := keep_froz2 hb hr0 hf0
      replace hf1 := keep_froz2 hb hr1 hf1
      replace hx0 := keep_cell hb hx0
      replace hx1 := keep_cell hb hx1
      replace hr0 := keep_cell hb hr0
      replace hr1 := keep_cell hb hr1
      clear hHeld hb
      have hHeld : Below wz.heap.size wz wz := (Below.refl _ _)
      refine wpAnyH_ready (rs := [4]) (by kernel_rfl) (by simp) ?_
      refine AllReadyH.cons (i := 4) (o := ?ooy11) ?hoy11 (fun K hK => ?hstepy11) AllReadyH.nil
      case hoy11 => simp only [List.getElem?_toArray, List.getElem?_cons_zero, List.getElem?_cons_succ]; rfl
      go_simp
      have hrz := World.block_lt_of_cell? _ _ hr0
      simp only at hrz
      refine (HTO.out _ _ _ (h.below hw) hif).mono ?_
      rintro e1 wz ⟨A1, c1, rfl, hos, hb⟩
      obtain ⟨g1, rfl, hgs, hrs⟩ := hos.pos HLO.out
      have hT1 := hrs.cell (j := 0) HLO.out
      have hl1 : 0 < TO.length := HLO.out
      have hgr1 : w.heap.size + 1 < g1 := Nat.lt_of_lt_of_le hrz hgs
      clear hrs hos hgs hrz
      clear hif
      go_wp2_with fail
      refine hK.out _ _ (keep_below hb hHeld) (fun _ => ?_)
      clear hK K
      (try simp only [Act.put, List.setIfInBounds_toArray, List.set_cons_zero, List.set_cons_succ])
      refine wpAnyH_mono (S' := fun w' => Below wz.heap.size wz w') (fun _ h => keep_below h (keep_below hb hHeld)) _ _ _ _ ?_
      replace hw := keep_below hb hw
      replace hf0 := keep_froz2 hb hr0 hf0
      replace hf1 := keep_froz2 hb hr1 hf1
      replace hx0 := keep_cell hb hx0
      replace hx1 := keep_cell hb hx1
      replace hr0 := keep_cell hb hr0
      replace hr1 := keep_cell hb hr1
      clear hHeld hb
      have hHeld : Below wz.heap.size wz wz := (Below.refl _ _)
      refine wpAnyH_take (i := 5) (oi := ?ooy12) (v := ?vvy12) ?hiy12 (by kernel_rfl) (by kernel_rfl) (by kernel_rfl) ?hqy12 (Or.inl ⟨?hgy12, ?hyy12⟩) (by assumption) ?resty12
      case hiy12 => simp only [List.getElem?_toArray, List.getElem?_cons_zero, List.getElem?_cons_succ]; rfl
      case hqy12 => exact fun _ _ _ h => h
      case hgy12 => rfl
      case hyy12 =>
        intro wq hSw
        replace hx0 := keep_cell hSw hx0
        replace hx1 := keep_cell hSw hx1
        replace hr0 := keep_cell hSw hr0
        replace hr1 := keep_cell hSw hr1
        replace hT1 := keep_cell hSw hT1
        go_simp
        (try with_reducible rfl)
      (try simp only [Act.put, List.setIfInBounds_toArray, List.set_cons_zero, List.set_cons_succ])
      refine wpAnyH_take (i := 6) (oi := ?ooy13) (v := ?vvy13) ?hiy13 (by kernel_rfl) (by kernel_rfl) (by kernel_rfl) ?hqy13 (Or.inl ⟨?hgy13, ?hyy13⟩) (by assumption) ?resty13
      case hiy13 => simp only [List.getElem?_toArray, List.getElem?_cons_zero, List.getElem?_cons_succ]; rfl
      case hqy13 => exact fun _ _ _ h => h
      case hgy13 => rfl
      case hyy13 =>
        intro wq hSw
        replace hx0 := keep_cell hSw hx0
        replace hx1 := keep_cell hSw hx1
        replace hr0 := keep_cell hSw hr0
        replace hr1 := keep_cell hSw hr1
        replace hT1 := keep_cell hSw hT1
        go_simp
        (try with_reducible rfl)
      (try simp only [Act.put, List.setIfInBounds_toArray, List.set_cons_zero, List.set_cons_succ])
      refine wpAnyH_ready (rs := [10]) (by kernel_rfl) (by simp) ?_
      refine AllReadyH.cons (i := 10) (o := ?ooy14) ?hoy14 (fun K hK => ?hstepy14) AllReadyH.nil
      case hoy14 => simp only [List.getElem?_toArray, List.getElem?_cons_zero, List.getElem?_cons_succ]; rfl
      go_simp
      refine (HSP.out _ (h.below hw) (k.below hw) (zp.below hw)).mono ?_
      rintro e1 wz ⟨Af, cf, rfl, hof, hb⟩
      have hif := hof.ints
      clear hof
      go_wp2_with fail
      refine hK.out _ _ (keep_below hb hHeld) (fun _ => ?_)
      clear hK K
      (try simp only [Act.put, List.setIfInBounds_toArray, List.set_cons_zero, List.set_cons_succ])
      refine wpAnyH_mono (S' := fun w' => Below wz.heap.size wz w') (fun _ h => keep_below h (keep_below hb hHeld)) _ _ _ _ ?_
      replace hw := keep_below hb hw
      replace hf0 := keep_froz2 hb hr0 hf0
      replace hf1 := keep_froz2 hb hr1 hf1
      replace hx0 := keep_cell hb hx0
      replace hx1 := keep_cell hb hx1
      replace hr0 := keep_cell hb hr0
      replace hr1 := keep_cell hb hr1
      replace hT1 := keep_cell hb hT1
      clear hHeld hb
      have hHeld : Below wz.heap.size wz wz := (Below.refl _ _)
      refine wpAnyH_ready (rs := [11]) (by kernel_rfl) (by simp) ?_
      refine AllReadyH.cons (i := 11) (o := ?ooy15) ?hoy15 (fun K hK => ?hstepy15) AllReadyH.nil
      case hoy15 => simp only [List.getElem?_toArray, List.getElem?_cons_zero, List.getElem?_cons_succ]; rfl
      go_simp
      have hrz := World.block_lt_of_cell? _ _ hr0
      simp only at hrz
      refine (HTP.out _ _ _ (h.below hw) hif).mono ?_
      rintro e1 wz ⟨A1, c1, rfl, hos, hb⟩
      obtain ⟨g2, rfl, hgs, hrs⟩ := hos.pos HLP.out
      have hT2 := hrs.cell (j := 0) HLP.out
      have hl2 : 0 < TP.length := HLP.out
      have hgr2 : w.heap.size + 1 < g2 := Nat.lt_of_lt_of_le hrz hgs
      clear hrs hos hgs hrz
      clear hif
      go_wp2_with fail
      refine hK.out _ _ (keep_below hb hHeld) (fun _ => ?_)
      clear hK K
      (try simp only [Act.put, List.setIfInBounds_toArray, List.set_cons_zero, List.set_cons_succ])
      refine wpAnyH_mono (S' := fun w' => Below wz.heap.size wz w') (fun _ h => keep_below h (keep_below hb hHeld)) _ _ _ _ ?_
      replace hw := keep_below hb hw
      replace hf0 := keep_froz2 hb hr0 hf0
      replace hf1 := keep_froz2 hb hr1 hf1
      replace hx0 := keep_cell hb hx0
      replace hx1 := keep_cell hb hx1
      replace hr0 := keep_cell hb hr0
      replace hr1 := keep_cell hb hr1
      replace hT1 := keep_cell hb hT1
      clear hHeld hb
      have hHeld : Below wz.heap.size wz wz := (Below.refl _ _)
      refine wpAnyH_take (i := 12) (oi := ?ooy16) (v := ?vvy16) ?hiy16 (by kernel_rfl) (by kernel_rfl) (by kernel_rfl) ?hqy16 (Or.inl ⟨?hgy16, ?hyy16⟩) (by assumption) ?resty16
      case hiy16 => simp only [List.getElem?_toArray, List.getElem?_cons_zero, List.getElem?_cons_succ]; rfl
      case hqy16 => exact fun _ _ _ h => h
      case hgy16 => rfl
      case hyy16 =>
        intro wq hSw
        replace hx0 := keep_cell hSw hx0
        replace hx1 := keep_cell hSw hx1
        replace hr0 := keep_cell hSw hr0
        replace hr1 := keep_cell hSw hr1
        replace hT1 := keep_cell hSw hT1
        replace hT2 := keep_cell hSw hT2
        go_simp
        (try with_reducible rfl)
      (try simp only [Act.put, List.setIfInBounds_toArray, List.set_cons_zero, List.set_cons_succ])
      refine wpAnyH_take (i := 13) (oi := ?ooy17) (v := ?vvy17) ?hiy17 (by kernel_rfl) (by kernel_rfl) (by kernel_rfl) ?hqy17 (Or.inl ⟨?hgy17, ?hyy17⟩) (by assumption) ?resty17
      case hiy17 => simp only [List.getElem?_toArray, List.getElem?_cons_zero, List.getElem?_cons_succ]; rfl
      case hqy17 => exact fun _ _ _ h => h
      case hgy17 => rfl
      case hyy17 =>
        intro wq hSw
        replace hx0 := keep_cell hSw hx0
        replace hx1 := keep_cell hSw hx1
        replace hr0 := keep_cell hSw hr0
        replace hr1 := keep_cell hSw hr1
        replace hT1 := keep_cell hSw hT1
        replace hT2 := keep_cell hSw hT2
        go_simp
        (try with_reducible rfl)
      (try simp only [Act.put, List.setIfInBounds_toArray, List.set_cons_zero, List.set_cons_succ])
      refine wpAnyH_ready (rs := [17]) (by kernel_rfl) (by simp) ?_
      refine AllReadyH.cons (i := 17) (o := ?ooy18) ?hoy18 (fun K hK => ?hstepy18) AllReadyH.nil
      case hoy18 => simp only [List.getElem?_toArray, List.getElem?_cons_zero, List.getElem?_cons_succ]; rfl
      go_simp
      refine (HSQ.out _ (h.below hw) (k.below hw) (zq.below hw)).mono ?_
      rintro e1 wz ⟨Af, cf, rfl, hof, hb⟩
      have hif := hof.ints
      clear hof
      go_wp2_with fail
      refine hK.out _ _ (keep_below hb hHeld) (fun _ => ?_)
      clear hK K
      (try simp only [Act.put, List.setIfInBounds_toArray, List.set_cons_zero, List.set_cons_succ])
      refine wpAnyH_mono (S' := fun w' => Below wz.heap.size wz w') (fun _ h => keep_below h (keep_below hb hHeld)) _ _ _ _ ?_
      replace hw := keep_below hb hw
      replace hf0 := keep_froz2 hb hr0 hf0
      replace hf1 := keep_froz2 hb hr1 hf1
      replace hx0 := keep_cell hb hx0
      replace hx1 := keep_cell hb hx1
      replace hr0 := keep_cell hb hr0
      replace hr1 := keep_cell hb hr1
      replace hT1 := keep_cell hb hT1
      replace hT2 := keep_cell hb hT2
      clear hHeld hb
      have hHeld : Below wz.heap.size wz wz := (Below.refl _ _)
      refine wpAnyH_ready (rs := [18]) (by kernel_rfl) (by simp) ?_
      refine AllReadyH.cons (i := 18) (o := ?ooy19) ?hoy19 (fun K hK => ?hstepy19) AllReadyH.nil
      case hoy19 => simp only [List.getElem?_toArray, List.getElem?_cons_zero, List.getElem?_cons_succ]; rfl
      go_simp
      have hrz := World.block_lt_of_cell? _ _ hr0
      simp only at hrz
      refine (HTQ.out _ _ _ (h.below hw) hif).mono ?_
      rintro e1 wz ⟨A1, c1, rfl, hos, hb⟩
      obtain ⟨g3, rfl, hgs, hrs⟩ := hos.pos HLQ.out
      have hT3 := hrs.cell (j := 0) HLQ.out
      have hl3 : 0 < TQ.length := HLQ.out
      have hgr3 : w.heap.size + 1 < g3 := Nat.lt_of_lt_of_le hrz hgs
      clear hrs hos hgs hrz
      clear hif
      go_wp2_with fail
      refine hK.out _ _ (keep_below hb hHeld) (fun _ => ?_)
      clear hK K
      (try simp only [Act.put, List.setIfInBounds_toArray, List.set_cons_zero, List.set_cons_succ])
      refine wpAnyH_mono (S' := fun w' => Below wz.heap.size wz w') (fun _ h => keep_below h (keep_below hb hHeld)) _ _ _ _ ?_
      replace hw := keep_below hb hw
      replace hf0 := keep_froz2 hb hr0 hf0
      replace hf1 := keep_froz2 hb hr1 hf1
      replace hx0 := keep_cell hb hx0
      replace hx1 := keep_cell hb hx1
      replace hr0 := keep_cell hb hr0
      replace hr1 := keep_cell hb hr1
      replace hT1 := keep_cell hb hT1
      replace hT2 := keep_cell hb hT2
      clear hHeld hb
      have hHeld : Below wz.heap.size wz wz := (Below.refl _ _)
      refine wpAnyH_take (i := 19) (oi := ?ooy20) (v := ?vvy20) ?hiy20 (by kernel_rfl) (by kernel_rfl) (by kernel_rfl) ?hqy20 (Or.inl ⟨?hgy20, ?hyy20⟩) (by assumption) ?resty20
      case hiy20 => simp only [List.getElem?_toArray, List.getElem?_cons_zero, List.getElem?_cons_succ]; rfl
      case hqy20 => exact fun _ _ _ h => h
      case hgy20 => rfl
      case hyy20 =>
        intro wq hSw
        replace hx0 := keep_cell hSw hx0
        replace hx1 := keep_cell hSw hx1
        replace hr0 := keep_cell hSw hr0
        replace hr1 := keep_cell hSw hr1
        replace hT1 := keep_cell hSw hT1
        replace hT2 := keep_cell hSw hT2
        replace hT3 := keep_cell hSw hT3
        go_simp
        (try with_reducible rfl)
      (try simp only [Act.put, List.setIfInBounds_toArray, List.set_cons_zero, List.set_cons_succ])
      refine wpAnyH_take (i := 20) (oi := ?ooy21) (v := ?vvy21) ?hiy21 (by kernel_rfl) (by kernel_rfl) (by kernel_rfl) ?hqy21 (Or.inl ⟨?hgy21, ?hyy21⟩) (by assumption) ?resty21
      case hiy21 => simp only [List.getElem?_toArray, List.getElem?_cons_zero, List.getElem?_cons_succ]; rfl
      case hqy21 => exact fun _ _ _ h => h
      case hgy21 => rfl
      case hyy21 =>
        intro wq hSw
        replace hx0 := keep_cell hSw hx0
        replace hx1 := keep_cell hSw hx1
        replace hr0 := keep_cell hSw hr0
        replace hr1 := keep_cell hSw hr1
        replace hT1 := keep_cell hSw hT1
        replace hT2 := keep_cell hSw hT2
        replace hT3 := keep_cell hSw hT3
        go_simp
        (try with_reducible rfl)
      (try simp only [Act.put, List.setIfInBounds_toArray, List.set_cons_zero, List.set_cons_succ])
      refine wpAnyH_take (i := 21) (oi := ?ooy22) (v := ?vvy22) ?hiy22 (by kernel_rfl) (by kernel_rfl) (by kernel_rfl) ?hqy22 (Or.inl ⟨?hgy22, ?hyy22⟩) (by assumption) ?resty22
      case hiy22 => simp only [List.getElem?_toArray, List.getElem?_cons_zero, List.getElem?_cons_succ]; rfl
      case hqy22 => exact fun _ _ _ h => h
      case hgy22 => rfl
      case hyy22 =>
        intro wq hSw
        replace hx0 := keep_cell hSw hx0
        replace hx1 := keep_cell hSw hx1
        replace hr0 := keep_cell hSw hr0
        replace hr1 := keep_cell hSw hr1
        replace hT1 := keep_cell hSw hT1
        replace hT2 := keep_cell hSw hT2
        replace hT3 := keep_cell hSw hT3
        go_simp
        (try with_reducible rfl)
      (try simp only [Act.put, List.setIfInBounds_toArray, List.set_cons_zero, List.set_cons_succ])
      refine wpAnyH_take (i := 22) (oi := ?ooy23) (v := ?vvy23) ?hiy23 (by kernel_rfl) (by kernel_rfl) (by kernel_rfl) ?hqy23 (Or.inl ⟨?hgy23, ?hyy23⟩) (by assumption) ?resty23
      case hiy23 => simp only [List.getElem?_toArray, List.getElem?_cons_zero, List.getElem?_cons_succ]; rfl
      case hqy23 => exact fun _ _ _ h => h
      case hgy23 => rfl
      case hyy23 =>
        intro wq hSw
        replace hx0 := keep_cell hSw hx0
        replace hx1 := keep_cell hSw hx1
        replace hr0 := keep_cell hSw hr0
        replace hr1 := keep_cell hSw hr1
        replace hT1 := keep_cell hSw hT1
        replace hT2 := keep_cell hSw hT2
        replace hT3 := keep_cell hSw hT3
        go_simp
        (try with_reducible rfl)
      (try simp only [Act.put, List.setIfInBounds_toArray, List.set_cons_zero, List.set_cons_succ])
      refine wpAnyH_take (i := 23) (oi := ?ooy24) (v := ?vvy24) ?hiy24 (by kernel_rfl) (by kernel_rfl) (by kernel_rfl) ?hqy24 (Or.inl ⟨?hgy24, ?hyy24⟩) (by assumption) ?resty24
      case hiy24 => simp only [List.getElem?_toArray, List.getElem?_cons_zero, List.getElem?_cons_succ]; rfl
      case hqy24 => exact fun _ _ _ h => h
      case hgy24 => rfl
      case hyy24 =>
        intro wq hSw
        replace hx0 := keep_cell hSw hx0
        replace hx1 := keep_cell hSw hx1
        replace hr0 := keep_cell hSw hr0
        replace hr1 := keep_cell hSw hr1
        replace hT1 := keep_cell hSw hT1
        replace hT2 := keep_cell hSw hT2
        replace hT3 := keep_cell hSw hT3
        go_simp
        (try with_reducible rfl)
      (try simp only [Act.put, List.setIfInBounds_toArray, List.set_cons_zero, List.set_cons_succ])
      clear hHeld
      refine wpAnyH_done (by kernel_rfl) ?_ _
      go_wp2_with fail
      refine (HC.out _).mono ?_
      rintro e1 wz ⟨rfl, hb⟩
      replace hf0 := keep_froz2 hb hr0 hf0
      replace hf1 := keep_froz2 hb hr1 hf1
      replace hr0 := keep_cell hb hr0
      replace hr1 := keep_cell hb hr1
      replace hw := keep_below hb hw
      go_wp2
      refine bodyPost_ret (v := .tuple #[.agg #[.int .i64 N, .int .i64 M], .bool O]) (by simp (maxDischargeDepth := 9) [results, Try.results127, go_sem, *]) rfl ⟨rfl, ?_⟩
      (repeat (first | with_reducible exact Below.refl _ _ | with_reducible assumption | with_reducible refine Below.alloc' ?_ ?_ _ | with_reducible refine Below.setCell' ?_ ?_ _ | with_reducible refine Below.drewN' ?_ _ | with_reducible refine Below.drew ?_ | with_reducible refine Below.transA ?_ (by assumption) ?_ | omega | (focus (simp; done)) | (focus (simp; omega))))
end Go.Proofs.Ytkbjocndkopjiaa
