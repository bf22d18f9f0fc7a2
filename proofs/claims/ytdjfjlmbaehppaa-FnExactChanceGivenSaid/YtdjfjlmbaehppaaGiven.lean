/- Contracts: the chance of an event, given another one. -/
import Derived.Test.YtdjfjlmbaehppaaEvChance
namespace Go.Proofs.Ytdjfjlmbaehppaa
open Go.ChangeShapes Go.WideShapes Go.ChangeAt Go.RowKit

noncomputable def gvnOk (xs ys ps qs : List Int) : Bool := good xs ys && isEv xs ps && isEv xs qs && decide (0 < qs.length)
noncomputable def gvnN (xs ys ps qs : List Int) : Int := if gvnOk xs ys ps qs then lowX (heavy ys (bothL ps qs)) (heavy ys qs) else 0
noncomputable def gvnM (xs ys ps qs : List Int) : Int := if gvnOk xs ys ps qs then lowY (heavy ys (bothL ps qs)) (heavy ys qs) else 0
theorem gvnN_no {xs ys ps qs : List Int} (h : gvnOk xs ys ps qs = false) : gvnN xs ys ps qs = 0 := by unfold gvnN; rw [h]; rfl
theorem gvnM_no {xs ys ps qs : List Int} (h : gvnOk xs ys ps qs = false) : gvnM xs ys ps qs = 0 := by unfold gvnM; rw [h]; rfl
theorem gvnN_yes {xs ys ps qs : List Int} (h : gvnOk xs ys ps qs = true) : gvnN xs ys ps qs = lowX (heavy ys (bothL ps qs)) (heavy ys qs) := by unfold gvnN; rw [h]; rfl
theorem gvnM_yes {xs ys ps qs : List Int} (h : gvnOk xs ys ps qs = true) : gvnM xs ys ps qs = lowY (heavy ys (bothL ps qs)) (heavy ys qs) := by unfold gvnM; rw [h]; rfl
theorem sumW_pos {xs ys : List Int} (hg : good xs ys = true) {zs : List Int} (h : isEv xs zs = true) (k : Nat) (hk : k < zs.length) : 1 ≤ sumW ys zs (k + 1) := by
  have h1 := sumW_bd hg zs k
  obtain ⟨q, hq, hqn⟩ := ev_node h k hk
  have h2 := (evIn_iff.1 (Bool.and_eq_true_iff.1 h).1 k hk).2
  have h3 := wt_end hg hqn
  rw [hq, Int.toNat_natCast] at h2
  rw [h2] at h3
  have h4 := of_decide_eq_true h3
  rw [sumW, hq, Int.toNat_natCast]
  omega
theorem heavy_pos {xs ys : List Int} (hg : good xs ys = true) {zs : List Int} (h : isEv xs zs = true) (hl : 0 < zs.length) : 1 ≤ heavy ys zs := by
  unfold heavy
  obtain ⟨k, hk⟩ : ∃ k, zs.length = k + 1 := ⟨zs.length - 1, by omega⟩
  rw [hk]; exact sumW_pos hg h k (by omega)
set_option maxHeartbeats 1000000 in
set_option maxRecDepth 100000 in
theorem specChanceGiven_any (A B : Option Addr) (c e : Nat) (xs ys : List Int) (P : Option Addr) (cp : Nat) (ps : List Int) (Q : Option Addr) (cq : Nat) (qs : List Int) (w : World) (h : IntS w A xs) (k : IntS w B ys) (zp : IntS w P ps) (zq : IntS w Q qs) (_hx : Bd xs) (_hy : Bd ys) (_bp : Bd ps) (_bq : Bd qs) (hn : xs.length ≤ 1048576) (hm : ys.length ≤ 1048576) (lp : ps.length ≤ 1048576) (lq : qs.length ≤ 1048576) :
    Calls Try.prog 40 #[.agg #[.slice A xs.length c, .slice B ys.length e], .slice P ps.length cp, .slice Q qs.length cq] w (RetAB w (gvnN xs ys ps qs) (gvnM xs ys ps qs) (gvnOk xs ys ps qs)) := by
  obtain ⟨r1, q1⟩ : ∃ r, (good xs ys && isEv xs ps) = r := ⟨_, rfl⟩
  cases r1
  case false =>
    have hO : gvnOk xs ys ps qs = false := by unfold gvnOk ; simp [q1]
    have hV_gvnN := gvnN_no hO
    have hV_gvnM := gvnM_no hO
    rw [hV_gvnN]
    rw [hV_gvnM]
    rw [hO]
    clear hO hV_gvnN hV_gvnM
    have HG1 := Lib.hid (fun W (h : IntS W A xs) (k : IntS W B ys) (zp : IntS W P ps) => l2Event_any A B P c e cp xs ys ps W h k zp _hx _hy hn hm lp)
    rw [q1] at HG1
    clear q1 _hx _hy _bp _bq
    go_enter Try.func40, Try.ntmps40
    go_wp2_with fail
    refine (HG1.out _ ((h.alloc _).alloc _) ((k.alloc _).alloc _) ((zp.alloc _).alloc _)).mono ?_
    rintro e1 w1 ⟨rfl, hb⟩
    have hx0 : w1.cell? ⟨w.heap.size, 0, none⟩ = some (.slice A xs.length c) := keep_cell hb (by simp)
    have hx1 : w1.cell? ⟨w.heap.size, 1, none⟩ = some (.slice B ys.length e) := keep_cell hb (by simp)
    have hr0 : w1.cell? ⟨w.heap.size + 1, 0, none⟩ = some (.int .i64 0) := keep_cell hb (by simp)
    have hr1 : w1.cell? ⟨w.heap.size + 1, 1, none⟩ = some (.int .i64 0) := keep_cell hb (by simp)
    have hf0 : w1.frozen? ⟨w.heap.size + 1, 0, none⟩ = false := keep_froz hb (by simp) (by simp)
    have hf1 : w1.frozen? ⟨w.heap.size + 1, 1, none⟩ = false := keep_froz hb (by simp) (by simp)
    have hw : Below w.heap.size w w1 := below_alloc (below_alloc (hb))
    clear hb
    go_wp2
    refine bodyPost_ret (v := .tuple #[.agg #[.int .i64 0, .int .i64 0], .bool false]) (by simp (maxDischargeDepth := 9) [results, Try.results40, go_sem, *]) rfl ⟨rfl, ?_⟩
    (repeat (first | with_reducible exact Below.refl _ _ | with_reducible assumption | with_reducible refine Below.alloc' ?_ ?_ _ | with_reducible refine Below.setCell' ?_ ?_ _ | with_reducible refine Below.drewN' ?_ _ | with_reducible refine Below.drew ?_ | with_reducible refine Below.transA ?_ (by assumption) ?_ | omega | (focus (simp; done)) | (focus (simp; omega))))
  case true =>
    obtain ⟨r2, q2⟩ : ∃ r, (isEv xs qs) = r := ⟨_, rfl⟩
    cases r2
    case false =>
      have hO : gvnOk xs ys ps qs = false := by unfold gvnOk ; simp [q1, q2]
      have hV_gvnN := gvnN_no hO
      have hV_gvnM := gvnM_no hO
      rw [hV_gvnN]
      rw [hV_gvnM]
      rw [hO]
      clear hO hV_gvnN hV_gvnM
      have HG1 := Lib.hid (fun W (h : IntS W A xs) (k : IntS W B ys) (zp : IntS W P ps) => l2Event_any A B P c e cp xs ys ps W h k zp _hx _hy hn hm lp)
      rw [q1] at HG1
      have HG2 := Lib.hid (fun W (h : IntS W A xs) (k : IntS W B ys) (zq : IntS W Q qs) => l2Event_good (Bool.and_eq_true_iff.1 q1).1 A B Q c e cq qs W h k zq _hx _hy lq)
      rw [q2] at HG2
      clear q1 q2 _hx _hy _bp _bq
      go_enter Try.func40, Try.ntmps40
      go_wp2_with fail
      refine (HG1.out _ ((h.alloc _).alloc _) ((k.alloc _).alloc _) ((zp.alloc _).alloc _)).mono ?_
      rintro e1 w1 ⟨rfl, hb⟩
      have hx0 : w1.cell? ⟨w.heap.size, 0, none⟩ = some (.slice A xs.length c) := keep_cell hb (by simp)
      have hx1 : w1.cell? ⟨w.heap.size, 1, none⟩ = some (.slice B ys.length e) := keep_cell hb (by simp)
      have hr0 : w1.cell? ⟨w.heap.size + 1, 0, none⟩ = some (.int .i64 0) := keep_cell hb (by simp)
      have hr1 : w1.cell? ⟨w.heap.size + 1, 1, none⟩ = some (.int .i64 0) := keep_cell hb (by simp)
      have hf0 : w1.frozen? ⟨w.heap.size + 1, 0, none⟩ = false := keep_froz hb (by simp) (by simp)
      have hf1 : w1.frozen? ⟨w.heap.size + 1, 1, none⟩ = false := keep_froz hb (by simp) (by simp)
      have hw : Below w.heap.size w w1 := below_alloc (below_alloc (hb))
      clear hb
      go_wp2_with fail
      refine (HG2.out _ (h.below hw) (k.below hw) (zq.below hw)).mono ?_
      rintro e1 w2 ⟨rfl, hb⟩
      replace hx0 := keep_cell hb hx0
      replace hx1 := keep_cell hb hx1
      replace hf0 := keep_froz hb (by rw [hr0]; rfl) hf0
      replace hf1 := keep_froz hb (by rw [hr1]; rfl) hf1
      replace hr0 := keep_cell hb hr0
      replace hr1 := keep_cell hb hr1
      replace hw := keep_below hb hw
      clear hb
      go_wp2
      refine bodyPost_ret (v := .tuple #[.agg #[.int .i64 0, .int .i64 0], .bool false]) (by simp (maxDischargeDepth := 9) [results, Try.results40, go_sem, *]) rfl ⟨rfl, ?_⟩
      (repeat (first | with_reducible exact Below.refl _ _ | with_reducible assumption | with_reducible refine Below.alloc' ?_ ?_ _ | with_reducible refine Below.setCell' ?_ ?_ _ | with_reducible refine Below.drewN' ?_ _ | with_reducible refine Below.drew ?_ | with_reducible refine Below.transA ?_ (by assumption) ?_ | omega | (focus (simp; done)) | (focus (simp; omega))))
    case true =>
      obtain ⟨r3, q3⟩ : ∃ r, (decide (0 < qs.length)) = r := ⟨_, rfl⟩
      cases r3
      case false =>
        have hO : gvnOk xs ys ps qs = false := by unfold gvnOk ; simp [q1, q2, q3]
        have hV_gvnN := gvnN_no hO
        have hV_gvnM := gvnM_no hO
        rw [hV_gvnN]
        rw [hV_gvnM]
        rw [hO]
        clear hO hV_gvnN hV_gvnM
        have HG1 := Lib.hid (fun W (h : IntS W A xs) (k : IntS W B ys) (zp : IntS W P ps) => l2Event_any A B P c e cp xs ys ps W h k zp _hx _hy hn hm lp)
        rw [q1] at HG1
        have HG2 := Lib.hid (fun W (h : IntS W A xs) (k : IntS W B ys) (zq : IntS W Q qs) => l2Event_good (Bool.and_eq_true_iff.1 q1).1 A B Q c e cq qs W h k zq _hx _hy lq)
        rw [q2] at HG2
        have hd : ((qs.length : Int) == 0) = true := by have := of_decide_eq_false q3; rw [beq_iff_eq]; omega
        clear q1 q2 q3 _hx _hy _bp _bq
        go_enter Try.func40, Try.ntmps40
        go_wp2_with fail
        refine (HG1.out _ ((h.alloc _).alloc _) ((k.alloc _).alloc _) ((zp.alloc _).alloc _)).mono ?_
        rintro e1 w1 ⟨rfl, hb⟩
        have hx0 : w1.cell? ⟨w.heap.size, 0, none⟩ = some (.slice A xs.length c) := keep_cell hb (by simp)
        have hx1 : w1.cell? ⟨w.heap.size, 1, none⟩ = some (.slice B ys.length e) := keep_cell hb (by simp)
        have hr0 : w1.cell? ⟨w.heap.size + 1, 0, none⟩ = some (.int .i64 0) := keep_cell hb (by simp)
        have hr1 : w1.cell? ⟨w.heap.size + 1, 1, none⟩ = some (.int .i64 0) := keep_cell hb (by simp)
        have hf0 : w1.frozen? ⟨w.heap.size + 1, 0, none⟩ = false := keep_froz hb (by simp) (by simp)
        have hf1 : w1.frozen? ⟨w.heap.size + 1, 1, none⟩ = false := keep_froz hb (by simp) (by simp)
        have hw : Below w.heap.size w w1 := below_alloc (below_alloc (hb))
        clear hb
        go_wp2_with fail
        refine (HG2.out _ (h.below hw) (k.below hw) (zq.below hw)).mono ?_
        rintro e1 w2 ⟨rfl, hb⟩
        replace hx0 := keep_cell hb hx0
        replace hx1 := keep_cell hb hx1
        replace hf0 := keep_froz hb (by rw [hr0]; rfl) hf0
        replace hf1 := keep_froz hb (by rw [hr1]; rfl) hf1
        replace hr0 := keep_cell hb hr0
        replace hr1 := keep_cell hb hr1
        replace hw := keep_below hb hw
        clear hb
        go_wp2
        refine bodyPost_ret (v := .tuple #[.agg #[.int .i64 0, .int .i64 0], .bool false]) (by simp (maxDischargeDepth := 9) [results, Try.results40, go_sem, *]) rfl ⟨rfl, ?_⟩
        (repeat (first | with_reducible exact Below.refl _ _ | with_reducible assumption | with_reducible refine Below.alloc' ?_ ?_ _ | with_reducible refine Below.setCell' ?_ ?_ _ | with_reducible refine Below.drewN' ?_ _ | with_reducible refine Below.drew ?_ | with_reducible refine Below.transA ?_ (by assumption) ?_ | omega | (focus (simp; done)) | (focus (simp; omega))))
      case true =>
        have hO : gvnOk xs ys ps qs = true := by unfold gvnOk ; simp [q1, q2, q3]
        have hV_gvnN := gvnN_yes hO
        have hV_gvnM := gvnM_yes hO
        rw [hV_gvnN]
        rw [hV_gvnM]
        rw [hO]
        clear hO hV_gvnN hV_gvnM
        have HG1 := Lib.hid (fun W (h : IntS W A xs) (k : IntS W B ys) (zp : IntS W P ps) => l2Event_any A B P c e cp xs ys ps W h k zp _hx _hy hn hm lp)
        rw [q1] at HG1
        have HG2 := Lib.hid (fun W (h : IntS W A xs) (k : IntS W B ys) (zq : IntS W Q qs) => l2Event_good (Bool.and_eq_true_iff.1 q1).1 A B Q c e cq qs W h k zq _hx _hy lq)
        rw [q2] at HG2
        have hd : ((qs.length : Int) == 0) = false := by have := of_decide_eq_true q3; rw [beq_eq_false_iff_ne]; omega
        have hgl := good_len (Bool.and_eq_true_iff.1 q1).1
        have np := ev_node (Bool.and_eq_true_iff.1 q1).2
        have nq := ev_node q2
        have lp2 := ev_len (Bool.and_eq_true_iff.1 q1).2
        have lq2 := ev_len q2
        have lb := bothL_len ps qs
        have b2 := heavy_bd (Bool.and_eq_true_iff.1 q1).1 (zs := qs) (by omega)
        have b3 := heavy_bd (Bool.and_eq_true_iff.1 q1).1 (zs := bothL ps qs) (by omega)
        have b5 := heavy_pos (Bool.and_eq_true_iff.1 q1).1 q2 (of_decide_eq_true q3)
        have HBo := Lib.hid (fun W (ha : IntS W P ps) (hb : IntS W Q qs) => l2Both_any P Q cp cq ps qs W ha hb lp lq)
        have HQ := Lib.hid (fun W (k : IntS W B ys) (z : IntS W Q qs) => l2Heavy_any (Bool.and_eq_true_iff.1 q1).1 A B Q xs.length c e cq qs W k z lq (by rw [hgl.2.2]; exact nq))
        have HO := Lib.hid (fun W (R : Option Addr) (cr : Nat) (k : IntS W B ys) (z : IntS W R (bothL ps qs)) => l2Heavy_any (Bool.and_eq_true_iff.1 q1).1 A B R xs.length c e cr (bothL ps qs) W k z (by omega) (by rw [hgl.2.2]; exact both_node np))
        generalize heavy ys (bothL ps qs) = ho at *
        generalize heavy ys qs = hq at *
        generalize bothL ps qs = O at *
        have HC := fun W => l2Cut_any ho hq W (by omega) (by omega) (by omega)
        replace HC := Lib.hid HC
        clear hgl np nq b2 b3 b5 lp2 lq2 lb
        clear q1 q2 q3 _hx _hy _bp _bq
        go_enter Try.func40, Try.ntmps40
        go_wp2_with fail
        refine (HG1.out _ ((h.alloc _).alloc _) ((k.alloc _).alloc _) ((zp.alloc _).alloc _)).mono ?_
        rintro e1 w1 ⟨rfl, hb⟩
        have hx0 : w1.cell? ⟨w.heap.size, 0, none⟩ = some (.slice A xs.length c) := keep_cell hb (by simp)
        have hx1 : w1.cell? ⟨w.heap.size, 1, none⟩ = some (.slice B ys.length e) := keep_cell hb (by simp)
        have hr0 : w1.cell? ⟨w.heap.size + 1, 0, none⟩ = some (.int .i64 0) := keep_cell hb (by simp)
        have hr1 : w1.cell? ⟨w.heap.size + 1, 1, none⟩ = some (.int .i64 0) := keep_cell hb (by simp)
        have hf0 : w1.frozen? ⟨w.heap.size + 1, 0, none⟩ = false := keep_froz hb (by simp) (by simp)
        have hf1 : w1.frozen? ⟨w.heap.size + 1, 1, none⟩ = false := keep_froz hb (by simp) (by simp)
        have hw : Below w.heap.size w w1 := below_alloc (below_alloc (hb))
        clear hb
        go_wp2_with fail
        refine (HG2.out _ (h.below hw) (k.below hw) (zq.below hw)).mono ?_
        rintro e1 w2 ⟨rfl, hb⟩
        replace hx0 := keep_cell hb hx0
        replace hx1 := keep_cell hb hx1
        replace hf0 := keep_froz hb (by rw [hr0]; rfl) hf0
        replace hf1 := keep_froz hb (by rw [hr1]; rfl) hf1
        replace hr0 := keep_cell hb hr0
        replace hr1 := keep_cell hb hr1
        replace hw := keep_below hb hw
        clear hb
        clear HG1 HG2
        go_wp2
        refine wp_region_held_drew (S := fun w' => KeptBut w2 w' (w.heap.size + 1) (w.heap.size + 1)) (by kernel_rfl) ((KeptBut.refl2 _ _)).drew (fun hHeld => ?_)
        replace hw := hw.drew
        refine wpAnyH_take (i := 0) (oi := ?oo1) (v := ?vv1) ?hi1 (by kernel_rfl) (by kernel_rfl) (by kernel_rfl) ?hq1 (Or.inl ⟨?hg1, ?hy1⟩) (by assumption) ?rest1
        case hi1 => simp only [List.getElem?_toArray, List.getElem?_cons_zero, List.getElem?_cons_succ]; rfl
        case hq1 => exact fun _ _ _ h => h
        case hg1 => rfl
        case hy1 =>
          intro wq hSw
          replace hx0 := hSw.cell hx0 (by first | omega | (simp; done) | (simp; omega)) (by first | omega | (simp; done) | (simp; omega))
          replace hx1 := hSw.cell hx1 (by first | omega | (simp; done) | (simp; omega)) (by first | omega | (simp; done) | (simp; omega))
          go_simp
          (try with_reducible rfl)
        (try simp only [Act.put, List.setIfInBounds_toArray, List.set_cons_zero, List.set_cons_succ])
        refine wpAnyH_take (i := 1) (oi := ?oo2) (v := ?vv2) ?hi2 (by kernel_rfl) (by kernel_rfl) (by kernel_rfl) ?hq2 (Or.inl ⟨?hg2, ?hy2⟩) (by assumption) ?rest2
        case hi2 => simp only [List.getElem?_toArray, List.getElem?_cons_zero, List.getElem?_cons_succ]; rfl
        case hq2 => exact fun _ _ _ h => h
        case hg2 => rfl
        case hy2 =>
          intro wq hSw
          replace hx0 := hSw.cell hx0 (by first | omega | (simp; done) | (simp; omega)) (by first | omega | (simp; done) | (simp; omega))
          replace hx1 := hSw.cell hx1 (by first | omega | (simp; done) | (simp; omega)) (by first | omega | (simp; done) | (simp; omega))
          go_simp
          (try with_reducible rfl)
        (try simp only [Act.put, List.setIfInBounds_toArray, List.set_cons_zero, List.set_cons_succ])
        refine wpAnyH_take (i := 2) (oi := ?oo3) (v := ?vv3) ?hi3 (by kernel_rfl) (by kernel_rfl) (by kernel_rfl) ?hq3 (Or.inl ⟨?hg3, ?hy3⟩) (by assumption) ?rest3
        case hi3 => simp only [List.getElem?_toArray, List.getElem?_cons_zero, List.getElem?_cons_succ]; rfl
        case hq3 => exact fun _ _ _ h => h
        case hg3 => rfl
        case hy3 =>
          intro wq hSw
          replace hx0 := hSw.cell hx0 (by first | omega | (simp; done) | (simp; omega)) (by first | omega | (simp; done) | (simp; omega))
          replace hx1 := hSw.cell hx1 (by first | omega | (simp; done) | (simp; omega)) (by first | omega | (simp; done) | (simp; omega))
          go_simp
          (try with_reducible rfl)
        (try simp only [Act.put, List.setIfInBounds_toArray, List.set_cons_zero, List.set_cons_succ])
        refine wpAnyH_take (i := 5) (oi := ?oo4) (v := ?vv4) ?hi4 (by kernel_rfl) (by kernel_rfl) (by kernel_rfl) ?hq4 (Or.inl ⟨?hg4, ?hy4⟩) (by assumption) ?rest4
        case hi4 => simp only [List.getElem?_toArray, List.getElem?_cons_zero, List.getElem?_cons_succ]; rfl
        case hq4 => exact fun _ _ _ h => h
        case hg4 => rfl
        case hy4 =>
          intro wq hSw
          replace hx0 := hSw.cell hx0 (by first | omega | (simp; done) | (simp; omega)) (by first | omega | (simp; done) | (simp; omega))
          replace hx1 := hSw.cell hx1 (by first | omega | (simp; done) | (simp; omega)) (by first | omega | (simp; done) | (simp; omega))
          go_simp
          (try with_reducible rfl)
        (try simp only [Act.put, List.setIfInBounds_toArray, List.set_cons_zero, List.set_cons_succ])
        refine wpAnyH_take (i := 6) (oi := ?oo5) (v := ?vv5) ?hi5 (by kernel_rfl) (by kernel_rfl) (by kernel_rfl) ?hq5 (Or.inl ⟨?hg5, ?hy5⟩) (by assumption) ?rest5
        case hi5 => simp only [List.getElem?_toArray, List.getElem?_cons_zero, List.getElem?_cons_succ]; rfl
        case hq5 => exact fun _ _ _ h => h
        case hg5 => rfl
        case hy5 =>
          intro wq hSw
          replace hx0 := hSw.cell hx0 (by first | omega | (simp; done) | (simp; omega)) (by first | omega | (simp; done) | (simp; omega))
          replace hx1 := hSw.cell hx1 (by first | omega | (simp; done) | (simp; omega)) (by first | omega | (simp; done) | (simp; omega))
          go_simp
          (try with_reducible rfl)
        (try simp only [Act.put, List.setIfInBounds_toArray, List.set_cons_zero, List.set_cons_succ])
        refine wpAnyH_ready (rs := [3]) (by kernel_rfl) (by simp) ?_
        refine AllReadyH.cons (i := 3) (o := ?oo6) ?ho6 (fun K hK => ?hstep6) AllReadyH.nil
        case ho6 => simp only [List.getElem?_toArray, List.getElem?_cons_zero, List.getElem?_cons_succ]; rfl
        go_simp
        refine (HBo.out _ (zp.below hw) (zq.below hw)).mono ?_
        rintro e1 wz ⟨Ab, cb, rfl, hob, hb⟩
        have hib := hob.ints
        clear hob
        go_wp2_with fail
        refine hK.out _ _ (hHeld.post hb) (fun _ => ?_)
        clear hK K
        (try simp only [Act.put, List.setIfInBounds_toArray, List.set_cons_zero, List.set_cons_succ])
        refine wpAnyH_mono (S' := fun w' => KeptBut wz w' (w.heap.size + 1) (w.heap.size + 1)) (fun _ h => (hHeld.post hb).trans2 h) _ _ _ _ ?_
        replace hx0 := keep_cell hb hx0
        replace hx1 := keep_cell hb hx1
        replace hf0 := keep_froz2 hb hr0 hf0
        replace hf1 := keep_froz2 hb hr1 hf1
        replace hr0 := keep_cell hb hr0
        replace hr1 := keep_cell hb hr1
        replace hw := keep_below hb hw
        clear hHeld hb
        have hHeld : KeptBut wz wz (w.heap.size + 1) (w.heap.size + 1) := (KeptBut.refl2 _ _)
        refine wpAnyH_ready (rs := [4]) (by kernel_rfl) (by simp) ?_
        refine AllReadyH.cons (i := 4) (o := ?oo7) ?ho7 (fun K hK => ?hstep7) AllReadyH.nil
        case ho7 => simp only [List.getElem?_toArray, List.getElem?_cons_zero, List.getElem?_cons_succ]; rfl
        go_simp
        refine (HO.out _ _ _ (k.below hw) hib).mono ?_
        rintro e1 wz ⟨rfl, hb⟩
        clear hib
        go_wp2_with fail
        refine hK.out _ _ (hHeld.post hb) (fun _ => ?_)
        clear hK K
        (try simp only [Act.put, List.setIfInBounds_toArray, List.set_cons_zero, List.set_cons_succ])
        refine wpAnyH_mono (S' := fun w' => KeptBut wz w' (w.heap.size + 1) (w.heap.size + 1)) (fun _ h => (hHeld.post hb).trans2 h) _ _ _ _ ?_
        replace hx0 := keep_cell hb hx0
        replace hx1 := keep_cell hb hx1
        replace hf0 := keep_froz2 hb hr0 hf0
        replace hf1 := keep_froz2 hb hr1 hf1
        replace hr0 := keep_cell hb hr0
        replace hr1 := keep_cell hb hr1
        replace hw := keep_below hb hw
        clear hHeld hb
        have hHeld : KeptBut wz wz (w.heap.size + 1) (w.heap.size + 1) := (KeptBut.refl2 _ _)
        refine wpAnyH_ready (rs := [7]) (by kernel_rfl) (by simp) ?_
        refine AllReadyH.cons (i := 7) (o := ?oo8) ?ho8 (fun K hK => ?hstep8) AllReadyH.nil
        case ho8 => simp only [List.getElem?_toArray, List.getElem?_cons_zero, List.getElem?_cons_succ]; rfl
        go_simp
        refine (HQ.out _ (k.below hw) (zq.below hw)).mono ?_
        rintro e1 wz ⟨rfl, hb⟩
        go_wp2_with fail
        refine hK.out _ _ (hHeld.post hb) (fun _ => ?_)
        clear hK K
        (try simp only [Act.put, List.setIfInBounds_toArray, List.set_cons_zero, List.set_cons_succ])
        refine wpAnyH_mono (S' := fun w' => KeptBut wz w' (w.heap.size + 1) (w.heap.size + 1)) (fun _ h => (hHeld.post hb).trans2 h) _ _ _ _ ?_
        replace hx0 := keep_cell hb hx0
        replace hx1 := keep_cell hb hx1
        replace hf0 := keep_froz2 hb hr0 hf0
        replace hf1 := keep_froz2 hb hr1 hf1
        replace hr0 := keep_cell hb hr0
        replace hr1 := keep_cell hb hr1
        replace hw := keep_below hb hw
        clear hHeld hb
        have hHeld : KeptBut wz wz (w.heap.size + 1) (w.heap.size + 1) := (KeptBut.refl2 _ _)
        refine wpAnyH_ready (rs := [8]) (by kernel_rfl) (by simp) ?_
        refine AllReadyH.cons (i := 8) (o := ?oo9) ?ho9 (fun K hK => ?hstep9) AllReadyH.nil
        case ho9 => simp only [List.getElem?_toArray, List.getElem?_cons_zero, List.getElem?_cons_succ]; rfl
        go_simp
        refine (HC.out _).mono ?_
        rintro e1 wz ⟨rfl, hb⟩
        go_wp2_with fail
        refine hK.out _ _ (hHeld.post hb) (fun _ => ?_)
        clear hK K
        (try simp only [Act.put, List.setIfInBounds_toArray, List.set_cons_zero, List.set_cons_succ])
        refine wpAnyH_mono (S' := fun w' => KeptBut wz w' (w.heap.size + 1) (w.heap.size + 1)) (fun _ h => (hHeld.post hb).trans2 h) _ _ _ _ ?_
        replace hx0 := keep_cell hb hx0
        replace hx1 := keep_cell hb hx1
        replace hf0 := keep_froz2 hb hr0 hf0
        replace hf1 := keep_froz2 hb hr1 hf1
        replace hr0 := keep_cell hb hr0
        replace hr1 := keep_cell hb hr1
        replace hw := keep_below hb hw
        clear hHeld hb
        have hHeld : KeptBut wz wz (w.heap.size + 1) (w.heap.size + 1) := (KeptBut.refl2 _ _)
        refine wpAnyH_ready (rs := [9]) (by kernel_rfl) (by simp) ?_
        refine AllReadyH.cons (i := 9) (o := ?oo10) ?ho10 (fun K hK => ?hstep10) AllReadyH.nil
        case ho10 => simp only [List.getElem?_toArray, List.getElem?_cons_zero, List.getElem?_cons_succ]; rfl
        go_simp
        refine hK.out _ _ (((KeptBut.refl2 _ _).setg _ _).setg _ _) (fun hHeld2 => ?_)
        clear hK K
        (try simp only [Act.put, List.setIfInBounds_toArray, List.set_cons_zero, List.set_cons_succ])
        refine wpAnyH_take (i := 10) (oi := ?oo11) (v := ?vv11) ?hi11 (by kernel_rfl) (by kernel_rfl) (by kernel_rfl) ?hq11 (Or.inl ⟨?hg11, ?hy11⟩) (by assumption) ?rest11
        case hi11 => simp only [List.getElem?_toArray, List.getElem?_cons_zero, List.getElem?_cons_succ]; rfl
        case hq11 => exact fun _ _ _ h => h
        case hg11 => rfl
        case hy11 =>
          intro wq hSw
          replace hx0 := hSw.cell hx0 (by first | omega | (simp; done) | (simp; omega)) (by first | omega | (simp; done) | (simp; omega))
          replace hx1 := hSw.cell hx1 (by first | omega | (simp; done) | (simp; omega)) (by first | omega | (simp; done) | (simp; omega))
          go_simp
          (try with_reducible rfl)
        (try simp only [Act.put, List.setIfInBounds_toArray, List.set_cons_zero, List.set_cons_succ])
        refine wpAnyH_done (by kernel_rfl) ?_ _
        go_wp2
        refine bodyPost_ret (v := .tuple #[.agg #[.int .i64 (lowX ho hq), .int .i64 (lowY ho hq)], .bool true]) (by simp (maxDischargeDepth := 9) [results, Try.results40, go_sem, *]) rfl ⟨rfl, ?_⟩
        (repeat (first | with_reducible exact Below.refl _ _ | with_reducible assumption | with_reducible refine Below.alloc' ?_ ?_ _ | with_reducible refine Below.setCell' ?_ ?_ _ | with_reducible refine Below.drewN' ?_ _ | with_reducible refine Below.drew ?_ | with_reducible refine Below.transA ?_ (by assumption) ?_ | omega | (focus (simp; done)) | (focus (simp; omega))))
set_option maxHeartbeats 1000000 in
set_option maxRecDepth 100000 in
theorem implChanceGiven_any (A B : Option Addr) (c e : Nat) (xs ys : List Int) (P : Option Addr) (cp : Nat) (ps : List Int) (Q : Option Addr) (cq : Nat) (qs : List Int) (w : World) (h : IntS w A xs) (k : IntS w B ys) (zp : IntS w P ps) (zq : IntS w Q qs) (_hx : Bd xs) (_hy : Bd ys) (_bp : Bd ps) (_bq : Bd qs) (hn : xs.length ≤ 1048576) (hm : ys.length ≤ 1048576) (lp : ps.length ≤ 1048576) (lq : qs.length ≤ 1048576) :
    Calls Try.prog 41 #[.agg #[.slice A xs.length c, .slice B ys.length e], .slice P ps.length cp, .slice Q qs.length cq] w (RetAB w (gvnN xs ys ps qs) (gvnM xs ys ps qs) (gvnOk xs ys ps qs)) := by
  obtain ⟨r1, q1⟩ : ∃ r, (good xs ys) = r := ⟨_, rfl⟩
  cases r1
  case false =>
    have hO : gvnOk xs ys ps qs = false := by unfold gvnOk ; simp [q1]
    have hV_gvnN := gvnN_no hO
    have hV_gvnM := gvnM_no hO
    rw [hV_gvnN]
    rw [hV_gvnM]
    rw [hO]
    clear hO hV_gvnN hV_gvnM
    have HG1 := Lib.hid (fun W (h : IntS W A xs) (k : IntS W B ys) => isTree_any A B c e xs ys W h k _hx _hy hn hm)
    rw [q1] at HG1
    clear q1 _hx _hy _bp _bq
    go_enter Try.func41, Try.ntmps41
    go_wp2_with fail
    refine (HG1.out _ ((h.alloc _).alloc _) ((k.alloc _).alloc _)).mono ?_
    rintro e1 w1 ⟨rfl, hb⟩
    have hx0 : w1.cell? ⟨w.heap.size, 0, none⟩ = some (.slice A xs.length c) := keep_cell hb (by simp)
    have hx1 : w1.cell? ⟨w.heap.size, 1, none⟩ = some (.slice B ys.length e) := keep_cell hb (by simp)
    have hr0 : w1.cell? ⟨w.heap.size + 1, 0, none⟩ = some (.int .i64 0) := keep_cell hb (by simp)
    have hr1 : w1.cell? ⟨w.heap.size + 1, 1, none⟩ = some (.int .i64 0) := keep_cell hb (by simp)
    have hf0 : w1.frozen? ⟨w.heap.size + 1, 0, none⟩ = false := keep_froz hb (by simp) (by simp)
    have hf1 : w1.frozen? ⟨w.heap.size + 1, 1, none⟩ = false := keep_froz hb (by simp) (by simp)
    have hw : Below w.heap.size w w1 := below_alloc (below_alloc (hb))
    clear hb
    go_wp2
    refine bodyPost_ret (v := .tuple #[.agg #[.int .i64 0, .int .i64 0], .bool false]) (by simp (maxDischargeDepth := 9) [results, Try.results41, go_sem, *]) rfl ⟨rfl, ?_⟩
    (repeat (first | with_reducible exact Below.refl _ _ | with_reducible assumption | with_reducible refine Below.alloc' ?_ ?_ _ | with_reducible refine Below.setCell' ?_ ?_ _ | with_reducible refine Below.drewN' ?_ _ | with_reducible refine Below.drew ?_ | with_reducible refine Below.transA ?_ (by assumption) ?_ | omega | (focus (simp; done)) | (focus (simp; omega))))
  case true =>
    obtain ⟨r2, q2⟩ : ∃ r, (isEv xs ps) = r := ⟨_, rfl⟩
    cases r2
    case false =>
      have hO : gvnOk xs ys ps qs = false := by unfold gvnOk ; simp [q1, q2]
      have hV_gvnN := gvnN_no hO
      have hV_gvnM := gvnM_no hO
      rw [hV_gvnN]
      rw [hV_gvnM]
      rw [hO]
      clear hO hV_gvnN hV_gvnM
      have HG1 := Lib.hid (fun W (h : IntS W A xs) (k : IntS W B ys) => isTree_any A B c e xs ys W h k _hx _hy hn hm)
      rw [q1] at HG1
      have HG2 := Lib.hid (fun W (h : IntS W A xs) (zp : IntS W P ps) => isEvent_good q1 A B P c ys.length e cp ps W h zp lp)
      rw [q2] at HG2
      clear q1 q2 _hx _hy _bp _bq
      go_enter Try.func41, Try.ntmps41
      go_wp2_with fail
      refine (HG1.out _ ((h.alloc _).alloc _) ((k.alloc _).alloc _)).mono ?_
      rintro e1 w1 ⟨rfl, hb⟩
      have hx0 : w1.cell? ⟨w.heap.size, 0, none⟩ = some (.slice A xs.length c) := keep_cell hb (by simp)
      have hx1 : w1.cell? ⟨w.heap.size, 1, none⟩ = some (.slice B ys.length e) := keep_cell hb (by simp)
      have hr0 : w1.cell? ⟨w.heap.size + 1, 0, none⟩ = some (.int .i64 0) := keep_cell hb (by simp)
      have hr1 : w1.cell? ⟨w.heap.size + 1, 1, none⟩ = some (.int .i64 0) := keep_cell hb (by simp)
      have hf0 : w1.frozen? ⟨w.heap.size + 1, 0, none⟩ = false := keep_froz hb (by simp) (by simp)
      have hf1 : w1.frozen? ⟨w.heap.size + 1, 1, none⟩ = false := keep_froz hb (by simp) (by simp)
      have hw : Below w.heap.size w w1 := below_alloc (below_alloc (hb))
      clear hb
      go_wp2_with fail
      refine (HG2.out _ (h.below hw) (zp.below hw)).mono ?_
      rintro e1 w2 ⟨rfl, hb⟩
      replace hx0 := keep_cell hb hx0
      replace hx1 := keep_cell hb hx1
      replace hf0 := keep_froz hb (by rw [hr0]; rfl) hf0
      replace hf1 := keep_froz hb (by rw [hr1]; rfl) hf1
      replace hr0 := keep_cell hb hr0
      replace hr1 := keep_cell hb hr1
      replace hw := keep_below hb hw
      clear hb
      go_wp2
      refine bodyPost_ret (v := .tuple #[.agg #[.int .i64 0, .int .i64 0], .bool false]) (by simp (maxDischargeDepth := 9) [results, Try.results41, go_sem, *]) rfl ⟨rfl, ?_⟩
      (repeat (first | with_reducible exact Below.refl _ _ | with_reducible assumption | with_reducible refine Below.alloc' ?_ ?_ _ | with_reducible refine Below.setCell' ?_ ?_ _ | with_reducible refine Below.drewN' ?_ _ | with_reducible refine Below.drew ?_ | with_reducible refine Below.transA ?_ (by assumption) ?_ | omega | (focus (simp; done)) | (focus (simp; omega))))
    case true =>
      obtain ⟨r3, q3⟩ : ∃ r, (isEv xs qs) = r := ⟨_, rfl⟩
      cases r3
      case false =>
        have hO : gvnOk xs ys ps qs = false := by unfold gvnOk ; simp [q1, q2, q3]
        have hV_gvnN := gvnN_no hO
        have hV_gvnM := gvnM_no hO
        rw [hV_gvnN]
        rw [hV_gvnM]
        rw [hO]
        clear hO hV_gvnN hV_gvnM
        have HG1 := Lib.hid (fun W (h : IntS W A xs) (k : IntS W B ys) => isTree_any A B c e xs ys W h k _hx _hy hn hm)
        rw [q1] at HG1
        have HG2 := Lib.hid (fun W (h : IntS W A xs) (zp : IntS W P ps) => isEvent_good q1 A B P c ys.length e cp ps W h zp lp)
        rw [q2] at HG2
        have HG3 := Lib.hid (fun W (h : IntS W A xs) (zq : IntS W Q qs) => isEvent_good q1 A B Q c ys.length e cq qs W h zq lq)
        rw [q3] at HG3
        clear q1 q2 q3 _hx _hy _bp _bq
        go_enter Try.func41, Try.ntmps41
        go_wp2_with fail
        refine (HG1.out _ ((h.alloc _).alloc _) ((k.alloc _).alloc _)).mono ?_
        rintro e1 w1 ⟨rfl, hb⟩
        have hx0 : w1.cell? ⟨w.heap.size, 0, none⟩ = some (.slice A xs.length c) := keep_cell hb (by simp)
        have hx1 : w1.cell? ⟨w.heap.size, 1, none⟩ = some (.slice B ys.length e) := keep_cell hb (by simp)
        have hr0 : w1.cell? ⟨w.heap.size + 1, 0, none⟩ = some (.int .i64 0) := keep_cell hb (by simp)
        have hr1 : w1.cell? ⟨w.heap.size + 1, 1, none⟩ = some (.int .i64 0) := keep_cell hb (by simp)
        have hf0 : w1.frozen? ⟨w.heap.size + 1, 0, none⟩ = false := keep_froz hb (by simp) (by simp)
        have hf1 : w1.frozen? ⟨w.heap.size + 1, 1, none⟩ = false := keep_froz hb (by simp) (by simp)
        have hw : Below w.heap.size w w1 := below_alloc (below_alloc (hb))
        clear hb
        go_wp2_with fail
        refine (HG2.out _ (h.below hw) (zp.below hw)).mono ?_
        rintro e1 w2 ⟨rfl, hb⟩
        replace hx0 := keep_cell hb hx0
        replace hx1 := keep_cell hb hx1
        replace hf0 := keep_froz hb (by rw [hr0]; rfl) hf0
        replace hf1 := keep_froz hb (by rw [hr1]; rfl) hf1
        replace hr0 := keep_cell hb hr0
        replace hr1 := keep_cell hb hr1
        replace hw := keep_below hb hw
        clear hb
        go_wp2_with fail
        refine (HG3.out _ (h.below hw) (zq.below hw)).mono ?_
        rintro e1 w3 ⟨rfl, hb⟩
        replace hx0 := keep_cell hb hx0
        replace hx1 := keep_cell hb hx1
        replace hf0 := keep_froz hb (by rw [hr0]; rfl) hf0
        replace hf1 := keep_froz hb (by rw [hr1]; rfl) hf1
        replace hr0 := keep_cell hb hr0
        replace hr1 := keep_cell hb hr1
        replace hw := keep_below hb hw
        clear hb
        go_wp2
        refine bodyPost_ret (v := .tuple #[.agg #[.int .i64 0, .int .i64 0], .bool false]) (by simp (maxDischargeDepth := 9) [results, Try.results41, go_sem, *]) rfl ⟨rfl, ?_⟩
        (repeat (first | with_reducible exact Below.refl _ _ | with_reducible assumption | with_reducible refine Below.alloc' ?_ ?_ _ | with_reducible refine Below.setCell' ?_ ?_ _ | with_reducible refine Below.drewN' ?_ _ | with_reducible refine Below.drew ?_ | with_reducible refine Below.transA ?_ (by assumption) ?_ | omega | (focus (simp; done)) | (focus (simp; omega))))
      case true =>
        obtain ⟨r4, q4⟩ : ∃ r, (decide (0 < qs.length)) = r := ⟨_, rfl⟩
        cases r4
        case false =>
          have hO : gvnOk xs ys ps qs = false := by unfold gvnOk ; simp [q1, q2, q3, q4]
          have hV_gvnN := gvnN_no hO
          have hV_gvnM := gvnM_no hO
          rw [hV_gvnN]
          rw [hV_gvnM]
          rw [hO]
          clear hO hV_gvnN hV_gvnM
          have HG1 := Lib.hid (fun W (h : IntS W A xs) (k : IntS W B ys) => isTree_any A B c e xs ys W h k _hx _hy hn hm)
          rw [q1] at HG1
          have HG2 := Lib.hid (fun W (h : IntS W A xs) (zp : IntS W P ps) => isEvent_good q1 A B P c ys.length e cp ps W h zp lp)
          rw [q2] at HG2
          have HG3 := Lib.hid (fun W (h : IntS W A xs) (zq : IntS W Q qs) => isEvent_good q1 A B Q c ys.length e cq qs W h zq lq)
          rw [q3] at HG3
          have hd : ((qs.length : Int) == 0) = true := by have := of_decide_eq_false q4; rw [beq_iff_eq]; omega
          clear q1 q2 q3 q4 _hx _hy _bp _bq
          go_enter Try.func41, Try.ntmps41
          go_wp2_with fail
          refine (HG1.out _ ((h.alloc _).alloc _) ((k.alloc _).alloc _)).mono ?_
          rintro e1 w1 ⟨rfl, hb⟩
          have hx0 : w1.cell? ⟨w.heap.size, 0, none⟩ = some (.slice A xs.length c) := keep_cell hb (by simp)
          have hx1 : w1.cell? ⟨w.heap.size, 1, none⟩ = some (.slice B ys.length e) := keep_cell hb (by simp)
          have hr0 : w1.cell? ⟨w.heap.size + 1, 0, none⟩ = some (.int .i64 0) := keep_cell hb (by simp)
          have hr1 : w1.cell? ⟨w.heap.size + 1, 1, none⟩ = some (.int .i64 0) := keep_cell hb (by simp)
          have hf0 : w1.frozen? ⟨w.heap.size + 1, 0, none⟩ = false := keep_froz hb (by simp) (by simp)
          have hf1 : w1.frozen? ⟨w.heap.size + 1, 1, none⟩ = false := keep_froz hb (by simp) (by simp)
          have hw : Below w.heap.size w w1 := below_alloc (below_alloc (hb))
          clear hb
          go_wp2_with fail
          refine (HG2.out _ (h.below hw) (zp.below hw)).mono ?_
          rintro e1 w2 ⟨rfl, hb⟩
          replace hx0 := keep_cell hb hx0
          replace hx1 := keep_cell hb hx1
          replace hf0 := keep_froz hb (by rw [hr0]; rfl) hf0
          replace hf1 := keep_froz hb (by rw [hr1]; rfl) hf1
          replace hr0 := keep_cell hb hr0
          replace hr1 := keep_cell hb hr1
          replace hw := keep_below hb hw
          clear hb
          go_wp2_with fail
          refine (HG3.out _ (h.below hw) (zq.below hw)).mono ?_
          rintro e1 w3 ⟨rfl, hb⟩
          replace hx0 := keep_cell hb hx0
          replace hx1 := keep_cell hb hx1
          replace hf0 := keep_froz hb (by rw [hr0]; rfl) hf0
          replace hf1 := keep_froz hb (by rw [hr1]; rfl) hf1
          replace hr0 := keep_cell hb hr0
          replace hr1 := keep_cell hb hr1
          replace hw := keep_below hb hw
          clear hb
          go_wp2
          refine bodyPost_ret (v := .tuple #[.agg #[.int .i64 0, .int .i64 0], .bool false]) (by simp (maxDischargeDepth := 9) [results, Try.results41, go_sem, *]) rfl ⟨rfl, ?_⟩
          (repeat (first | with_reducible exact Below.refl _ _ | with_reducible assumption | with_reducible refine Below.alloc' ?_ ?_ _ | with_reducible refine Below.setCell' ?_ ?_ _ | with_reducible refine Below.drewN' ?_ _ | with_reducible refine Below.drew ?_ | with_reducible refine Below.transA ?_ (by assumption) ?_ | omega | (focus (simp; done)) | (focus (simp; omega))))
        case true =>
          have hO : gvnOk xs ys ps qs = true := by unfold gvnOk ; simp [q1, q2, q3, q4]
          have hV_gvnN := gvnN_yes hO
          have hV_gvnM := gvnM_yes hO
          rw [hV_gvnN]
          rw [hV_gvnM]
          rw [hO]
          clear hO hV_gvnN hV_gvnM
          have HG1 := Lib.hid (fun W (h : IntS W A xs) (k : IntS W B ys) => isTree_any A B c e xs ys W h k _hx _hy hn hm)
          rw [q1] at HG1
          have HG2 := Lib.hid (fun W (h : IntS W A xs) (zp : IntS W P ps) => isEvent_good q1 A B P c ys.length e cp ps W h zp lp)
          rw [q2] at HG2
          have HG3 := Lib.hid (fun W (h : IntS W A xs) (zq : IntS W Q qs) => isEvent_good q1 A B Q c ys.length e cq qs W h zq lq)
          rw [q3] at HG3
          have hd : ((qs.length : Int) == 0) = false := by have := of_decide_eq_true q4; rw [beq_eq_false_iff_ne]; omega
          have hgl := good_len q1
          have np := ev_node q2
          have nq := ev_node q3
          have lp2 := ev_len q2
          have lq2 := ev_len q3
          have lb := bothL_len ps qs
          have b2 := heavy_bd q1 (zs := qs) (by omega)
          have b3 := heavy_bd q1 (zs := bothL ps qs) (by omega)
          have b5 := heavy_pos q1 q3 (of_decide_eq_true q4)
          have HBo := Lib.hid (fun W (ha : IntS W P ps) (hb : IntS W Q qs) => both_any P Q cp cq ps qs W ha hb lp lq)
          have HQ := Lib.hid (fun W (k : IntS W B ys) (z : IntS W Q qs) => weighed_any q1 A B Q xs.length c e cq qs W k z lq (by rw [hgl.2.2]; exact nq))
          have HO := Lib.hid (fun W (R : Option Addr) (cr : Nat) (k : IntS W B ys) (z : IntS W R (bothL ps qs)) => weighed_any q1 A B R xs.length c e cr (bothL ps qs) W k z (by omega) (by rw [hgl.2.2]; exact both_node np))
          generalize heavy ys (bothL ps qs) = ho at *
          generalize heavy ys qs = hq at *
          generalize bothL ps qs = O at *
          have HC := fun W => lowest_any ho hq W (by omega) (by omega) (by omega)
          have hlo := low_small (a := ho) (b := hq) (by omega) (by omega)
          rw [hlo.1, hlo.2.1, hlo.2.2] at HC
          clear hlo
          replace HC := Lib.hid HC
          clear hgl np nq b2 b3 b5 lp2 lq2 lb
          clear q1 q2 q3 q4 _hx _hy _bp _bq
          go_enter Try.func41, Try.ntmps41
          go_wp2_with fail
          refine (HG1.out _ ((h.alloc _).alloc _) ((k.alloc _).alloc _)).mono ?_
          rintro e1 w1 ⟨rfl, hb⟩
          have hx0 : w1.cell? ⟨w.heap.size, 0, none⟩ = some (.slice A xs.length c) := keep_cell hb (by simp)
          have hx1 : w1.cell? ⟨w.heap.size, 1, none⟩ = some (.slice B ys.length e) := keep_cell hb (by simp)
          have hr0 : w1.cell? ⟨w.heap.size + 1, 0, none⟩ = some (.int .i64 0) := keep_cell hb (by simp)
          have hr1 : w1.cell? ⟨w.heap.size + 1, 1, none⟩ = some (.int .i64 0) := keep_cell hb (by simp)
          have hf0 : w1.frozen? ⟨w.heap.size + 1, 0, none⟩ = false := keep_froz hb (by simp) (by simp)
          have hf1 : w1.frozen? ⟨w.heap.size + 1, 1, none⟩ = false := keep_froz hb (by simp) (by simp)
          have hw : Below w.heap.size w w1 := below_alloc (below_alloc (hb))
          clear hb
          go_wp2_with fail
          refine (HG2.out _ (h.below hw) (zp.below hw)).mono ?_
          rintro e1 w2 ⟨rfl, hb⟩
          replace hx0 := keep_cell hb hx0
          replace hx1 := keep_cell hb hx1
          replace hf0 := keep_froz hb (by rw [hr0]; rfl) hf0
          replace hf1 := keep_froz hb (by rw [hr1]; rfl) hf1
          replace hr0 := keep_cell hb hr0
          replace hr1 := keep_cell hb hr1
          replace hw := keep_below hb hw
          clear hb
          go_wp2_with fail
          refine (HG3.out _ (h.below hw) (zq.below hw)).mono ?_
          rintro e1 w3 ⟨rfl, hb⟩
          replace hx0 := keep_cell hb hx0
          replace hx1 := keep_cell hb hx1
          replace hf0 := keep_froz hb (by rw [hr0]; rfl) hf0
          replace hf1 := keep_froz hb (by rw [hr1]; rfl) hf1
          replace hr0 := keep_cell hb hr0
          replace hr1 := keep_cell hb hr1
          replace hw := keep_below hb hw
          clear hb
          clear HG1 HG2 HG3
          go_wp2
          refine wp_region_held_drew (S := fun w' => KeptBut w3 w' (w.heap.size + 1) (w.heap.size + 1)) (by kernel_rfl) ((KeptBut.refl2 _ _)).drew (fun hHeld => ?_)
          replace hw := hw.drew
          refine wpAnyH_take (i := 0) (oi := ?oo1) (v := ?vv1) ?hi1 (by kernel_rfl) (by kernel_rfl) (by kernel_rfl) ?hq1 (Or.inl ⟨?hg1, ?hy1⟩) (by assumption) ?rest1
          case hi1 => simp only [List.getElem?_toArray, List.getElem?_cons_zero, List.getElem?_cons_succ]; rfl
          case hq1 => exact fun _ _ _ h => h
          case hg1 => rfl
          case hy1 =>
            intro wq hSw
            replace hx0 := hSw.cell hx0 (by first | omega | (simp; done) | (simp; omega)) (by first | omega | (simp; done) | (simp; omega))
            replace hx1 := hSw.cell hx1 (by first | omega | (simp; done) | (simp; omega)) (by first | omega | (simp; done) | (simp; omega))
            go_simp
            (try with_reducible rfl)
          (try simp only [Act.put, List.setIfInBounds_toArray, List.set_cons_zero, List.set_cons_succ])
          refine wpAnyH_take (i := 1) (oi := ?oo2) (v := ?vv2) ?hi2 (by kernel_rfl) (by kernel_rfl) (by kernel_rfl) ?hq2 (Or.inl ⟨?hg2, ?hy2⟩) (by assumption) ?rest2
          case hi2 => simp only [List.getElem?_toArray, List.getElem?_cons_zero, List.getElem?_cons_succ]; rfl
          case hq2 => exact fun _ _ _ h => h
          case hg2 => rfl
          case hy2 =>
            intro wq hSw
            replace hx0 := hSw.cell hx0 (by first | omega | (simp; done) | (simp; omega)) (by first | omega | (simp; done) | (simp; omega))
            replace hx1 := hSw.cell hx1 (by first | omega | (simp; done) | (simp; omega)) (by first | omega | (simp; done) | (simp; omega))
            go_simp
            (try with_reducible rfl)
          (try simp only [Act.put, List.setIfInBounds_toArray, List.set_cons_zero, List.set_cons_succ])
          refine wpAnyH_take (i := 2) (oi := ?oo3) (v := ?vv3) ?hi3 (by kernel_rfl) (by kernel_rfl) (by kernel_rfl) ?hq3 (Or.inl ⟨?hg3, ?hy3⟩) (by assumption) ?rest3
          case hi3 => simp only [List.getElem?_toArray, List.getElem?_cons_zero, List.getElem?_cons_succ]; rfl
          case hq3 => exact fun _ _ _ h => h
          case hg3 => rfl
          case hy3 =>
            intro wq hSw
            replace hx0 := hSw.cell hx0 (by first | omega | (simp; done) | (simp; omega)) (by first | omega | (simp; done) | (simp; omega))
            replace hx1 := hSw.cell hx1 (by first | omega | (simp; done) | (simp; omega)) (by first | omega | (simp; done) | (simp; omega))
            go_simp
            (try with_reducible rfl)
          (try simp only [Act.put, List.setIfInBounds_toArray, List.set_cons_zero, List.set_cons_succ])
          refine wpAnyH_take (i := 5) (oi := ?oo4) (v := ?vv4) ?hi4 (by kernel_rfl) (by kernel_rfl) (by kernel_rfl) ?hq4 (Or.inl ⟨?hg4, ?hy4⟩) (by assumption) ?rest4
          case hi4 => simp only [List.getElem?_toArray, List.getElem?_cons_zero, List.getElem?_cons_succ]; rfl
          case hq4 => exact fun _ _ _ h => h
          case hg4 => rfl
          case hy4 =>
            intro wq hSw
            replace hx0 := hSw.cell hx0 (by first | omega | (simp; done) | (simp; omega)) (by first | omega | (simp; done) | (simp; omega))
            replace hx1 := hSw.cell hx1 (by first | omega | (simp; done) | (simp; omega)) (by first | omega | (simp; done) | (simp; omega))
            go_simp
            (try with_reducible rfl)
          (try simp only [Act.put, List.setIfInBounds_toArray, List.set_cons_zero, List.set_cons_succ])
          refine wpAnyH_take (i := 6) (oi := ?oo5) (v := ?vv5) ?hi5 (by kernel_rfl) (by kernel_rfl) (by kernel_rfl) ?hq5 (Or.inl ⟨?hg5, ?hy5⟩) (by assumption) ?rest5
          case hi5 => simp only [List.getElem?_toArray, List.getElem?_cons_zero, List.getElem?_cons_succ]; rfl
          case hq5 => exact fun _ _ _ h => h
          case hg5 => rfl
          case hy5 =>
            intro wq hSw
            replace hx0 := hSw.cell hx0 (by first | omega | (simp; done) | (simp; omega)) (by first | omega | (simp; done) | (simp; omega))
            replace hx1 := hSw.cell hx1 (by first | omega | (simp; done) | (simp; omega)) (by first | omega | (simp; done) | (simp; omega))
            go_simp
            (try with_reducible rfl)
          (try simp only [Act.put, List.setIfInBounds_toArray, List.set_cons_zero, List.set_cons_succ])
          refine wpAnyH_ready (rs := [3]) (by kernel_rfl) (by simp) ?_
          refine AllReadyH.cons (i := 3) (o := ?oo6) ?ho6 (fun K hK => ?hstep6) AllReadyH.nil
          case ho6 => simp only [List.getElem?_toArray, List.getElem?_cons_zero, List.getElem?_cons_succ]; rfl
          go_simp
          refine (HBo.out _ (zp.below hw) (zq.below hw)).mono ?_
          rintro e1 wz ⟨Ab, cb, rfl, hob, hb⟩
          have hib := hob.ints
          clear hob
          go_wp2_with fail
          refine hK.out _ _ (hHeld.post hb) (fun _ => ?_)
          clear hK K
          (try simp only [Act.put, List.setIfInBounds_toArray, List.set_cons_zero, List.set_cons_succ])
          refine wpAnyH_mono (S' := fun w' => KeptBut wz w' (w.heap.size + 1) (w.heap.size + 1)) (fun _ h => (hHeld.post hb).trans2 h) _ _ _ _ ?_
          replace hx0 := keep_cell hb hx0
          replace hx1 := keep_cell hb hx1
          replace hf0 := keep_froz2 hb hr0 hf0
          replace hf1 := keep_froz2 hb hr1 hf1
          replace hr0 := keep_cell hb hr0
          replace hr1 := keep_cell hb hr1
          replace hw := keep_below hb hw
          clear hHeld hb
          have hHeld : KeptBut wz wz (w.heap.size + 1) (w.heap.size + 1) := (KeptBut.refl2 _ _)
          refine wpAnyH_ready (rs := [4]) (by kernel_rfl) (by simp) ?_
          refine AllReadyH.cons (i := 4) (o := ?oo7) ?ho7 (fun K hK => ?hstep7) AllReadyH.nil
          case ho7 => simp only [List.getElem?_toArray, List.getElem?_cons_zero, List.getElem?_cons_succ]; rfl
          go_simp
          refine (HO.out _ _ _ (k.below hw) hib).mono ?_
          rintro e1 wz ⟨rfl, hb⟩
          clear hib
          go_wp2_with fail
          refine hK.out _ _ (hHeld.post hb) (fun _ => ?_)
          clear hK K
          (try simp only [Act.put, List.setIfInBounds_toArray, List.set_cons_zero, List.set_cons_succ])
          refine wpAnyH_mono (S' := fun w' => KeptBut wz w' (w.heap.size + 1) (w.heap.size + 1)) (fun _ h => (hHeld.post hb).trans2 h) _ _ _ _ ?_
          replace hx0 := keep_cell hb hx0
          replace hx1 := keep_cell hb hx1
          replace hf0 := keep_froz2 hb hr0 hf0
          replace hf1 := keep_froz2 hb hr1 hf1
          replace hr0 := keep_cell hb hr0
          replace hr1 := keep_cell hb hr1
          replace hw := keep_below hb hw
          clear hHeld hb
          have hHeld : KeptBut wz wz (w.heap.size + 1) (w.heap.size + 1) := (KeptBut.refl2 _ _)
          refine wpAnyH_ready (rs := [7]) (by kernel_rfl) (by simp) ?_
          refine AllReadyH.cons (i := 7) (o := ?oo8) ?ho8 (fun K hK => ?hstep8) AllReadyH.nil
          case ho8 => simp only [List.getElem?_toArray, List.getElem?_cons_zero, List.getElem?_cons_succ]; rfl
          go_simp
          refine (HQ.out _ (k.below hw) (zq.below hw)).mono ?_
          rintro e1 wz ⟨rfl, hb⟩
          go_wp2_with fail
          refine hK.out _ _ (hHeld.post hb) (fun _ => ?_)
          clear hK K
          (try simp only [Act.put, List.setIfInBounds_toArray, List.set_cons_zero, List.set_cons_succ])
          refine wpAnyH_mono (S' := fun w' => KeptBut wz w' (w.heap.size + 1) (w.heap.size + 1)) (fun _ h => (hHeld.post hb).trans2 h) _ _ _ _ ?_
          replace hx0 := keep_cell hb hx0
          replace hx1 := keep_cell hb hx1
          replace hf0 := keep_froz2 hb hr0 hf0
          replace hf1 := keep_froz2 hb hr1 hf1
          replace hr0 := keep_cell hb hr0
          replace hr1 := keep_cell hb hr1
          replace hw := keep_below hb hw
          clear hHeld hb
          have hHeld : KeptBut wz wz (w.heap.size + 1) (w.heap.size + 1) := (KeptBut.refl2 _ _)
          refine wpAnyH_ready (rs := [8]) (by kernel_rfl) (by simp) ?_
          refine AllReadyH.cons (i := 8) (o := ?oo9) ?ho9 (fun K hK => ?hstep9) AllReadyH.nil
          case ho9 => simp only [List.getElem?_toArray, List.getElem?_cons_zero, List.getElem?_cons_succ]; rfl
          go_simp
          refine (HC.out _).mono ?_
          rintro e1 wz ⟨rfl, hb⟩
          go_wp2_with fail
          refine hK.out _ _ (hHeld.post hb) (fun _ => ?_)
          clear hK K
          (try simp only [Act.put, List.setIfInBounds_toArray, List.set_cons_zero, List.set_cons_succ])
          refine wpAnyH_mono (S' := fun w' => KeptBut wz w' (w.heap.size + 1) (w.heap.size + 1)) (fun _ h => (hHeld.post hb).trans2 h) _ _ _ _ ?_
          replace hx0 := keep_cell hb hx0
          replace hx1 := keep_cell hb hx1
          replace hf0 := keep_froz2 hb hr0 hf0
          replace hf1 := keep_froz2 hb hr1 hf1
          replace hr0 := keep_cell hb hr0
          replace hr1 := keep_cell hb hr1
          replace hw := keep_below hb hw
          clear hHeld hb
          have hHeld : KeptBut wz wz (w.heap.size + 1) (w.heap.size + 1) := (KeptBut.refl2 _ _)
          refine wpAnyH_take (i := 9) (oi := ?oo10) (v := ?vv10) ?hi10 (by kernel_rfl) (by kernel_rfl) (by kernel_rfl) ?hq10 (Or.inl ⟨?hg10, ?hy10⟩) (by assumption) ?rest10
          case hi10 => simp only [List.getElem?_toArray, List.getElem?_cons_zero, List.getElem?_cons_succ]; rfl
          case hq10 => exact fun _ _ _ h => h
          case hg10 => rfl
          case hy10 =>
            intro wq hSw
            replace hx0 := hSw.cell hx0 (by first | omega | (simp; done) | (simp; omega)) (by first | omega | (simp; done) | (simp; omega))
            replace hx1 := hSw.cell hx1 (by first | omega | (simp; done) | (simp; omega)) (by first | omega | (simp; done) | (simp; omega))
            go_simp
            (try with_reducible rfl)
          (try simp only [Act.put, List.setIfInBounds_toArray, List.set_cons_zero, List.set_cons_succ])
          refine wpAnyH_take (i := 10) (oi := ?oo11) (v := ?vv11) ?hi11 (by kernel_rfl) (by kernel_rfl) (by kernel_rfl) ?hq11 (Or.inl ⟨?hg11, ?hy11⟩) (by assumption) ?rest11
          case hi11 => simp only [List.getElem?_toArray, List.getElem?_cons_zero, List.getElem?_cons_succ]; rfl
          case hq11 => exact fun _ _ _ h => h
          case hg11 => rfl
          case hy11 =>
            intro wq hSw
            replace hx0 := hSw.cell hx0 (by first | omega | (simp; done) | (simp; omega)) (by first | omega | (simp; done) | (simp; omega))
            replace hx1 := hSw.cell hx1 (by first | omega | (simp; done) | (simp; omega)) (by first | omega | (simp; done) | (simp; omega))
            go_simp
            (try with_reducible rfl)
          (try simp only [Act.put, List.setIfInBounds_toArray, List.set_cons_zero, List.set_cons_succ])
          refine wpAnyH_ready (rs := [11]) (by kernel_rfl) (by simp) ?_
          refine AllReadyH.cons (i := 11) (o := ?oo12) ?ho12 (fun K hK => ?hstep12) AllReadyH.nil
          case ho12 => simp only [List.getElem?_toArray, List.getElem?_cons_zero, List.getElem?_cons_succ]; rfl
          go_simp
          refine hK.out _ _ (((KeptBut.refl2 _ _).setg _ _).setg _ _) (fun hHeld2 => ?_)
          clear hK K
          (try simp only [Act.put, List.setIfInBounds_toArray, List.set_cons_zero, List.set_cons_succ])
          refine wpAnyH_take (i := 12) (oi := ?oo13) (v := ?vv13) ?hi13 (by kernel_rfl) (by kernel_rfl) (by kernel_rfl) ?hq13 (Or.inl ⟨?hg13, ?hy13⟩) (by assumption) ?rest13
          case hi13 => simp only [List.getElem?_toArray, List.getElem?_cons_zero, List.getElem?_cons_succ]; rfl
          case hq13 => exact fun _ _ _ h => h
          case hg13 => rfl
          case hy13 =>
            intro wq hSw
            replace hx0 := hSw.cell hx0 (by first | omega | (simp; done) | (simp; omega)) (by first | omega | (simp; done) | (simp; omega))
            replace hx1 := hSw.cell hx1 (by first | omega | (simp; done) | (simp; omega)) (by first | omega | (simp; done) | (simp; omega))
            go_simp
            (try with_reducible rfl)
          (try simp only [Act.put, List.setIfInBounds_toArray, List.set_cons_zero, List.set_cons_succ])
          refine wpAnyH_done (by kernel_rfl) ?_ _
          go_wp2
          refine bodyPost_ret (v := .tuple #[.agg #[.int .i64 (lowX ho hq), .int .i64 (lowY ho hq)], .bool true]) (by simp (maxDischargeDepth := 9) [results, Try.results41, go_sem, *]) rfl ⟨rfl, ?_⟩
          (repeat (first | with_reducible exact Below.refl _ _ | with_reducible assumption | with_reducible refine Below.alloc' ?_ ?_ _ | with_reducible refine Below.setCell' ?_ ?_ _ | with_reducible refine Below.drewN' ?_ _ | with_reducible refine Below.drew ?_ | with_reducible refine Below.transA ?_ (by assumption) ?_ | omega | (focus (simp; done)) | (focus (simp; omega))))
end Go.Proofs.Ytdjfjlmbaehppaa
