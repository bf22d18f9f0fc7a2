/- Contracts: chances of events. -/
import Derived.Test.YtdjfjlmbaehppaaIndep
import Derived.Test.YtdjfjlmbaehppaaChance
namespace Go.Proofs.Ytdjfjlmbaehppaa
open Go.ChangeShapes Go.WideShapes Go.ChangeAt Go.RowKit

noncomputable def evcOk (xs ys ps : List Int) : Bool := good xs ys && isEv xs ps
noncomputable def evcN (xs ys ps : List Int) : Int := if evcOk xs ys ps then lowX (heavy ys ps) (nth (sumsL xs ys) 0) else 0
noncomputable def evcM (xs ys ps : List Int) : Int := if evcOk xs ys ps then lowY (heavy ys ps) (nth (sumsL xs ys) 0) else 0
theorem evcN_no {xs ys ps : List Int} (h : evcOk xs ys ps = false) : evcN xs ys ps = 0 := by unfold evcN; rw [h]; rfl
theorem evcM_no {xs ys ps : List Int} (h : evcOk xs ys ps = false) : evcM xs ys ps = 0 := by unfold evcM; rw [h]; rfl
theorem evcN_yes {xs ys ps : List Int} (h : evcOk xs ys ps = true) : evcN xs ys ps = lowX (heavy ys ps) (nth (sumsL xs ys) 0) := by unfold evcN; rw [h]; rfl
theorem evcM_yes {xs ys ps : List Int} (h : evcOk xs ys ps = true) : evcM xs ys ps = lowY (heavy ys ps) (nth (sumsL xs ys) 0) := by unfold evcM; rw [h]; rfl
set_option maxHeartbeats 1000000 in
set_option maxRecDepth 100000 in
theorem specEventChance_any (A B : Option Addr) (c e : Nat) (xs ys : List Int) (P : Option Addr) (cp : Nat) (ps : List Int) (w : World) (h : IntS w A xs) (k : IntS w B ys) (zp : IntS w P ps) (_hx : Bd xs) (_hy : Bd ys) (_bp : Bd ps) (hn : xs.length ≤ 1048576) (hm : ys.length ≤ 1048576) (lp : ps.length ≤ 1048576) :
    Calls Try.prog 25 #[.agg #[.slice A xs.length c, .slice B ys.length e], .slice P ps.length cp] w (RetAB w (evcN xs ys ps) (evcM xs ys ps) (evcOk xs ys ps)) := by
  obtain ⟨r1, q1⟩ : ∃ r, (good xs ys && isEv xs ps) = r := ⟨_, rfl⟩
  cases r1
  case false =>
    have hO : evcOk xs ys ps = false := by unfold evcOk ; simp [q1]
    have hV_evcN := evcN_no hO
    have hV_evcM := evcM_no hO
    rw [hV_evcN]
    rw [hV_evcM]
    rw [hO]
    clear hO hV_evcN hV_evcM
    have HG1 := Lib.hid (fun W (h : IntS W A xs) (k : IntS W B ys) (zp : IntS W P ps) => l2Event_any A B P c e cp xs ys ps W h k zp _hx _hy hn hm lp)
    rw [q1] at HG1
    clear q1 _hx _hy _bp
    go_enter Try.func25, Try.ntmps25
    go_wp2_with fail
    refine (HG1.out _ ((h.alloc _).alloc _) ((k.alloc _).alloc _) ((zp.alloc _).alloc _)).mono ?_
    rintro e1 w1 ⟨rfl, hb⟩
    have hx0 : w1.cell? ⟨w.heap.size, 0, none⟩ = some (.slice A xs.length c) := keep_cell hb (by simp)
    have hx1 : w1.cell? ⟨w.heap.size, 1, none⟩ = some (.slice B ys.length e) := keep_cell hb (by simp)
    have hr0 : w1.cell? ⟨w.heap.size + 1, 0, none⟩ = some (.int .i64 0) := keep_cell hb (by simp)
    have hr1 : w1.cell? ⟨w.heap.size + 1, 1, none⟩ = some (.int .i64 0) := keep_cell hb (by simp)
    have hf0 : w1.frozen? ⟨w.heap.size + 1, 0, none⟩ = false := keep_froz hb (by simp) (by simp)
    have hf1 : w1.frozen? ⟨w.heap.size + 1, 1, none⟩ = false := keep_froz hb (by simp) (by simp)
    have hw : Below w.heap.size w w1 := below_alloc (below_alloc (hb))
    clear hb
    go_wp2
    refine bodyPost_ret (v := .tuple #[.agg #[.int .i64 0, .int .i64 0], .bool false]) (by simp (maxDischargeDepth := 9) [results, Try.results25, go_sem, *]) rfl ⟨rfl, ?_⟩
    (repeat (first | with_reducible exact Below.refl _ _ | with_reducible assumption | with_reducible refine Below.alloc' ?_ ?_ _ | with_reducible refine Below.setCell' ?_ ?_ _ | with_reducible refine Below.drewN' ?_ _ | with_reducible refine Below.drew ?_ | with_reducible refine Below.transA ?_ (by assumption) ?_ | omega | (focus (simp; done)) | (focus (simp; omega))))
  case true =>
    have hO : evcOk xs ys ps = true := by unfold evcOk ; simp [q1]
    have hV_evcN := evcN_yes hO
    have hV_evcM := evcM_yes hO
    rw [hV_evcN]
    rw [hV_evcM]
    rw [hO]
    clear hO hV_evcN hV_evcM
    have HG1 := Lib.hid (fun W (h : IntS W A xs) (k : IntS W B ys) (zp : IntS W P ps) => l2Event_any A B P c e cp xs ys ps W h k zp _hx _hy hn hm lp)
    rw [q1] at HG1
    have hgl := good_len (Bool.and_eq_true_iff.1 q1).1
    have np := ev_node (Bool.and_eq_true_iff.1 q1).2
    have lp2 := ev_len (Bool.and_eq_true_iff.1 q1).2
    have b1 := heavy_bd (Bool.and_eq_true_iff.1 q1).1 (zs := ps) (by omega)
    have b4 := sums_bd (Bool.and_eq_true_iff.1 q1).1 0
    have b5 := sums_root (Bool.and_eq_true_iff.1 q1).1
    have HSu := Lib.hid (fun W (h : IntS W A xs) (k : IntS W B ys) => l2Sums_good (Bool.and_eq_true_iff.1 q1).1 A B c e W h k)
    have HP := Lib.hid (fun W (k : IntS W B ys) (z : IntS W P ps) => l2Heavy_any (Bool.and_eq_true_iff.1 q1).1 A B P xs.length c e cp ps W k z lp (by rw [hgl.2.2]; exact np))
    have HL : Hid (1 ≤ (sumsL xs ys).length) := by have := sums_len (Bool.and_eq_true_iff.1 q1).1; show 1 ≤ _; omega
    generalize heavy ys ps = hp at *
    generalize sumsL xs ys = S at *
    have HC := fun W => l2Cut_any hp (nth S 0) W (by omega) (by omega) (by omega)
    replace HC := Lib.hid HC
    clear hgl np b1 b4 b5 lp2
    clear q1 _hx _hy _bp
    go_enter Try.func25, Try.ntmps25
    go_wp2_with fail
    refine (HG1.out _ ((h.alloc _).alloc _) ((k.alloc _).alloc _) ((zp.alloc _).alloc _)).mono ?_
    rintro e1 w1 ⟨rfl, hb⟩
    have hx0 : w1.cell? ⟨w.heap.size, 0, none⟩ = some (.slice A xs.length c) := keep_cell hb (by simp)
    have hx1 : w1.cell? ⟨w.heap.size, 1, none⟩ = some (.slice B ys.length e) := keep_cell hb (by simp)
    have hr0 : w1.cell? ⟨w.heap.size + 1, 0, none⟩ = some (.int .i64 0) := keep_cell hb (by simp)
    have hr1 : w1.cell? ⟨w.heap.size + 1, 1, none⟩ = some (.int .i64 0) := keep_cell hb (by simp)
    have hf0 : w1.frozen? ⟨w.heap.size + 1, 0, none⟩ = false := keep_froz hb (by simp) (by simp)
    have hf1 : w1.frozen? ⟨w.heap.size + 1, 1, none⟩ = false := keep_froz hb (by simp) (by simp)
    have hw : Below w.heap.size w w1 := below_alloc (below_alloc (hb))
    clear hb
    clear HG1
    have hrw := World.block_lt_of_cell? _ _ hr0
    replace hrw : w.heap.size + 1 < w1.heap.size := hrw
    go_wp2
    refine wp_region_held_drew (S := fun w' => KeptBut w1 w' (w.heap.size + 1) (w.heap.size + 1)) (by kernel_rfl) ((KeptBut.refl2 _ _)).drew (fun hHeld => ?_)
    replace hw := hw.drew
    refine wpAnyH_take (i := 0) (oi := ?oo1) (v := ?vv1) ?hi1 (by kernel_rfl) (by kernel_rfl) (by kernel_rfl) ?hq1 (Or.inl ⟨?hg1, ?hy1⟩) (by assumption) ?rest1
    case hi1 => simp only [List.getElem?_toArray, List.getElem?_cons_zero, List.getElem?_cons_succ]; rfl
    case hq1 => exact fun _ _ _ h => h
    case hg1 => rfl
    case hy1 =>
      intro wq hSw
      replace hx0 := hSw.cell hx0 (by first | omega | (simp; done) | (simp; omega)) (by first | omega | (simp; done) | (simp; omega))
      replace hx1 := hSw.cell hx1 (by first | omega | (simp; done) | (simp; omega)) (by first | omega | (simp; done) | (simp; omega))
      go_simp
      (try with_reducible rfl)
    (try simp only [Act.put, List.setIfInBounds_toArray, List.set_cons_zero, List.set_cons_succ])
    refine wpAnyH_take (i := 1) (oi := ?oo2) (v := ?vv2) ?hi2 (by kernel_rfl) (by kernel_rfl) (by kernel_rfl) ?hq2 (Or.inl ⟨?hg2, ?hy2⟩) (by assumption) ?rest2
    case hi2 => simp only [List.getElem?_toArray, List.getElem?_cons_zero, List.getElem?_cons_succ]; rfl
    case hq2 => exact fun _ _ _ h => h
    case hg2 => rfl
    case hy2 =>
      intro wq hSw
      replace hx0 := hSw.cell hx0 (by first | omega | (simp; done) | (simp; omega)) (by first | omega | (simp; done) | (simp; omega))
      replace hx1 := hSw.cell hx1 (by first | omega | (simp; done) | (simp; omega)) (by first | omega | (simp; done) | (simp; omega))
      go_simp
      (try with_reducible rfl)
    (try simp only [Act.put, List.setIfInBounds_toArray, List.set_cons_zero, List.set_cons_succ])
    refine wpAnyH_take (i := 3) (oi := ?oo3) (v := ?vv3) ?hi3 (by kernel_rfl) (by kernel_rfl) (by kernel_rfl) ?hq3 (Or.inl ⟨?hg3, ?hy3⟩) (by assumption) ?rest3
    case hi3 => simp only [List.getElem?_toArray, List.getElem?_cons_zero, List.getElem?_cons_succ]; rfl
    case hq3 => exact fun _ _ _ h => h
    case hg3 => rfl
    case hy3 =>
      intro wq hSw
      replace hx0 := hSw.cell hx0 (by first | omega | (simp; done) | (simp; omega)) (by first | omega | (simp; done) | (simp; omega))
      replace hx1 := hSw.cell hx1 (by first | omega | (simp; done) | (simp; omega)) (by first | omega | (simp; done) | (simp; omega))
      go_simp
      (try with_reducible rfl)
    (try simp only [Act.put, List.setIfInBounds_toArray, List.set_cons_zero, List.set_cons_succ])
    refine wpAnyH_ready (rs := [2]) (by kernel_rfl) (by simp) ?_
    refine AllReadyH.cons (i := 2) (o := ?oo4) ?ho4 (fun K hK => ?hstep4) AllReadyH.nil
    case ho4 => simp only [List.getElem?_toArray, List.getElem?_cons_zero, List.getElem?_cons_succ]; rfl
    go_simp
    refine (HP.out _ (k.below hw) (zp.below hw)).mono ?_
    rintro e1 wz ⟨rfl, hb⟩
    go_wp2_with fail
    refine hK.out _ _ (hHeld.post hb) (fun _ => ?_)
    clear hK K
    (try simp only [Act.put, List.setIfInBounds_toArray, List.set_cons_zero, List.set_cons_succ])
    refine wpAnyH_mono (S' := fun w' => KeptBut wz w' (w.heap.size + 1) (w.heap.size + 1)) (fun _ h => (hHeld.post hb).trans2 h) _ _ _ _ ?_
    replace hx0 := keep_cell hb hx0
    replace hx1 := keep_cell hb hx1
    replace hf0 := keep_froz2 hb hr0 hf0
    replace hf1 := keep_froz2 hb hr1 hf1
    replace hr0 := keep_cell hb hr0
    replace hr1 := keep_cell hb hr1
    replace hw := keep_below hb hw
    clear hHeld hb
    have hHeld : KeptBut wz wz (w.heap.size + 1) (w.heap.size + 1) := (KeptBut.refl2 _ _)
    refine wpAnyH_ready (rs := [4]) (by kernel_rfl) (by simp) ?_
    refine AllReadyH.cons (i := 4) (o := ?oo5) ?ho5 (fun K hK => ?hstep5) AllReadyH.nil
    case ho5 => simp only [List.getElem?_toArray, List.getElem?_cons_zero, List.getElem?_cons_succ]; rfl
    go_simp
    have hrz := World.block_lt_of_cell? _ _ hr0
    simp only at hrz
    refine (HSu.out _ (h.below hw) (k.below hw)).mono ?_
    rintro e1 wz ⟨As, cs, rfl, hos, hb⟩
    obtain ⟨gs, rfl, hgs, hrs⟩ := hos.pos HL.out
    have hS0 := hrs.cell (j := 0) HL.out
    have hl0 : 0 < S.length := HL.out
    have hgr : w.heap.size + 1 < gs := by omega
    clear hrs hos hrz hgs
    go_wp2_with fail
    refine hK.out _ _ (hHeld.post hb) (fun _ => ?_)
    clear hK K
    (try simp only [Act.put, List.setIfInBounds_toArray, List.set_cons_zero, List.set_cons_succ])
    refine wpAnyH_mono (S' := fun w' => KeptBut wz w' (w.heap.size + 1) (w.heap.size + 1)) (fun _ h => (hHeld.post hb).trans2 h) _ _ _ _ ?_
    replace hx0 := keep_cell hb hx0
    replace hx1 := keep_cell hb hx1
    replace hf0 := keep_froz2 hb hr0 hf0
    replace hf1 := keep_froz2 hb hr1 hf1
    replace hr0 := keep_cell hb hr0
    replace hr1 := keep_cell hb hr1
    replace hw := keep_below hb hw
    clear hHeld hb
    have hHeld : KeptBut wz wz (w.heap.size + 1) (w.heap.size + 1) := (KeptBut.refl2 _ _)
    refine wpAnyH_take (i := 5) (oi := ?oo6) (v := ?vv6) ?hi6 (by kernel_rfl) (by kernel_rfl) (by kernel_rfl) ?hq6 (Or.inl ⟨?hg6, ?hy6⟩) (by assumption) ?rest6
    case hi6 => simp only [List.getElem?_toArray, List.getElem?_cons_zero, List.getElem?_cons_succ]; rfl
    case hq6 => exact fun _ _ _ h => h
    case hg6 => rfl
    case hy6 =>
      intro wq hSw
      replace hx0 := hSw.cell hx0 (by first | omega | (simp; done) | (simp; omega)) (by first | omega | (simp; done) | (simp; omega))
      replace hx1 := hSw.cell hx1 (by first | omega | (simp; done) | (simp; omega)) (by first | omega | (simp; done) | (simp; omega))
      replace hS0 := hSw.cell hS0 (by first | omega | (simp; done) | (simp; omega)) (by first | omega | (simp; done) | (simp; omega))
      go_simp
      (try with_reducible rfl)
    (try simp only [Act.put, List.setIfInBounds_toArray, List.set_cons_zero, List.set_cons_succ])
    refine wpAnyH_take (i := 6) (oi := ?oo7) (v := ?vv7) ?hi7 (by kernel_rfl) (by kernel_rfl) (by kernel_rfl) ?hq7 (Or.inl ⟨?hg7, ?hy7⟩) (by assumption) ?rest7
    case hi7 => simp only [List.getElem?_toArray, List.getElem?_cons_zero, List.getElem?_cons_succ]; rfl
    case hq7 => exact fun _ _ _ h => h
    case hg7 => rfl
    case hy7 =>
      intro wq hSw
      replace hx0 := hSw.cell hx0 (by first | omega | (simp; done) | (simp; omega)) (by first | omega | (simp; done) | (simp; omega))
      replace hx1 := hSw.cell hx1 (by first | omega | (simp; done) | (simp; omega)) (by first | omega | (simp; done) | (simp; omega))
      replace hS0 := hSw.cell hS0 (by first | omega | (simp; done) | (simp; omega)) (by first | omega | (simp; done) | (simp; omega))
      go_simp
      (try with_reducible rfl)
    (try simp only [Act.put, List.setIfInBounds_toArray, List.set_cons_zero, List.set_cons_succ])
    refine wpAnyH_ready (rs := [7]) (by kernel_rfl) (by simp) ?_
    refine AllReadyH.cons (i := 7) (o := ?oo8) ?ho8 (fun K hK => ?hstep8) AllReadyH.nil
    case ho8 => simp only [List.getElem?_toArray, List.getElem?_cons_zero, List.getElem?_cons_succ]; rfl
    go_simp
    refine (HC.out _).mono ?_
    rintro e1 wz ⟨rfl, hb⟩
    go_wp2_with fail
    refine hK.out _ _ (hHeld.post hb) (fun _ => ?_)
    clear hK K
    (try simp only [Act.put, List.setIfInBounds_toArray, List.set_cons_zero, List.set_cons_succ])
    refine wpAnyH_mono (S' := fun w' => KeptBut wz w' (w.heap.size + 1) (w.heap.size + 1)) (fun _ h => (hHeld.post hb).trans2 h) _ _ _ _ ?_
    replace hx0 := keep_cell hb hx0
    replace hx1 := keep_cell hb hx1
    replace hS0 := keep_cell hb hS0
    replace hf0 := keep_froz2 hb hr0 hf0
    replace hf1 := keep_froz2 hb hr1 hf1
    replace hr0 := keep_cell hb hr0
    replace hr1 := keep_cell hb hr1
    replace hw := keep_below hb hw
    clear hHeld hb
    have hHeld : KeptBut wz wz (w.heap.size + 1) (w.heap.size + 1) := (KeptBut.refl2 _ _)
    refine wpAnyH_ready (rs := [8]) (by kernel_rfl) (by simp) ?_
    refine AllReadyH.cons (i := 8) (o := ?oo9) ?ho9 (fun K hK => ?hstep9) AllReadyH.nil
    case ho9 => simp only [List.getElem?_toArray, List.getElem?_cons_zero, List.getElem?_cons_succ]; rfl
    go_simp
    refine hK.out _ _ (((KeptBut.refl2 _ _).setg _ _).setg _ _) (fun hHeld2 => ?_)
    clear hK K
    (try simp only [Act.put, List.setIfInBounds_toArray, List.set_cons_zero, List.set_cons_succ])
    refine wpAnyH_take (i := 9) (oi := ?oo10) (v := ?vv10) ?hi10 (by kernel_rfl) (by kernel_rfl) (by kernel_rfl) ?hq10 (Or.inl ⟨?hg10, ?hy10⟩) (by assumption) ?rest10
    case hi10 => simp only [List.getElem?_toArray, List.getElem?_cons_zero, List.getElem?_cons_succ]; rfl
    case hq10 => exact fun _ _ _ h => h
    case hg10 => rfl
    case hy10 =>
      intro wq hSw
      replace hx0 := hSw.cell hx0 (by first | omega | (simp; done) | (simp; omega)) (by first | omega | (simp; done) | (simp; omega))
      replace hx1 := hSw.cell hx1 (by first | omega | (simp; done) | (simp; omega)) (by first | omega | (simp; done) | (simp; omega))
      replace hS0 := hSw.cell hS0 (by first | omega | (simp; done) | (simp; omega)) (by first | omega | (simp; done) | (simp; omega))
      go_simp
      (try with_reducible rfl)
    (try simp only [Act.put, List.setIfInBounds_toArray, List.set_cons_zero, List.set_cons_succ])
    refine wpAnyH_done (by kernel_rfl) ?_ _
    go_wp2
    refine bodyPost_ret (v := .tuple #[.agg #[.int .i64 (lowX hp (nth S 0)), .int .i64 (lowY hp (nth S 0))], .bool true]) (by simp (maxDischargeDepth := 9) [results, Try.results25, go_sem, *]) rfl ⟨rfl, ?_⟩
    (repeat (first | with_reducible exact Below.refl _ _ | with_reducible assumption | with_reducible refine Below.alloc' ?_ ?_ _ | with_reducible refine Below.setCell' ?_ ?_ _ | with_reducible refine Below.drewN' ?_ _ | with_reducible refine Below.drew ?_ | with_reducible refine Below.transA ?_ (by assumption) ?_ | omega | (focus (simp; done)) | (focus (simp; omega))))
set_option maxHeartbeats 1000000 in
set_option maxRecDepth 100000 in
theorem implEventChance_any (A B : Option Addr) (c e : Nat) (xs ys : List Int) (P : Option Addr) (cp : Nat) (ps : List Int) (w : World) (h : IntS w A xs) (k : IntS w B ys) (zp : IntS w P ps) (_hx : Bd xs) (_hy : Bd ys) (_bp : Bd ps) (hn : xs.length ≤ 1048576) (hm : ys.length ≤ 1048576) (lp : ps.length ≤ 1048576) :
    Calls Try.prog 26 #[.agg #[.slice A xs.length c, .slice B ys.length e], .slice P ps.length cp] w (RetAB w (evcN xs ys ps) (evcM xs ys ps) (evcOk xs ys ps)) := by
  obtain ⟨r1, q1⟩ : ∃ r, (good xs ys) = r := ⟨_, rfl⟩
  cases r1
  case false =>
    have hO : evcOk xs ys ps = false := by unfold evcOk ; simp [q1]
    have hV_evcN := evcN_no hO
    have hV_evcM := evcM_no hO
    rw [hV_evcN]
    rw [hV_evcM]
    rw [hO]
    clear hO hV_evcN hV_evcM
    have HG1 := Lib.hid (fun W (h : IntS W A xs) (k : IntS W B ys) => isTree_any A B c e xs ys W h k _hx _hy hn hm)
    rw [q1] at HG1
    clear q1 _hx _hy _bp
    go_enter Try.func26, Try.ntmps26
    go_wp2_with fail
    refine (HG1.out _ ((h.alloc _).alloc _) ((k.alloc _).alloc _)).mono ?_
    rintro e1 w1 ⟨rfl, hb⟩
    have hx0 : w1.cell? ⟨w.heap.size, 0, none⟩ = some (.slice A xs.length c) := keep_cell hb (by simp)
    have hx1 : w1.cell? ⟨w.heap.size, 1, none⟩ = some (.slice B ys.length e) := keep_cell hb (by simp)
    have hr0 : w1.cell? ⟨w.heap.size + 1, 0, none⟩ = some (.int .i64 0) := keep_cell hb (by simp)
    have hr1 : w1.cell? ⟨w.heap.size + 1, 1, none⟩ = some (.int .i64 0) := keep_cell hb (by simp)
    have hf0 : w1.frozen? ⟨w.heap.size + 1, 0, none⟩ = false := keep_froz hb (by simp) (by simp)
    have hf1 : w1.frozen? ⟨w.heap.size + 1, 1, none⟩ = false := keep_froz hb (by simp) (by simp)
    have hw : Below w.heap.size w w1 := below_alloc (below_alloc (hb))
    clear hb
    go_wp2
    refine bodyPost_ret (v := .tuple #[.agg #[.int .i64 0, .int .i64 0], .bool false]) (by simp (maxDischargeDepth := 9) [results, Try.results26, go_sem, *]) rfl ⟨rfl, ?_⟩
    (repeat (first | with_reducible exact Below.refl _ _ | with_reducible assumption | with_reducible refine Below.alloc' ?_ ?_ _ | with_reducible refine Below.setCell' ?_ ?_ _ | with_reducible refine Below.drewN' ?_ _ | with_reducible refine Below.drew ?_ | with_reducible refine Below.transA ?_ (by assumption) ?_ | omega | (focus (simp; done)) | (focus (simp; omega))))
  case true =>
    obtain ⟨r2, q2⟩ : ∃ r, (isEv xs ps) = r := ⟨_, rfl⟩
    cases r2
    case false =>
      have hO : evcOk xs ys ps = false := by unfold evcOk ; simp [q1, q2]
      have hV_evcN := evcN_no hO
      have hV_evcM := evcM_no hO
      rw [hV_evcN]
      rw [hV_evcM]
      rw [hO]
      clear hO hV_evcN hV_evcM
      have HG1 := Lib.hid (fun W (h : IntS W A xs) (k : IntS W B ys) => isTree_any A B c e xs ys W h k _hx _hy hn hm)
      rw [q1] at HG1
      have HG2 := Lib.hid (fun W (h : IntS W A xs) (zp : IntS W P ps) => isEvent_good q1 A B P c ys.length e cp ps W h zp lp)
      rw [q2] at HG2
      clear q1 q2 _hx _hy _bp
      go_enter Try.func26, Try.ntmps26
      go_wp2_with fail
      refine (HG1.out _ ((h.alloc _).alloc _) ((k.alloc _).alloc _)).mono ?_
      rintro e1 w1 ⟨rfl, hb⟩
      have hx0 : w1.cell? ⟨w.heap.size, 0, none⟩ = some (.slice A xs.length c) := keep_cell hb (by simp)
      have hx1 : w1.cell? ⟨w.heap.size, 1, none⟩ = some (.slice B ys.length e) := keep_cell hb (by simp)
      have hr0 : w1.cell? ⟨w.heap.size + 1, 0, none⟩ = some (.int .i64 0) := keep_cell hb (by simp)
      have hr1 : w1.cell? ⟨w.heap.size + 1, 1, none⟩ = some (.int .i64 0) := keep_cell hb (by simp)
      have hf0 : w1.frozen? ⟨w.heap.size + 1, 0, none⟩ = false := keep_froz hb (by simp) (by simp)
      have hf1 : w1.frozen? ⟨w.heap.size + 1, 1, none⟩ = false := keep_froz hb (by simp) (by simp)
      have hw : Below w.heap.size w w1 := below_alloc (below_alloc (hb))
      clear hb
      go_wp2_with fail
      refine (HG2.out _ (h.below hw) (zp.below hw)).mono ?_
      rintro e1 w2 ⟨rfl, hb⟩
      replace hx0 := keep_cell hb hx0
      replace hx1 := keep_cell hb hx1
      replace hf0 := keep_froz hb (by rw [hr0]; rfl) hf0
      replace hf1 := keep_froz hb (by rw [hr1]; rfl) hf1
      replace hr0 := keep_cell hb hr0
      replace hr1 := keep_cell hb hr1
      replace hw := keep_below hb hw
      clear hb
      go_wp2
      refine bodyPost_ret (v := .tuple #[.agg #[.int .i64 0, .int .i64 0], .bool false]) (by simp (maxDischargeDepth := 9) [results, Try.results26, go_sem, *]) rfl ⟨rfl, ?_⟩
      (repeat (first | with_reducible exact Below.refl _ _ | with_reducible assumption | with_reducible refine Below.alloc' ?_ ?_ _ | with_reducible refine Below.setCell' ?_ ?_ _ | with_reducible refine Below.drewN' ?_ _ | with_reducible refine Below.drew ?_ | with_reducible refine Below.transA ?_ (by assumption) ?_ | omega | (focus (simp; done)) | (focus (simp; omega))))
    case true =>
      have hO : evcOk xs ys ps = true := by unfold evcOk ; simp [q1, q2]
      have hV_evcN := evcN_yes hO
      have hV_evcM := evcM_yes hO
      rw [hV_evcN]
      rw [hV_evcM]
      rw [hO]
      clear hO hV_evcN hV_evcM
      have HG1 := Lib.hid (fun W (h : IntS W A xs) (k : IntS W B ys) => isTree_any A B c e xs ys W h k _hx _hy hn hm)
      rw [q1] at HG1
      have HG2 := Lib.hid (fun W (h : IntS W A xs) (zp : IntS W P ps) => isEvent_good q1 A B P c ys.length e cp ps W h zp lp)
      rw [q2] at HG2
      have hgl := good_len q1
      have np := ev_node q2
      have lp2 := ev_len q2
      have b1 := heavy_bd q1 (zs := ps) (by omega)
      have b4 := sums_bd q1 0
      have b5 := sums_root q1
      have HSu := Lib.hid (fun W (h : IntS W A xs) (k : IntS W B ys) => sums_good q1 A B c e W h k)
      have HP := Lib.hid (fun W (k : IntS W B ys) (z : IntS W P ps) => weighed_any q1 A B P xs.length c e cp ps W k z lp (by rw [hgl.2.2]; exact np))
      have HL : Hid (1 ≤ (sumsL xs ys).length) := by have := sums_len q1; show 1 ≤ _; omega
      generalize heavy ys ps = hp at *
      generalize sumsL xs ys = S at *
      have HC := fun W => lowest_any hp (nth S 0) W (by omega) (by omega) (by omega)
      have hlo := low_small (a := hp) (b := nth S 0) (by omega) (by omega)
      rw [hlo.1, hlo.2.1, hlo.2.2] at HC
      clear hlo
      replace HC := Lib.hid HC
      clear hgl np b1 b4 b5 lp2
      clear q1 q2 _hx _hy _bp
      go_enter Try.func26, Try.ntmps26
      go_wp2_with fail
      refine (HG1.out _ ((h.alloc _).alloc _) ((k.alloc _).alloc _)).mono ?_
      rintro e1 w1 ⟨rfl, hb⟩
      have hx0 : w1.cell? ⟨w.heap.size, 0, none⟩ = some (.slice A xs.length c) := keep_cell hb (by simp)
      have hx1 : w1.cell? ⟨w.heap.size, 1, none⟩ = some (.slice B ys.length e) := keep_cell hb (by simp)
      have hr0 : w1.cell? ⟨w.heap.size + 1, 0, none⟩ = some (.int .i64 0) := keep_cell hb (by simp)
      have hr1 : w1.cell? ⟨w.heap.size + 1, 1, none⟩ = some (.int .i64 0) := keep_cell hb (by simp)
      have hf0 : w1.frozen? ⟨w.heap.size + 1, 0, none⟩ = false := keep_froz hb (by simp) (by simp)
      have hf1 : w1.frozen? ⟨w.heap.size + 1, 1, none⟩ = false := keep_froz hb (by simp) (by simp)
      have hw : Below w.heap.size w w1 := below_alloc (below_alloc (hb))
      clear hb
      go_wp2_with fail
      refine (HG2.out _ (h.below hw) (zp.below hw)).mono ?_
      rintro e1 w2 ⟨rfl, hb⟩
      replace hx0 := keep_cell hb hx0
      replace hx1 := keep_cell hb hx1
      replace hf0 := keep_froz hb (by rw [hr0]; rfl) hf0
      replace hf1 := keep_froz hb (by rw [hr1]; rfl) hf1
      replace hr0 := keep_cell hb hr0
      replace hr1 := keep_cell hb hr1
      replace hw := keep_below hb hw
      clear hb
      clear HG1 HG2
      have hrw := World.block_lt_of_cell? _ _ hr0
      replace hrw : w.heap.size + 1 < w2.heap.size := hrw
      go_wp2
      refine wp_region_held_drew (S := fun w' => KeptBut w2 w' (w.heap.size + 1) (w.heap.size + 1)) (by kernel_rfl) ((KeptBut.refl2 _ _)).drew (fun hHeld => ?_)
      replace hw := hw.drew
      refine wpAnyH_take (i := 0) (oi := ?oo1) (v := ?vv1) ?hi1 (by kernel_rfl) (by kernel_rfl) (by kernel_rfl) ?hq1 (Or.inl ⟨?hg1, ?hy1⟩) (by assumption) ?rest1
      case hi1 => simp only [List.getElem?_toArray, List.getElem?_cons_zero, List.getElem?_cons_succ]; rfl
      case hq1 => exact fun _ _ _ h => h
      case hg1 => rfl
      case hy1 =>
        intro wq hSw
        replace hx0 := hSw.cell hx0 (by first | omega | (simp; done) | (simp; omega)) (by first | omega | (simp; done) | (simp; omega))
        replace hx1 := hSw.cell hx1 (by first | omega | (simp; done) | (simp; omega)) (by first | omega | (simp; done) | (simp; omega))
        go_simp
        (try with_reducible rfl)
      (try simp only [Act.put, List.setIfInBounds_toArray, List.set_cons_zero, List.set_cons_succ])
      refine wpAnyH_take (i := 1) (oi := ?oo2) (v := ?vv2) ?hi2 (by kernel_rfl) (by kernel_rfl) (by kernel_rfl) ?hq2 (Or.inl ⟨?hg2, ?hy2⟩) (by assumption) ?rest2
      case hi2 => simp only [List.getElem?_toArray, List.getElem?_cons_zero, List.getElem?_cons_succ]; rfl
      case hq2 => exact fun _ _ _ h => h
      case hg2 => rfl
      case hy2 =>
        intro wq hSw
        replace hx0 := hSw.cell hx0 (by first | omega | (simp; done) | (simp; omega)) (by first | omega | (simp; done) | (simp; omega))
        replace hx1 := hSw.cell hx1 (by first | omega | (simp; done) | (simp; omega)) (by first | omega | (simp; done) | (simp; omega))
        go_simp
        (try with_reducible rfl)
      (try simp only [Act.put, List.setIfInBounds_toArray, List.set_cons_zero, List.set_cons_succ])
      refine wpAnyH_take (i := 3) (oi := ?oo3) (v := ?vv3) ?hi3 (by kernel_rfl) (by kernel_rfl) (by kernel_rfl) ?hq3 (Or.inl ⟨?hg3, ?hy3⟩) (by assumption) ?rest3
      case hi3 => simp only [List.getElem?_toArray, List.getElem?_cons_zero, List.getElem?_cons_succ]; rfl
      case hq3 => exact fun _ _ _ h => h
      case hg3 => rfl
      case hy3 =>
        intro wq hSw
        replace hx0 := hSw.cell hx0 (by first | omega | (simp; done) | (simp; omega)) (by first | omega | (simp; done) | (simp; omega))
        replace hx1 := hSw.cell hx1 (by first | omega | (simp; done) | (simp; omega)) (by first | omega | (simp; done) | (simp; omega))
        go_simp
        (try with_reducible rfl)
      (try simp only [Act.put, List.setIfInBounds_toArray, List.set_cons_zero, List.set_cons_succ])
      refine wpAnyH_ready (rs := [2]) (by kernel_rfl) (by simp) ?_
      refine AllReadyH.cons (i := 2) (o := ?oo4) ?ho4 (fun K hK => ?hstep4) AllReadyH.nil
      case ho4 => simp only [List.getElem?_toArray, List.getElem?_cons_zero, List.getElem?_cons_succ]; rfl
      go_simp
      refine (HP.out _ (k.below hw) (zp.below hw)).mono ?_
      rintro e1 wz ⟨rfl, hb⟩
      go_wp2_with fail
      refine hK.out _ _ (hHeld.post hb) (fun _ => ?_)
      clear hK K
      (try simp only [Act.put, List.setIfInBounds_toArray, List.set_cons_zero, List.set_cons_succ])
      refine wpAnyH_mono (S' := fun w' => KeptBut wz w' (w.heap.size + 1) (w.heap.size + 1)) (fun _ h => (hHeld.post hb).trans2 h) _ _ _ _ ?_
      replace hx0 := keep_cell hb hx0
      replace hx1 := keep_cell hb hx1
      replace hf0 := keep_froz2 hb hr0 hf0
      replace hf1 := keep_froz2 hb hr1 hf1
      replace hr0 := keep_cell hb hr0
      replace hr1 := keep_cell hb hr1
      replace hw := keep_below hb hw
      clear hHeld hb
      have hHeld : KeptBut wz wz (w.heap.size + 1) (w.heap.size + 1) := (KeptBut.refl2 _ _)
      refine wpAnyH_ready (rs := [4]) (by kernel_rfl) (by simp) ?_
      refine AllReadyH.cons (i := 4) (o := ?oo5) ?ho5 (fun K hK => ?hstep5) AllReadyH.nil
      case ho5 => simp only [List.getElem?_toArray, List.getElem?_cons_zero, List.getElem?_cons_succ]; rfl
      go_simp
      have hrz := World.block_lt_of_cell? _ _ hr0
      simp only at hrz
      refine (HSu.out _ (h.below hw) (k.below hw)).mono ?_
      rintro e1 wz ⟨As, cs, rfl, hos, hb⟩
      obtain ⟨gs, rfl, hgs, hrs⟩ := hos.pos HL.out
      have hS0 := hrs.cell (j := 0) HL.out
      have hl0 : 0 < S.length := HL.out
      have hgr : w.heap.size + 1 < gs := by omega
      clear hrs hos hrz hgs
      go_wp2_with fail
      refine hK.out _ _ (hHeld.post hb) (fun _ => ?_)
      clear hK K
      (try simp only [Act.put, List.setIfInBounds_toArray, List.set_cons_zero, List.set_cons_succ])
      refine wpAnyH_mono (S' := fun w' => KeptBut wz w' (w.heap.size + 1) (w.heap.size + 1)) (fun _ h => (hHeld.post hb).trans2 h) _ _ _ _ ?_
      replace hx0 := keep_cell hb hx0
      replace hx1 := keep_cell hb hx1
      replace hf0 := keep_froz2 hb hr0 hf0
      replace hf1 := keep_froz2 hb hr1 hf1
      replace hr0 := keep_cell hb hr0
      replace hr1 := keep_cell hb hr1
      replace hw := keep_below hb hw
      clear hHeld hb
      have hHeld : KeptBut wz wz (w.heap.size + 1) (w.heap.size + 1) := (KeptBut.refl2 _ _)
      refine wpAnyH_take (i := 5) (oi := ?oo6) (v := ?vv6) ?hi6 (by kernel_rfl) (by kernel_rfl) (by kernel_rfl) ?hq6 (Or.inl ⟨?hg6, ?hy6⟩) (by assumption) ?rest6
      case hi6 => simp only [List.getElem?_toArray, List.getElem?_cons_zero, List.getElem?_cons_succ]; rfl
      case hq6 => exact fun _ _ _ h => h
      case hg6 => rfl
      case hy6 =>
        intro wq hSw
        replace hx0 := hSw.cell hx0 (by first | omega | (simp; done) | (simp; omega)) (by first | omega | (simp; done) | (simp; omega))
        replace hx1 := hSw.cell hx1 (by first | omega | (simp; done) | (simp; omega)) (by first | omega | (simp; done) | (simp; omega))
        replace hS0 := hSw.cell hS0 (by first | omega | (simp; done) | (simp; omega)) (by first | omega | (simp; done) | (simp; omega))
        go_simp
        (try with_reducible rfl)
      (try simp only [Act.put, List.setIfInBounds_toArray, List.set_cons_zero, List.set_cons_succ])
      refine wpAnyH_take (i := 6) (oi := ?oo7) (v := ?vv7) ?hi7 (by kernel_rfl) (by kernel_rfl) (by kernel_rfl) ?hq7 (Or.inl ⟨?hg7, ?hy7⟩) (by assumption) ?rest7
      case hi7 => simp only [List.getElem?_toArray, List.getElem?_cons_zero, List.getElem?_cons_succ]; rfl
      case hq7 => exact fun _ _ _ h => h
      case hg7 => rfl
      case hy7 =>
        intro wq hSw
        replace hx0 := hSw.cell hx0 (by first | omega | (simp; done) | (simp; omega)) (by first | omega | (simp; done) | (simp; omega))
        replace hx1 := hSw.cell hx1 (by first | omega | (simp; done) | (simp; omega)) (by first | omega | (simp; done) | (simp; omega))
        replace hS0 := hSw.cell hS0 (by first | omega | (simp; done) | (simp; omega)) (by first | omega | (simp; done) | (simp; omega))
        go_simp
        (try with_reducible rfl)
      (try simp only [Act.put, List.setIfInBounds_toArray, List.set_cons_zero, List.set_cons_succ])
      refine wpAnyH_ready (rs := [7]) (by kernel_rfl) (by simp) ?_
      refine AllReadyH.cons (i := 7) (o := ?oo8) ?ho8 (fun K hK => ?hstep8) AllReadyH.nil
      case ho8 => simp only [List.getElem?_toArray, List.getElem?_cons_zero, List.getElem?_cons_succ]; rfl
      go_simp
      refine (HC.out _).mono ?_
      rintro e1 wz ⟨rfl, hb⟩
      go_wp2_with fail
      refine hK.out _ _ (hHeld.post hb) (fun _ => ?_)
      clear hK K
      (try simp only [Act.put, List.setIfInBounds_toArray, List.set_cons_zero, List.set_cons_succ])
      refine wpAnyH_mono (S' := fun w' => KeptBut wz w' (w.heap.size + 1) (w.heap.size + 1)) (fun _ h => (hHeld.post hb).trans2 h) _ _ _ _ ?_
      replace hx0 := keep_cell hb hx0
      replace hx1 := keep_cell hb hx1
      replace hS0 := keep_cell hb hS0
      replace hf0 := keep_froz2 hb hr0 hf0
      replace hf1 := keep_froz2 hb hr1 hf1
      replace hr0 := keep_cell hb hr0
      replace hr1 := keep_cell hb hr1
      replace hw := keep_below hb hw
      clear hHeld hb
      have hHeld : KeptBut wz wz (w.heap.size + 1) (w.heap.size + 1) := (KeptBut.refl2 _ _)
      refine wpAnyH_take (i := 8) (oi := ?oo9) (v := ?vv9) ?hi9 (by kernel_rfl) (by kernel_rfl) (by kernel_rfl) ?hq9 (Or.inl ⟨?hg9, ?hy9⟩) (by assumption) ?rest9
      case hi9 => simp only [List.getElem?_toArray, List.getElem?_cons_zero, List.getElem?_cons_succ]; rfl
      case hq9 => exact fun _ _ _ h => h
      case hg9 => rfl
      case hy9 =>
        intro wq hSw
        replace hx0 := hSw.cell hx0 (by first | omega | (simp; done) | (simp; omega)) (by first | omega | (simp; done) | (simp; omega))
        replace hx1 := hSw.cell hx1 (by first | omega | (simp; done) | (simp; omega)) (by first | omega | (simp; done) | (simp; omega))
        replace hS0 := hSw.cell hS0 (by first | omega | (simp; done) | (simp; omega)) (by first | omega | (simp; done) | (simp; omega))
        go_simp
        (try with_reducible rfl)
      (try simp only [Act.put, List.setIfInBounds_toArray, List.set_cons_zero, List.set_cons_succ])
      refine wpAnyH_take (i := 9) (oi := ?oo10) (v := ?vv10) ?hi10 (by kernel_rfl) (by kernel_rfl) (by kernel_rfl) ?hq10 (Or.inl ⟨?hg10, ?hy10⟩) (by assumption) ?rest10
      case hi10 => simp only [List.getElem?_toArray, List.getElem?_cons_zero, List.getElem?_cons_succ]; rfl
      case hq10 => exact fun _ _ _ h => h
      case hg10 => rfl
      case hy10 =>
        intro wq hSw
        replace hx0 := hSw.cell hx0 (by first | omega | (simp; done) | (simp; omega)) (by first | omega | (simp; done) | (simp; omega))
        replace hx1 := hSw.cell hx1 (by first | omega | (simp; done) | (simp; omega)) (by first | omega | (simp; done) | (simp; omega))
        replace hS0 := hSw.cell hS0 (by first | omega | (simp; done) | (simp; omega)) (by first | omega | (simp; done) | (simp; omega))
        go_simp
        (try with_reducible rfl)
      (try simp only [Act.put, List.setIfInBounds_toArray, List.set_cons_zero, List.set_cons_succ])
      refine wpAnyH_ready (rs := [10]) (by kernel_rfl) (by simp) ?_
      refine AllReadyH.cons (i := 10) (o := ?oo11) ?ho11 (fun K hK => ?hstep11) AllReadyH.nil
      case ho11 => simp only [List.getElem?_toArray, List.getElem?_cons_zero, List.getElem?_cons_succ]; rfl
      go_simp
      refine hK.out _ _ (((KeptBut.refl2 _ _).setg _ _).setg _ _) (fun hHeld2 => ?_)
      clear hK K
      (try simp only [Act.put, List.setIfInBounds_toArray, List.set_cons_zero, List.set_cons_succ])
      refine wpAnyH_take (i := 11) (oi := ?oo12) (v := ?vv12) ?hi12 (by kernel_rfl) (by kernel_rfl) (by kernel_rfl) ?hq12 (Or.inl ⟨?hg12, ?hy12⟩) (by assumption) ?rest12
      case hi12 => simp only [List.getElem?_toArray, List.getElem?_cons_zero, List.getElem?_cons_succ]; rfl
      case hq12 => exact fun _ _ _ h => h
      case hg12 => rfl
      case hy12 =>
        intro wq hSw
        replace hx0 := hSw.cell hx0 (by first | omega | (simp; done) | (simp; omega)) (by first | omega | (simp; done) | (simp; omega))
        replace hx1 := hSw.cell hx1 (by first | omega | (simp; done) | (simp; omega)) (by first | omega | (simp; done) | (simp; omega))
        replace hS0 := hSw.cell hS0 (by first | omega | (simp; done) | (simp; omega)) (by first | omega | (simp; done) | (simp; omega))
        go_simp
        (try with_reducible rfl)
      (try simp only [Act.put, List.setIfInBounds_toArray, List.set_cons_zero, List.set_cons_succ])
      refine wpAnyH_done (by kernel_rfl) ?_ _
      go_wp2
      refine bodyPost_ret (v := .tuple #[.agg #[.int .i64 (lowX hp (nth S 0)), .int .i64 (lowY hp (nth S 0))], .bool true]) (by simp (maxDischargeDepth := 9) [results, Try.results26, go_sem, *]) rfl ⟨rfl, ?_⟩
      (repeat (first | with_reducible exact Below.refl _ _ | with_reducible assumption | with_reducible refine Below.alloc' ?_ ?_ _ | with_reducible refine Below.setCell' ?_ ?_ _ | with_reducible refine Below.drewN' ?_ _ | with_reducible refine Below.drew ?_ | with_reducible refine Below.transA ?_ (by assumption) ?_ | omega | (focus (simp; done)) | (focus (simp; omega))))
end Go.Proofs.Ytdjfjlmbaehppaa
