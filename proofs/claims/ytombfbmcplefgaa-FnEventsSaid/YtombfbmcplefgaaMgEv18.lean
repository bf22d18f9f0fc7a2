/- Contracts: independent events. -/
import Derived.Test.YtombfbmcplefgaaMgEv9
import Derived.Test.YtombfbmcplefgaaMgEv12
import Derived.Test.YtombfbmcplefgaaMgEv15
namespace Go.Proofs.Ytombfbmcplefgaa
open Go.ChangeShapes Go.WideShapes Go.ChangeAt Go.RowKit

noncomputable def indOk (xs ys ps qs : List Int) : Bool := good xs ys && isEv xs ps && isEv xs qs
noncomputable def indV (ys ps qs : List Int) (s : Int) : Bool := heavy ys (bothL ps qs) * s == heavy ys ps * heavy ys qs
noncomputable def indR (xs ys ps qs : List Int) : Bool := indOk xs ys ps qs && indV ys ps qs (nth (sumsL xs ys) 0)
theorem indR_no {xs ys ps qs : List Int} (h : indOk xs ys ps qs = false) : indR xs ys ps qs = false := by unfold indR; rw [h]; rfl
theorem indR_yes {xs ys ps qs : List Int} (h : indOk xs ys ps qs = true) : indR xs ys ps qs = indV ys ps qs (nth (sumsL xs ys) 0) := by unfold indR; rw [h]; rfl
theorem heavy_bd {xs ys : List Int} (hg : good xs ys = true) {zs : List Int} (h : zs.length ≤ 24) : 0 ≤ heavy ys zs ∧ heavy ys zs ≤ 480 := by
  have := sumW_bd hg zs zs.length
  unfold heavy; omega
theorem both_node {n : Nat} {us bs : List Int} (h : ∀ j, j < us.length → ∃ q : Nat, nth us j = q ∧ q < n) : ∀ j, j < (bothL us bs).length → ∃ q : Nat, nth (bothL us bs) j = q ∧ q < n := fun j hj => by
  obtain ⟨i, hi, he⟩ := bothL_nth hj
  rw [he]; exact h i hi
set_option maxHeartbeats 1000000 in
set_option maxRecDepth 100000 in
theorem specAreIndependent_any (A B : Option Addr) (c e : Nat) (xs ys : List Int) (P : Option Addr) (cp : Nat) (ps : List Int) (Q : Option Addr) (cq : Nat) (qs : List Int) (w : World) (h : IntS w A xs) (k : IntS w B ys) (zp : IntS w P ps) (zq : IntS w Q qs) (_hx : Bd xs) (_hy : Bd ys) (_bp : Bd ps) (_bq : Bd qs) (hn : xs.length ≤ 1048576) (hm : ys.length ≤ 1048576) (lp : ps.length ≤ 1048576) (lq : qs.length ≤ 1048576) :
    Calls Try.prog 60 #[.agg #[.slice A xs.length c, .slice B ys.length e], .slice P ps.length cp, .slice Q qs.length cq] w (fun e1 w' => e1 = .returned (.tuple #[.bool (indR xs ys ps qs), .bool (indOk xs ys ps qs)]) ∧ Below w.heap.size w w') := by
  obtain ⟨r1, q1⟩ : ∃ r, (good xs ys && isEv xs ps) = r := ⟨_, rfl⟩
  cases r1
  case false =>
    have hO : indOk xs ys ps qs = false := by unfold indOk ; simp [q1]
    have hV_indR := indR_no hO
    rw [hV_indR]
    (try rw [hO])
    clear hO hV_indR
    have HG1 := Lib.hid (fun W (h : IntS W A xs) (k : IntS W B ys) (zp : IntS W P ps) => l2Event_any A B P c e cp xs ys ps W h k zp _hx _hy hn hm lp)
    rw [q1] at HG1
    clear q1 _hx _hy _bp _bq
    go_enter Try.func60, Try.ntmps60
    go_wp2_with fail
    refine (HG1.out _ (h.alloc _) (k.alloc _) (zp.alloc _)).mono ?_
    rintro e1 w1 ⟨rfl, hb⟩
    have hx0 : w1.cell? ⟨w.heap.size, 0, none⟩ = some (.slice A xs.length c) := keep_cell hb (by simp)
    have hx1 : w1.cell? ⟨w.heap.size, 1, none⟩ = some (.slice B ys.length e) := keep_cell hb (by simp)
    have hw : Below w.heap.size w w1 := below_alloc (hb)
    clear hb
    go_wp2
    go_ret2
    exact ⟨rfl, hw⟩
  case true =>
    obtain ⟨r2, q2⟩ : ∃ r, (isEv xs qs) = r := ⟨_, rfl⟩
    cases r2
    case false =>
      have hO : indOk xs ys ps qs = false := by unfold indOk ; simp [q1, q2]
      have hV_indR := indR_no hO
      rw [hV_indR]
      (try rw [hO])
      clear hO hV_indR
      have HG1 := Lib.hid (fun W (h : IntS W A xs) (k : IntS W B ys) (zp : IntS W P ps) => l2Event_any A B P c e cp xs ys ps W h k zp _hx _hy hn hm lp)
      rw [q1] at HG1
      have HG2 := Lib.hid (fun W (h : IntS W A xs) (k : IntS W B ys) (zq : IntS W Q qs) => l2Event_good (Bool.and_eq_true_iff.1 q1).1 A B Q c e cq qs W h k zq _hx _hy lq)
      rw [q2] at HG2
      clear q1 q2 _hx _hy _bp _bq
      go_enter Try.func60, Try.ntmps60
      go_wp2_with fail
      refine (HG1.out _ (h.alloc _) (k.alloc _) (zp.alloc _)).mono ?_
      rintro e1 w1 ⟨rfl, hb⟩
      have hx0 : w1.cell? ⟨w.heap.size, 0, none⟩ = some (.slice A xs.length c) := keep_cell hb (by simp)
      have hx1 : w1.cell? ⟨w.heap.size, 1, none⟩ = some (.slice B ys.length e) := keep_cell hb (by simp)
      have hw : Below w.heap.size w w1 := below_alloc (hb)
      clear hb
      go_wp2_with fail
      refine (HG2.out _ (h.below hw) (k.below hw) (zq.below hw)).mono ?_
      rintro e1 w2 ⟨rfl, hb⟩
      replace hx0 := keep_cell hb hx0
      replace hx1 := keep_cell hb hx1
      replace hw := keep_below hb hw
      clear hb
      go_wp2
      go_ret2
      exact ⟨rfl, hw⟩
    case true =>
      have hO : indOk xs ys ps qs = true := by unfold indOk ; simp [q1, q2]
      have hV_indR := indR_yes hO
      rw [hV_indR]
      (try rw [hO])
      clear hO hV_indR
      have HG1 := Lib.hid (fun W (h : IntS W A xs) (k : IntS W B ys) (zp : IntS W P ps) => l2Event_any A B P c e cp xs ys ps W h k zp _hx _hy hn hm lp)
      rw [q1] at HG1
      have HG2 := Lib.hid (fun W (h : IntS W A xs) (k : IntS W B ys) (zq : IntS W Q qs) => l2Event_good (Bool.and_eq_true_iff.1 q1).1 A B Q c e cq qs W h k zq _hx _hy lq)
      rw [q2] at HG2
      have hgl := good_len (Bool.and_eq_true_iff.1 q1).1
      have np := ev_node (Bool.and_eq_true_iff.1 q1).2
      have nq := ev_node q2
      have lp2 := ev_len (Bool.and_eq_true_iff.1 q1).2
      have lq2 := ev_len q2
      have lb := bothL_len ps qs
      have b1 := heavy_bd (Bool.and_eq_true_iff.1 q1).1 (zs := ps) (by omega)
      have b2 := heavy_bd (Bool.and_eq_true_iff.1 q1).1 (zs := qs) (by omega)
      have b3 := heavy_bd (Bool.and_eq_true_iff.1 q1).1 (zs := bothL ps qs) (by omega)
      have b4 := sums_bd (Bool.and_eq_true_iff.1 q1).1 0
      have HBo := Lib.hid (fun W (ha : IntS W P ps) (hb : IntS W Q qs) => l2Both_any P Q cp cq ps qs W ha hb lp lq)
      have HSu := Lib.hid (fun W (h : IntS W A xs) (k : IntS W B ys) => l2Sums_good (Bool.and_eq_true_iff.1 q1).1 A B c e W h k)
      have HP := Lib.hid (fun W (k : IntS W B ys) (z : IntS W P ps) => l2Heavy_any (Bool.and_eq_true_iff.1 q1).1 A B P xs.length c e cp ps W k z lp (by rw [hgl.2.2]; exact np))
      have HQ := Lib.hid (fun W (k : IntS W B ys) (z : IntS W Q qs) => l2Heavy_any (Bool.and_eq_true_iff.1 q1).1 A B Q xs.length c e cq qs W k z lq (by rw [hgl.2.2]; exact nq))
      have HO := Lib.hid (fun W (R : Option Addr) (cr : Nat) (k : IntS W B ys) (z : IntS W R (bothL ps qs)) => l2Heavy_any (Bool.and_eq_true_iff.1 q1).1 A B R xs.length c e cr (bothL ps qs) W k z (by omega) (by rw [hgl.2.2]; exact both_node np))
      have HL : Hid (1 ≤ (sumsL xs ys).length) := by have := sums_len (Bool.and_eq_true_iff.1 q1).1; show 1 ≤ _; omega
      unfold indV
      generalize heavy ys (bothL ps qs) = ho at *
      generalize heavy ys ps = hp at *
      generalize heavy ys qs = hq at *
      generalize sumsL xs ys = S at *
      generalize bothL ps qs = O at *
      have m1 := mul_bd (A := 480) (D := 480) (a := hp) (d := hq) (by omega) (by omega)
      have m2 := mul_bd (A := 480) (D := 480) (a := ho) (d := nth S 0) (by omega) (by omega)
      have u1 : IntKind.i64.wrap (hp * hq) = hp * hq := IntWalk.i64_in _ (by omega)
      have u2 : IntKind.i64.wrap (ho * nth S 0) = ho * nth S 0 := IntWalk.i64_in _ (by omega)
      clear hgl np nq m1 m2 b1 b2 b3 b4 lp2 lq2 lb
      clear q1 q2 _hx _hy _bp _bq
      go_enter Try.func60, Try.ntmps60
      go_wp2_with fail
      refine (HG1.out _ (h.alloc _) (k.alloc _) (zp.alloc _)).mono ?_
      rintro e1 w1 ⟨rfl, hb⟩
      have hx0 : w1.cell? ⟨w.heap.size, 0, none⟩ = some (.slice A xs.length c) := keep_cell hb (by simp)
      have hx1 : w1.cell? ⟨w.heap.size, 1, none⟩ = some (.slice B ys.length e) := keep_cell hb (by simp)
      have hw : Below w.heap.size w w1 := below_alloc (hb)
      clear hb
      go_wp2_with fail
      refine (HG2.out _ (h.below hw) (k.below hw) (zq.below hw)).mono ?_
      rintro e1 w2 ⟨rfl, hb⟩
      replace hx0 := keep_cell hb hx0
      replace hx1 := keep_cell hb hx1
      replace hw := keep_below hb hw
      clear hb
      clear HG1 HG2
      go_wp2
      refine wp_region_held_drew (S := fun w' => Below w2.heap.size w2 w') (by kernel_rfl) ((Below.refl _ _)).drew (fun hHeld => ?_)
      replace hw := hw.drew
      refine wpAnyH_take (i := 0) (oi := ?oo1) (v := ?vv1) ?hi1 (by kernel_rfl) (by kernel_rfl) (by kernel_rfl) ?hq1 (Or.inl ⟨?hg1, ?hy1⟩) (by assumption) ?rest1
      case hi1 => simp only [List.getElem?_toArray, List.getElem?_cons_zero]; rfl
      case hq1 => exact fun _ _ _ h => h
      case hg1 => rfl
      case hy1 =>
        intro wq hSw
        replace hx0 := keep_cell hSw hx0
        replace hx1 := keep_cell hSw hx1
        go_simp
        (try with_reducible rfl)
      (try simp only [Act.put, List.setIfInBounds_toArray, List.set_cons_zero, List.set_cons_succ])
      refine wpAnyH_take (i := 1) (oi := ?oo2) (v := ?vv2) ?hi2 (by kernel_rfl) (by kernel_rfl) (by kernel_rfl) ?hq2 (Or.inl ⟨?hg2, ?hy2⟩) (by assumption) ?rest2
      case hi2 => simp only [List.getElem?_toArray, List.getElem?_cons_zero, List.getElem?_cons_succ]; rfl
      case hq2 => exact fun _ _ _ h => h
      case hg2 => rfl
      case hy2 =>
        intro wq hSw
        replace hx0 := keep_cell hSw hx0
        replace hx1 := keep_cell hSw hx1
        go_simp
        (try with_reducible rfl)
      (try simp only [Act.put, List.setIfInBounds_toArray, List.set_cons_zero, List.set_cons_succ])
      refine wpAnyH_take (i := 2) (oi := ?oo3) (v := ?vv3) ?hi3 (by kernel_rfl) (by kernel_rfl) (by kernel_rfl) ?hq3 (Or.inl ⟨?hg3, ?hy3⟩) (by assumption) ?rest3
      case hi3 => simp only [List.getElem?_toArray, List.getElem?_cons_zero, List.getElem?_cons_succ]; rfl
      case hq3 => exact fun _ _ _ h => h
      case hg3 => rfl
      case hy3 =>
        intro wq hSw
        replace hx0 := keep_cell hSw hx0
        replace hx1 := keep_cell hSw hx1
        go_simp
        (try with_reducible rfl)
      (try simp only [Act.put, List.setIfInBounds_toArray, List.set_cons_zero, List.set_cons_succ])
      refine wpAnyH_take (i := 5) (oi := ?oo4) (v := ?vv4) ?hi4 (by kernel_rfl) (by kernel_rfl) (by kernel_rfl) ?hq4 (Or.inl ⟨?hg4, ?hy4⟩) (by assumption) ?rest4
      case hi4 => simp only [List.getElem?_toArray, List.getElem?_cons_zero, List.getElem?_cons_succ]; rfl
      case hq4 => exact fun _ _ _ h => h
      case hg4 => rfl
      case hy4 =>
        intro wq hSw
        replace hx0 := keep_cell hSw hx0
        replace hx1 := keep_cell hSw hx1
        go_simp
        (try with_reducible rfl)
      (try simp only [Act.put, List.setIfInBounds_toArray, List.set_cons_zero, List.set_cons_succ])
      refine wpAnyH_take (i := 10) (oi := ?oo5) (v := ?vv5) ?hi5 (by kernel_rfl) (by kernel_rfl) (by kernel_rfl) ?hq5 (Or.inl ⟨?hg5, ?hy5⟩) (by assumption) ?rest5
      case hi5 => simp only [List.getElem?_toArray, List.getElem?_cons_zero, List.getElem?_cons_succ]; rfl
      case hq5 => exact fun _ _ _ h => h
      case hg5 => rfl
      case hy5 =>
        intro wq hSw
        replace hx0 := keep_cell hSw hx0
        replace hx1 := keep_cell hSw hx1
        go_simp
        (try with_reducible rfl)
      (try simp only [Act.put, List.setIfInBounds_toArray, List.set_cons_zero, List.set_cons_succ])
      refine wpAnyH_take (i := 11) (oi := ?oo6) (v := ?vv6) ?hi6 (by kernel_rfl) (by kernel_rfl) (by kernel_rfl) ?hq6 (Or.inl ⟨?hg6, ?hy6⟩) (by assumption) ?rest6
      case hi6 => simp only [List.getElem?_toArray, List.getElem?_cons_zero, List.getElem?_cons_succ]; rfl
      case hq6 => exact fun _ _ _ h => h
      case hg6 => rfl
      case hy6 =>
        intro wq hSw
        replace hx0 := keep_cell hSw hx0
        replace hx1 := keep_cell hSw hx1
        go_simp
        (try with_reducible rfl)
      (try simp only [Act.put, List.setIfInBounds_toArray, List.set_cons_zero, List.set_cons_succ])
      refine wpAnyH_take (i := 13) (oi := ?oo7) (v := ?vv7) ?hi7 (by kernel_rfl) (by kernel_rfl) (by kernel_rfl) ?hq7 (Or.inl ⟨?hg7, ?hy7⟩) (by assumption) ?rest7
      case hi7 => simp only [List.getElem?_toArray, List.getElem?_cons_zero, List.getElem?_cons_succ]; rfl
      case hq7 => exact fun _ _ _ h => h
      case hg7 => rfl
      case hy7 =>
        intro wq hSw
        replace hx0 := keep_cell hSw hx0
        replace hx1 := keep_cell hSw hx1
        go_simp
        (try with_reducible rfl)
      (try simp only [Act.put, List.setIfInBounds_toArray, List.set_cons_zero, List.set_cons_succ])
      refine wpAnyH_take (i := 14) (oi := ?oo8) (v := ?vv8) ?hi8 (by kernel_rfl) (by kernel_rfl) (by kernel_rfl) ?hq8 (Or.inl ⟨?hg8, ?hy8⟩) (by assumption) ?rest8
      case hi8 => simp only [List.getElem?_toArray, List.getElem?_cons_zero, List.getElem?_cons_succ]; rfl
      case hq8 => exact fun _ _ _ h => h
      case hg8 => rfl
      case hy8 =>
        intro wq hSw
        replace hx0 := keep_cell hSw hx0
        replace hx1 := keep_cell hSw hx1
        go_simp
        (try with_reducible rfl)
      (try simp only [Act.put, List.setIfInBounds_toArray, List.set_cons_zero, List.set_cons_succ])
      refine wpAnyH_ready (rs := [3]) (by kernel_rfl) (by simp) ?_
      refine AllReadyH.cons (i := 3) (o := ?oo9) ?ho9 (fun K hK => ?hstep9) AllReadyH.nil
      case ho9 => simp only [List.getElem?_toArray, List.getElem?_cons_zero, List.getElem?_cons_succ]; rfl
      go_simp
      refine (HBo.out _ (zp.below hw) (zq.below hw)).mono ?_
      rintro e1 wz ⟨Ab, cb, rfl, hob, hb⟩
      have hib := hob.ints
      clear hob
      go_wp2_with fail
      refine hK.out _ _ (keep_below hb hHeld) (fun _ => ?_)
      clear hK K
      (try simp only [Act.put, List.setIfInBounds_toArray, List.set_cons_zero, List.set_cons_succ])
      refine wpAnyH_mono (S' := fun w' => Below wz.heap.size wz w') (fun _ h => keep_below h (keep_below hb hHeld)) _ _ _ _ ?_
      replace hw := keep_below hb hw
      replace hx0 := keep_cell hb hx0
      replace hx1 := keep_cell hb hx1
      clear hHeld hb
      have hHeld : Below wz.heap.size wz wz := (Below.refl _ _)
      refine wpAnyH_ready (rs := [4]) (by kernel_rfl) (by simp) ?_
      refine AllReadyH.cons (i := 4) (o := ?oo10) ?ho10 (fun K hK => ?hstep10) AllReadyH.nil
      case ho10 => simp only [List.getElem?_toArray, List.getElem?_cons_zero, List.getElem?_cons_succ]; rfl
      go_simp
      refine (HO.out _ _ _ (k.below hw) hib).mono ?_
      rintro e1 wz ⟨rfl, hb⟩
      clear hib
      go_wp2_with fail
      refine hK.out _ _ (keep_below hb hHeld) (fun _ => ?_)
      clear hK K
      (try simp only [Act.put, List.setIfInBounds_toArray, List.set_cons_zero, List.set_cons_succ])
      refine wpAnyH_mono (S' := fun w' => Below wz.heap.size wz w') (fun _ h => keep_below h (keep_below hb hHeld)) _ _ _ _ ?_
      replace hw := keep_below hb hw
      replace hx0 := keep_cell hb hx0
      replace hx1 := keep_cell hb hx1
      clear hHeld hb
      have hHeld : Below wz.heap.size wz wz := (Below.refl _ _)
      refine wpAnyH_ready (rs := [6]) (by kernel_rfl) (by simp) ?_
      refine AllReadyH.cons (i := 6) (o := ?oo11) ?ho11 (fun K hK => ?hstep11) AllReadyH.nil
      case ho11 => simp only [List.getElem?_toArray, List.getElem?_cons_zero, List.getElem?_cons_succ]; rfl
      go_simp
      refine (HSu.out _ (h.below hw) (k.below hw)).mono ?_
      rintro e1 wz ⟨As, cs, rfl, hos, hb⟩
      obtain ⟨gs, rfl, hgs, hrs⟩ := hos.pos HL.out
      have hS0 := hrs.cell (j := 0) HL.out
      have hl0 : 0 < S.length := HL.out
      clear hrs hos hgs
      go_wp2_with fail
      refine hK.out _ _ (keep_below hb hHeld) (fun _ => ?_)
      clear hK K
      (try simp only [Act.put, List.setIfInBounds_toArray, List.set_cons_zero, List.set_cons_succ])
      refine wpAnyH_mono (S' := fun w' => Below wz.heap.size wz w') (fun _ h => keep_below h (keep_below hb hHeld)) _ _ _ _ ?_
      replace hw := keep_below hb hw
      replace hx0 := keep_cell hb hx0
      replace hx1 := keep_cell hb hx1
      clear hHeld hb
      have hHeld : Below wz.heap.size wz wz := (Below.refl _ _)
      refine wpAnyH_take (i := 7) (oi := ?oo12) (v := ?vv12) ?hi12 (by kernel_rfl) (by kernel_rfl) (by kernel_rfl) ?hq12 (Or.inl ⟨?hg12, ?hy12⟩) (by assumption) ?rest12
      case hi12 => simp only [List.getElem?_toArray, List.getElem?_cons_zero, List.getElem?_cons_succ]; rfl
      case hq12 => exact fun _ _ _ h => h
      case hg12 => rfl
      case hy12 =>
        intro wq hSw
        replace hx0 := keep_cell hSw hx0
        replace hx1 := keep_cell hSw hx1
        replace hS0 := keep_cell hSw hS0
        go_simp
        (try with_reducible rfl)
      (try simp only [Act.put, List.setIfInBounds_toArray, List.set_cons_zero, List.set_cons_succ])
      refine wpAnyH_take (i := 8) (oi := ?oo13) (v := ?vv13) ?hi13 (by kernel_rfl) (by kernel_rfl) (by kernel_rfl) ?hq13 (Or.inl ⟨?hg13, ?hy13⟩) (by assumption) ?rest13
      case hi13 => simp only [List.getElem?_toArray, List.getElem?_cons_zero, List.getElem?_cons_succ]; rfl
      case hq13 => exact fun _ _ _ h => h
      case hg13 => rfl
      case hy13 =>
        intro wq hSw
        replace hx0 := keep_cell hSw hx0
        replace hx1 := keep_cell hSw hx1
        replace hS0 := keep_cell hSw hS0
        go_simp
        (try with_reducible rfl)
      (try simp only [Act.put, List.setIfInBounds_toArray, List.set_cons_zero, List.set_cons_succ])
      refine wpAnyH_take (i := 9) (oi := ?oo14) (v := ?vv14) ?hi14 (by kernel_rfl) (by kernel_rfl) (by kernel_rfl) ?hq14 (Or.inl ⟨?hg14, ?hy14⟩) (by assumption) ?rest14
      case hi14 => simp only [List.getElem?_toArray, List.getElem?_cons_zero, List.getElem?_cons_succ]; rfl
      case hq14 => exact fun _ _ _ h => h
      case hg14 => rfl
      case hy14 =>
        intro wq hSw
        replace hx0 := keep_cell hSw hx0
        replace hx1 := keep_cell hSw hx1
        replace hS0 := keep_cell hSw hS0
        go_simp
        (try with_reducible rfl)
      (try simp only [Act.put, List.setIfInBounds_toArray, List.set_cons_zero, List.set_cons_succ])
      refine wpAnyH_ready (rs := [12]) (by kernel_rfl) (by simp) ?_
      refine AllReadyH.cons (i := 12) (o := ?oo15) ?ho15 (fun K hK => ?hstep15) AllReadyH.nil
      case ho15 => simp only [List.getElem?_toArray, List.getElem?_cons_zero, List.getElem?_cons_succ]; rfl
      go_simp
      refine (HP.out _ (k.below hw) (zp.below hw)).mono ?_
      rintro e1 wz ⟨rfl, hb⟩
      go_wp2_with fail
      refine hK.out _ _ (keep_below hb hHeld) (fun _ => ?_)
      clear hK K
      (try simp only [Act.put, List.setIfInBounds_toArray, List.set_cons_zero, List.set_cons_succ])
      refine wpAnyH_mono (S' := fun w' => Below wz.heap.size wz w') (fun _ h => keep_below h (keep_below hb hHeld)) _ _ _ _ ?_
      replace hw := keep_below hb hw
      replace hx0 := keep_cell hb hx0
      replace hx1 := keep_cell hb hx1
      replace hS0 := keep_cell hb hS0
      clear hHeld hb
      have hHeld : Below wz.heap.size wz wz := (Below.refl _ _)
      refine wpAnyH_ready (rs := [15]) (by kernel_rfl) (by simp) ?_
      refine AllReadyH.cons (i := 15) (o := ?oo16) ?ho16 (fun K hK => ?hstep16) AllReadyH.nil
      case ho16 => simp only [List.getElem?_toArray, List.getElem?_cons_zero, List.getElem?_cons_succ]; rfl
      go_simp
      refine (HQ.out _ (k.below hw) (zq.below hw)).mono ?_
      rintro e1 wz ⟨rfl, hb⟩
      go_wp2_with fail
      refine hK.out _ _ (keep_below hb hHeld) (fun _ => ?_)
      clear hK K
      (try simp only [Act.put, List.setIfInBounds_toArray, List.set_cons_zero, List.set_cons_succ])
      refine wpAnyH_mono (S' := fun w' => Below wz.heap.size wz w') (fun _ h => keep_below h (keep_below hb hHeld)) _ _ _ _ ?_
      replace hw := keep_below hb hw
      replace hx0 := keep_cell hb hx0
      replace hx1 := keep_cell hb hx1
      replace hS0 := keep_cell hb hS0
      clear hHeld hb
      have hHeld : Below wz.heap.size wz wz := (Below.refl _ _)
      refine wpAnyH_take (i := 16) (oi := ?oo17) (v := ?vv17) ?hi17 (by kernel_rfl) (by kernel_rfl) (by kernel_rfl) ?hq17 (Or.inl ⟨?hg17, ?hy17⟩) (by assumption) ?rest17
      case hi17 => simp only [List.getElem?_toArray, List.getElem?_cons_zero, List.getElem?_cons_succ]; rfl
      case hq17 => exact fun _ _ _ h => h
      case hg17 => rfl
      case hy17 =>
        intro wq hSw
        replace hx0 := keep_cell hSw hx0
        replace hx1 := keep_cell hSw hx1
        replace hS0 := keep_cell hSw hS0
        go_simp
        (try with_reducible rfl)
      (try simp only [Act.put, List.setIfInBounds_toArray, List.set_cons_zero, List.set_cons_succ])
      refine wpAnyH_take (i := 17) (oi := ?oo18) (v := ?vv18) ?hi18 (by kernel_rfl) (by kernel_rfl) (by kernel_rfl) ?hq18 (Or.inl ⟨?hg18, ?hy18⟩) (by assumption) ?rest18
      case hi18 => simp only [List.getElem?_toArray, List.getElem?_cons_zero, List.getElem?_cons_succ]; rfl
      case hq18 => exact fun _ _ _ h => h
      case hg18 => rfl
      case hy18 =>
        intro wq hSw
        replace hx0 := keep_cell hSw hx0
        replace hx1 := keep_cell hSw hx1
        replace hS0 := keep_cell hSw hS0
        go_simp
        (try with_reducible rfl)
      (try simp only [Act.put, List.setIfInBounds_toArray, List.set_cons_zero, List.set_cons_succ])
      refine wpAnyH_take (i := 18) (oi := ?oo19) (v := ?vv19) ?hi19 (by kernel_rfl) (by kernel_rfl) (by kernel_rfl) ?hq19 (Or.inl ⟨?hg19, ?hy19⟩) (by assumption) ?rest19
      case hi19 => simp only [List.getElem?_toArray, List.getElem?_cons_zero, List.getElem?_cons_succ]; rfl
      case hq19 => exact fun _ _ _ h => h
      case hg19 => rfl
      case hy19 =>
        intro wq hSw
        replace hx0 := keep_cell hSw hx0
        replace hx1 := keep_cell hSw hx1
        replace hS0 := keep_cell hSw hS0
        go_simp
        (try with_reducible rfl)
      (try simp only [Act.put, List.setIfInBounds_toArray, List.set_cons_zero, List.set_cons_succ])
      refine wpAnyH_take (i := 19) (oi := ?oo20) (v := ?vv20) ?hi20 (by kernel_rfl) (by kernel_rfl) (by kernel_rfl) ?hq20 (Or.inl ⟨?hg20, ?hy20⟩) (by assumption) ?rest20
      case hi20 => simp only [List.getElem?_toArray, List.getElem?_cons_zero, List.getElem?_cons_succ]; rfl
      case hq20 => exact fun _ _ _ h => h
      case hg20 => rfl
      case hy20 =>
        intro wq hSw
        replace hx0 := keep_cell hSw hx0
        replace hx1 := keep_cell hSw hx1
        replace hS0 := keep_cell hSw hS0
        go_simp
        (try with_reducible rfl)
      (try simp only [Act.put, List.setIfInBounds_toArray, List.set_cons_zero, List.set_cons_succ])
      clear hHeld
      refine wpAnyH_done (by kernel_rfl) ?_ _
      go_wp2
      go_ret2
      exact ⟨rfl, hw⟩
set_option maxHeartbeats 1000000 in
set_option maxRecDepth 100000 in
theorem implAreIndependent_any (A B : Option Addr) (c e : Nat) (xs ys : List Int) (P : Option Addr) (cp : Nat) (ps : List Int) (Q : Option Addr) (cq : Nat) (qs : List Int) (w : World) (h : IntS w A xs) (k : IntS w B ys) (zp : IntS w P ps) (zq : IntS w Q qs) (_hx : Bd xs) (_hy : Bd ys) (_bp : Bd ps) (_bq : Bd qs) (hn : xs.length ≤ 1048576) (hm : ys.length ≤ 1048576) (lp : ps.length ≤ 1048576) (lq : qs.length ≤ 1048576) :
    Calls Try.prog 59 #[.agg #[.slice A xs.length c, .slice B ys.length e], .slice P ps.length cp, .slice Q qs.length cq] w (fun e1 w' => e1 = .returned (.tuple #[.bool (indR xs ys ps qs), .bool (indOk xs ys ps qs)]) ∧ Below w.heap.size w w') := by
  obtain ⟨r1, q1⟩ : ∃ r, (good xs ys) = r := ⟨_, rfl⟩
  cases r1
  case false =>
    have hO : indOk xs ys ps qs = false := by unfold indOk ; simp [q1]
    have hV_indR := indR_no hO
    rw [hV_indR]
    (try rw [hO])
    clear hO hV_indR
    have HG1 := Lib.hid (fun W (h : IntS W A xs) (k : IntS W B ys) => isTree_any A B c e xs ys W h k _hx _hy hn hm)
    rw [q1] at HG1
    clear q1 _hx _hy _bp _bq
    go_enter Try.func59, Try.ntmps59
    go_wp2_with fail
    refine (HG1.out _ (h.alloc _) (k.alloc _)).mono ?_
    rintro e1 w1 ⟨rfl, hb⟩
    have hx0 : w1.cell? ⟨w.heap.size, 0, none⟩ = some (.slice A xs.length c) := keep_cell hb (by simp)
    have hx1 : w1.cell? ⟨w.heap.size, 1, none⟩ = some (.slice B ys.length e) := keep_cell hb (by simp)
    have hw : Below w.heap.size w w1 := below_alloc (hb)
    clear hb
    go_wp2
    go_ret2
    exact ⟨rfl, hw⟩
  case true =>
    obtain ⟨r2, q2⟩ : ∃ r, (isEv xs ps) = r := ⟨_, rfl⟩
    cases r2
    case false =>
      have hO : indOk xs ys ps qs = false := by unfold indOk ; simp [q1, q2]
      have hV_indR := indR_no hO
      rw [hV_indR]
      (try rw [hO])
      clear hO hV_indR
      have HG1 := Lib.hid (fun W (h : IntS W A xs) (k : IntS W B ys) => isTree_any A B c e xs ys W h k _hx _hy hn hm)
      rw [q1] at HG1
      have HG2 := Lib.hid (fun W (h : IntS W A xs) (zp : IntS W P ps) => isEvent_good q1 A B P c ys.length e cp ps W h zp lp)
      rw [q2] at HG2
      clear q1 q2 _hx _hy _bp _bq
      go_enter Try.func59, Try.ntmps59
      go_wp2_with fail
      refine (HG1.out _ (h.alloc _) (k.alloc _)).mono ?_
      rintro e1 w1 ⟨rfl, hb⟩
      have hx0 : w1.cell? ⟨w.heap.size, 0, none⟩ = some (.slice A xs.length c) := keep_cell hb (by simp)
      have hx1 : w1.cell? ⟨w.heap.size, 1, none⟩ = some (.slice B ys.length e) := keep_cell hb (by simp)
      have hw : Below w.heap.size w w1 := below_alloc (hb)
      clear hb
      go_wp2_with fail
      refine (HG2.out _ (h.below hw) (zp.below hw)).mono ?_
      rintro e1 w2 ⟨rfl, hb⟩
      replace hx0 := keep_cell hb hx0
      replace hx1 := keep_cell hb hx1
      replace hw := keep_below hb hw
      clear hb
      go_wp2
      go_ret2
      exact ⟨rfl, hw⟩
    case true =>
      obtain ⟨r3, q3⟩ : ∃ r, (isEv xs qs) = r := ⟨_, rfl⟩
      cases r3
      case false =>
        have hO : indOk xs ys ps qs = false := by unfold indOk ; simp [q1, q2, q3]
        have hV_indR := indR_no hO
        rw [hV_indR]
        (try rw [hO])
        clear hO hV_indR
        have HG1 := Lib.hid (fun W (h : IntS W A xs) (k : IntS W B ys) => isTree_any A B c e xs ys W h k _hx _hy hn hm)
        rw [q1] at HG1
        have HG2 := Lib.hid (fun W (h : IntS W A xs) (zp : IntS W P ps) => isEvent_good q1 A B P c ys.length e cp ps W h zp lp)
        rw [q2] at HG2
        have HG3 := Lib.hid (fun W (h : IntS W A xs) (zq : IntS W Q qs) => isEvent_good q1 A B Q c ys.length e cq qs W h zq lq)
        rw [q3] at HG3
        clear q1 q2 q3 _hx _hy _bp _bq
        go_enter Try.func59, Try.ntmps59
        go_wp2_with fail
        refine (HG1.out _ (h.alloc _) (k.alloc _)).mono ?_
        rintro e1 w1 ⟨rfl, hb⟩
        have hx0 : w1.cell? ⟨w.heap.size, 0, none⟩ = some (.slice A xs.length c) := keep_cell hb (by simp)
        have hx1 : w1.cell? ⟨w.heap.size, 1, none⟩ = some (.slice B ys.length e) := keep_cell hb (by simp)
        have hw : Below w.heap.size w w1 := below_alloc (hb)
        clear hb
        go_wp2_with fail
        refine (HG2.out _ (h.below hw) (zp.below hw)).mono ?_
        rintro e1 w2 ⟨rfl, hb⟩
        replace hx0 := keep_cell hb hx0
        replace hx1 := keep_cell hb hx1
        replace hw := keep_below hb hw
        clear hb
        go_wp2_with fail
        refine (HG3.out _ (h.below hw) (zq.below hw)).mono ?_
        rintro e1 w3 ⟨rfl, hb⟩
        replace hx0 := keep_cell hb hx0
        replace hx1 := keep_cell hb hx1
        replace hw := keep_below hb hw
        clear hb
        go_wp2
        go_ret2
        exact ⟨rfl, hw⟩
      case true =>
        have hO : indOk xs ys ps qs = true := by unfold indOk ; simp [q1, q2, q3]
        have hV_indR := indR_yes hO
        rw [hV_indR]
        (try rw [hO])
        clear hO hV_indR
        have HG1 := Lib.hid (fun W (h : IntS W A xs) (k : IntS W B ys) => isTree_any A B c e xs ys W h k _hx _hy hn hm)
        rw [q1] at HG1
        have HG2 := Lib.hid (fun W (h : IntS W A xs) (zp : IntS W P ps) => isEvent_good q1 A B P c ys.length e cp ps W h zp lp)
        rw [q2] at HG2
        have HG3 := Lib.hid (fun W (h : IntS W A xs) (zq : IntS W Q qs) => isEvent_good q1 A B Q c ys.length e cq qs W h zq lq)
        rw [q3] at HG3
        have hgl := good_len q1
        have np := ev_node q2
        have nq := ev_node q3
        have lp2 := ev_len q2
        have lq2 := ev_len q3
        have lb := bothL_len ps qs
        have b1 := heavy_bd q1 (zs := ps) (by omega)
        have b2 := heavy_bd q1 (zs := qs) (by omega)
        have b3 := heavy_bd q1 (zs := bothL ps qs) (by omega)
        have b4 := sums_bd q1 0
        have HBo := Lib.hid (fun W (ha : IntS W P ps) (hb : IntS W Q qs) => both_any P Q cp cq ps qs W ha hb lp lq)
        have HSu := Lib.hid (fun W (h : IntS W A xs) (k : IntS W B ys) => sums_good q1 A B c e W h k)
        have HP := Lib.hid (fun W (k : IntS W B ys) (z : IntS W P ps) => weighed_any q1 A B P xs.length c e cp ps W k z lp (by rw [hgl.2.2]; exact np))
        have HQ := Lib.hid (fun W (k : IntS W B ys) (z : IntS W Q qs) => weighed_any q1 A B Q xs.length c e cq qs W k z lq (by rw [hgl.2.2]; exact nq))
        have HO := Lib.hid (fun W (R : Option Addr) (cr : Nat) (k : IntS W B ys) (z : IntS W R (bothL ps qs)) => weighed_any q1 A B R xs.length c e cr (bothL ps qs) W k z (by omega) (by rw [hgl.2.2]; exact both_node np))
        have HL : Hid (1 ≤ (sumsL xs ys).length) := by have := sums_len q1; show 1 ≤ _; omega
        unfold indV
        generalize heavy ys (bothL ps qs) = ho at *
        generalize heavy ys ps = hp at *
        generalize heavy ys qs = hq at *
        generalize sumsL xs ys = S at *
        generalize bothL ps qs = O at *
        have m1 := mul_bd (A := 480) (D := 480) (a := hp) (d := hq) (by omega) (by omega)
        have m2 := mul_bd (A := 480) (D := 480) (a := ho) (d := nth S 0) (by omega) (by omega)
        have u1 : IntKind.i64.wrap (hp * hq) = hp * hq := IntWalk.i64_in _ (by omega)
        have u2 : IntKind.i64.wrap (ho * nth S 0) = ho * nth S 0 := IntWalk.i64_in _ (by omega)
        clear hgl np nq m1 m2 b1 b2 b3 b4 lp2 lq2 lb
        clear q1 q2 q3 _hx _hy _bp _bq
        go_enter Try.func59, Try.ntmps59
        go_wp2_with fail
        refine (HG1.out _ (h.alloc _) (k.alloc _)).mono ?_
        rintro e1 w1 ⟨rfl, hb⟩
        have hx0 : w1.cell? ⟨w.heap.size, 0, none⟩ = some (.slice A xs.length c) := keep_cell hb (by simp)
        have hx1 : w1.cell? ⟨w.heap.size, 1, none⟩ = some (.slice B ys.length e) := keep_cell hb (by simp)
        have hw : Below w.heap.size w w1 := below_alloc (hb)
        clear hb
        go_wp2_with fail
        refine (HG2.out _ (h.below hw) (zp.below hw)).mono ?_
        rintro e1 w2 ⟨rfl, hb⟩
        replace hx0 := keep_cell hb hx0
        replace hx1 := keep_cell hb hx1
        replace hw := keep_below hb hw
        clear hb
        go_wp2_with fail
        refine (HG3.out _ (h.below hw) (zq.below hw)).mono ?_
        rintro e1 w3 ⟨rfl, hb⟩
        replace hx0 := keep_cell hb hx0
        replace hx1 := keep_cell hb hx1
        replace hw := keep_below hb hw
        clear hb
        clear HG1 HG2 HG3
        go_wp2
        refine wp_region_held_drew (S := fun w' => Below w3.heap.size w3 w') (by kernel_rfl) ((Below.refl _ _)).drew (fun hHeld => ?_)
        replace hw := hw.drew
        refine wpAnyH_take (i := 0) (oi := ?oo1) (v := ?vv1) ?hi1 (by kernel_rfl) (by kernel_rfl) (by kernel_rfl) ?hq1 (Or.inl ⟨?hg1, ?hy1⟩) (by assumption) ?rest1
        case hi1 => simp only [List.getElem?_toArray, List.getElem?_cons_zero]; rfl
        case hq1 => exact fun _ _ _ h => h
        case hg1 => rfl
        case hy1 =>
          intro wq hSw
          replace hx0 := keep_cell hSw hx0
          replace hx1 := keep_cell hSw hx1
          go_simp
          (try with_reducible rfl)
        (try simp only [Act.put, List.setIfInBounds_toArray, List.set_cons_zero, List.set_cons_succ])
        refine wpAnyH_take (i := 1) (oi := ?oo2) (v := ?vv2) ?hi2 (by kernel_rfl) (by kernel_rfl) (by kernel_rfl) ?hq2 (Or.inl ⟨?hg2, ?hy2⟩) (by assumption) ?rest2
        case hi2 => simp only [List.getElem?_toArray, List.getElem?_cons_zero, List.getElem?_cons_succ]; rfl
        case hq2 => exact fun _ _ _ h => h
        case hg2 => rfl
        case hy2 =>
          intro wq hSw
          replace hx0 := keep_cell hSw hx0
          replace hx1 := keep_cell hSw hx1
          go_simp
          (try with_reducible rfl)
        (try simp only [Act.put, List.setIfInBounds_toArray, List.set_cons_zero, List.set_cons_succ])
        refine wpAnyH_take (i := 2) (oi := ?oo3) (v := ?vv3) ?hi3 (by kernel_rfl) (by kernel_rfl) (by kernel_rfl) ?hq3 (Or.inl ⟨?hg3, ?hy3⟩) (by assumption) ?rest3
        case hi3 => simp only [List.getElem?_toArray, List.getElem?_cons_zero, List.getElem?_cons_succ]; rfl
        case hq3 => exact fun _ _ _ h => h
        case hg3 => rfl
        case hy3 =>
          intro wq hSw
          replace hx0 := keep_cell hSw hx0
          replace hx1 := keep_cell hSw hx1
          go_simp
          (try with_reducible rfl)
        (try simp only [Act.put, List.setIfInBounds_toArray, List.set_cons_zero, List.set_cons_succ])
        refine wpAnyH_take (i := 5) (oi := ?oo4) (v := ?vv4) ?hi4 (by kernel_rfl) (by kernel_rfl) (by kernel_rfl) ?hq4 (Or.inl ⟨?hg4, ?hy4⟩) (by assumption) ?rest4
        case hi4 => simp only [List.getElem?_toArray, List.getElem?_cons_zero, List.getElem?_cons_succ]; rfl
        case hq4 => exact fun _ _ _ h => h
        case hg4 => rfl
        case hy4 =>
          intro wq hSw
          replace hx0 := keep_cell hSw hx0
          replace hx1 := keep_cell hSw hx1
          go_simp
          (try with_reducible rfl)
        (try simp only [Act.put, List.setIfInBounds_toArray, List.set_cons_zero, List.set_cons_succ])
        refine wpAnyH_take (i := 10) (oi := ?oo5) (v := ?vv5) ?hi5 (by kernel_rfl) (by kernel_rfl) (by kernel_rfl) ?hq5 (Or.inl ⟨?hg5, ?hy5⟩) (by assumption) ?rest5
        case hi5 => simp only [List.getElem?_toArray, List.getElem?_cons_zero, List.getElem?_cons_succ]; rfl
        case hq5 => exact fun _ _ _ h => h
        case hg5 => rfl
        case hy5 =>
          intro wq hSw
          replace hx0 := keep_cell hSw hx0
          replace hx1 := keep_cell hSw hx1
          go_simp
          (try with_reducible rfl)
        (try simp only [Act.put, List.setIfInBounds_toArray, List.set_cons_zero, List.set_cons_succ])
        refine wpAnyH_take (i := 11) (oi := ?oo6) (v := ?vv6) ?hi6 (by kernel_rfl) (by kernel_rfl) (by kernel_rfl) ?hq6 (Or.inl ⟨?hg6, ?hy6⟩) (by assumption) ?rest6
        case hi6 => simp only [List.getElem?_toArray, List.getElem?_cons_zero, List.getElem?_cons_succ]; rfl
        case hq6 => exact fun _ _ _ h => h
        case hg6 => rfl
        case hy6 =>
          intro wq hSw
          replace hx0 := keep_cell hSw hx0
          replace hx1 := keep_cell hSw hx1
          go_simp
          (try with_reducible rfl)
        (try simp only [Act.put, List.setIfInBounds_toArray, List.set_cons_zero, List.set_cons_succ])
        refine wpAnyH_take (i := 13) (oi := ?oo7) (v := ?vv7) ?hi7 (by kernel_rfl) (by kernel_rfl) (by kernel_rfl) ?hq7 (Or.inl ⟨?hg7, ?hy7⟩) (by assumption) ?rest7
        case hi7 => simp only [List.getElem?_toArray, List.getElem?_cons_zero, List.getElem?_cons_succ]; rfl
        case hq7 => exact fun _ _ _ h => h
        case hg7 => rfl
        case hy7 =>
          intro wq hSw
          replace hx0 := keep_cell hSw hx0
          replace hx1 := keep_cell hSw hx1
          go_simp
          (try with_reducible rfl)
        (try simp only [Act.put, List.setIfInBounds_toArray, List.set_cons_zero, List.set_cons_succ])
        refine wpAnyH_take (i := 14) (oi := ?oo8) (v := ?vv8) ?hi8 (by kernel_rfl) (by kernel_rfl) (by kernel_rfl) ?hq8 (Or.inl ⟨?hg8, ?hy8⟩) (by assumption) ?rest8
        case hi8 => simp only [List.getElem?_toArray, List.getElem?_cons_zero, List.getElem?_cons_succ]; rfl
        case hq8 => exact fun _ _ _ h => h
        case hg8 => rfl
        case hy8 =>
          intro wq hSw
          replace hx0 := keep_cell hSw hx0
          replace hx1 := keep_cell hSw hx1
          go_simp
          (try with_reducible rfl)
        (try simp only [Act.put, List.setIfInBounds_toArray, List.set_cons_zero, List.set_cons_succ])
        refine wpAnyH_ready (rs := [3]) (by kernel_rfl) (by simp) ?_
        refine AllReadyH.cons (i := 3) (o := ?oo9) ?ho9 (fun K hK => ?hstep9) AllReadyH.nil
        case ho9 => simp only [List.getElem?_toArray, List.getElem?_cons_zero, List.getElem?_cons_succ]; rfl
        go_simp
        refine (HBo.out _ (zp.below hw) (zq.below hw)).mono ?_
        rintro e1 wz ⟨Ab, cb, rfl, hob, hb⟩
        have hib := hob.ints
        clear hob
        go_wp2_with fail
        refine hK.out _ _ (keep_below hb hHeld) (fun _ => ?_)
        clear hK K
        (try simp only [Act.put, List.setIfInBounds_toArray, List.set_cons_zero, List.set_cons_succ])
        refine wpAnyH_mono (S' := fun w' => Below wz.heap.size wz w') (fun _ h => keep_below h (keep_below hb hHeld)) _ _ _ _ ?_
        replace hw := keep_below hb hw
        replace hx0 := keep_cell hb hx0
        replace hx1 := keep_cell hb hx1
        clear hHeld hb
        have hHeld : Below wz.heap.size wz wz := (Below.refl _ _)
        refine wpAnyH_ready (rs := [4]) (by kernel_rfl) (by simp) ?_
        refine AllReadyH.cons (i := 4) (o := ?oo10) ?ho10 (fun K hK => ?hstep10) AllReadyH.nil
        case ho10 => simp only [List.getElem?_toArray, List.getElem?_cons_zero, List.getElem?_cons_succ]; rfl
        go_simp
        refine (HO.out _ _ _ (k.below hw) hib).mono ?_
        rintro e1 wz ⟨rfl, hb⟩
        clear hib
        go_wp2_with fail
        refine hK.out _ _ (keep_below hb hHeld) (fun _ => ?_)
        clear hK K
        (try simp only [Act.put, List.setIfInBounds_toArray, List.set_cons_zero, List.set_cons_succ])
        refine wpAnyH_mono (S' := fun w' => Below wz.heap.size wz w') (fun _ h => keep_below h (keep_below hb hHeld)) _ _ _ _ ?_
        replace hw := keep_below hb hw
        replace hx0 := keep_cell hb hx0
        replace hx1 := keep_cell hb hx1
        clear hHeld hb
        have hHeld : Below wz.heap.size wz wz := (Below.refl _ _)
        refine wpAnyH_ready (rs := [6]) (by kernel_rfl) (by simp) ?_
        refine AllReadyH.cons (i := 6) (o := ?oo11) ?ho11 (fun K hK => ?hstep11) AllReadyH.nil
        case ho11 => simp only [List.getElem?_toArray, List.getElem?_cons_zero, List.getElem?_cons_succ]; rfl
        go_simp
        refine (HSu.out _ (h.below hw) (k.below hw)).mono ?_
        rintro e1 wz ⟨As, cs, rfl, hos, hb⟩
        obtain ⟨gs, rfl, hgs, hrs⟩ := hos.pos HL.out
        have hS0 := hrs.cell (j := 0) HL.out
        have hl0 : 0 < S.length := HL.out
        clear hrs hos hgs
        go_wp2_with fail
        refine hK.out _ _ (keep_below hb hHeld) (fun _ => ?_)
        clear hK K
        (try simp only [Act.put, List.setIfInBounds_toArray, List.set_cons_zero, List.set_cons_succ])
        refine wpAnyH_mono (S' := fun w' => Below wz.heap.size wz w') (fun _ h => keep_below h (keep_below hb hHeld)) _ _ _ _ ?_
        replace hw := keep_below hb hw
        replace hx0 := keep_cell hb hx0
        replace hx1 := keep_cell hb hx1
        clear hHeld hb
        have hHeld : Below wz.heap.size wz wz := (Below.refl _ _)
        refine wpAnyH_take (i := 7) (oi := ?oo12) (v := ?vv12) ?hi12 (by kernel_rfl) (by kernel_rfl) (by kernel_rfl) ?hq12 (Or.inl ⟨?hg12, ?hy12⟩) (by assumption) ?rest12
        case hi12 => simp only [List.getElem?_toArray, List.getElem?_cons_zero, List.getElem?_cons_succ]; rfl
        case hq12 => exact fun _ _ _ h => h
        case hg12 => rfl
        case hy12 =>
          intro wq hSw
          replace hx0 := keep_cell hSw hx0
          replace hx1 := keep_cell hSw hx1
          replace hS0 := keep_cell hSw hS0
          go_simp
          (try with_reducible rfl)
        (try simp only [Act.put, List.setIfInBounds_toArray, List.set_cons_zero, List.set_cons_succ])
        refine wpAnyH_take (i := 8) (oi := ?oo13) (v := ?vv13) ?hi13 (by kernel_rfl) (by kernel_rfl) (by kernel_rfl) ?hq13 (Or.inl ⟨?hg13, ?hy13⟩) (by assumption) ?rest13
        case hi13 => simp only [List.getElem?_toArray, List.getElem?_cons_zero, List.getElem?_cons_succ]; rfl
        case hq13 => exact fun _ _ _ h => h
        case hg13 => rfl
        case hy13 =>
          intro wq hSw
          replace hx0 := keep_cell hSw hx0
          replace hx1 := keep_cell hSw hx1
          replace hS0 := keep_cell hSw hS0
          go_simp
          (try with_reducible rfl)
        (try simp only [Act.put, List.setIfInBounds_toArray, List.set_cons_zero, List.set_cons_succ])
        refine wpAnyH_take (i := 9) (oi := ?oo14) (v := ?vv14) ?hi14 (by kernel_rfl) (by kernel_rfl) (by kernel_rfl) ?hq14 (Or.inl ⟨?hg14, ?hy14⟩) (by assumption) ?rest14
        case hi14 => simp only [List.getElem?_toArray, List.getElem?_cons_zero, List.getElem?_cons_succ]; rfl
        case hq14 => exact fun _ _ _ h => h
        case hg14 => rfl
        case hy14 =>
          intro wq hSw
          replace hx0 := keep_cell hSw hx0
          replace hx1 := keep_cell hSw hx1
          replace hS0 := keep_cell hSw hS0
          go_simp
          (try with_reducible rfl)
        (try simp only [Act.put, List.setIfInBounds_toArray, List.set_cons_zero, List.set_cons_succ])
        refine wpAnyH_ready (rs := [12]) (by kernel_rfl) (by simp) ?_
        refine AllReadyH.cons (i := 12) (o := ?oo15) ?ho15 (fun K hK => ?hstep15) AllReadyH.nil
        case ho15 => simp only [List.getElem?_toArray, List.getElem?_cons_zero, List.getElem?_cons_succ]; rfl
        go_simp
        refine (HP.out _ (k.below hw) (zp.below hw)).mono ?_
        rintro e1 wz ⟨rfl, hb⟩
        go_wp2_with fail
        refine hK.out _ _ (keep_below hb hHeld) (fun _ => ?_)
        clear hK K
        (try simp only [Act.put, List.setIfInBounds_toArray, List.set_cons_zero, List.set_cons_succ])
        refine wpAnyH_mono (S' := fun w' => Below wz.heap.size wz w') (fun _ h => keep_below h (keep_below hb hHeld)) _ _ _ _ ?_
        replace hw := keep_below hb hw
        replace hx0 := keep_cell hb hx0
        replace hx1 := keep_cell hb hx1
        replace hS0 := keep_cell hb hS0
        clear hHeld hb
        have hHeld : Below wz.heap.size wz wz := (Below.refl _ _)
        refine wpAnyH_ready (rs := [15]) (by kernel_rfl) (by simp) ?_
        refine AllReadyH.cons (i := 15) (o := ?oo16) ?ho16 (fun K hK => ?hstep16) AllReadyH.nil
        case ho16 => simp only [List.getElem?_toArray, List.getElem?_cons_zero, List.getElem?_cons_succ]; rfl
        go_simp
        refine (HQ.out _ (k.below hw) (zq.below hw)).mono ?_
        rintro e1 wz ⟨rfl, hb⟩
        go_wp2_with fail
        refine hK.out _ _ (keep_below hb hHeld) (fun _ => ?_)
        clear hK K
        (try simp only [Act.put, List.setIfInBounds_toArray, List.set_cons_zero, List.set_cons_succ])
        refine wpAnyH_mono (S' := fun w' => Below wz.heap.size wz w') (fun _ h => keep_below h (keep_below hb hHeld)) _ _ _ _ ?_
        replace hw := keep_below hb hw
        replace hx0 := keep_cell hb hx0
        replace hx1 := keep_cell hb hx1
        replace hS0 := keep_cell hb hS0
        clear hHeld hb
        have hHeld : Below wz.heap.size wz wz := (Below.refl _ _)
        refine wpAnyH_take (i := 16) (oi := ?oo17) (v := ?vv17) ?hi17 (by kernel_rfl) (by kernel_rfl) (by kernel_rfl) ?hq17 (Or.inl ⟨?hg17, ?hy17⟩) (by assumption) ?rest17
        case hi17 => simp only [List.getElem?_toArray, List.getElem?_cons_zero, List.getElem?_cons_succ]; rfl
        case hq17 => exact fun _ _ _ h => h
        case hg17 => rfl
        case hy17 =>
          intro wq hSw
          replace hx0 := keep_cell hSw hx0
          replace hx1 := keep_cell hSw hx1
          replace hS0 := keep_cell hSw hS0
          go_simp
          (try with_reducible rfl)
        (try simp only [Act.put, List.setIfInBounds_toArray, List.set_cons_zero, List.set_cons_succ])
        refine wpAnyH_take (i := 17) (oi := ?oo18) (v := ?vv18) ?hi18 (by kernel_rfl) (by kernel_rfl) (by kernel_rfl) ?hq18 (Or.inl ⟨?hg18, ?hy18⟩) (by assumption) ?rest18
        case hi18 => simp only [List.getElem?_toArray, List.getElem?_cons_zero, List.getElem?_cons_succ]; rfl
        case hq18 => exact fun _ _ _ h => h
        case hg18 => rfl
        case hy18 =>
          intro wq hSw
          replace hx0 := keep_cell hSw hx0
          replace hx1 := keep_cell hSw hx1
          replace hS0 := keep_cell hSw hS0
          go_simp
          (try with_reducible rfl)
        (try simp only [Act.put, List.setIfInBounds_toArray, List.set_cons_zero, List.set_cons_succ])
        refine wpAnyH_take (i := 18) (oi := ?oo19) (v := ?vv19) ?hi19 (by kernel_rfl) (by kernel_rfl) (by kernel_rfl) ?hq19 (Or.inl ⟨?hg19, ?hy19⟩) (by assumption) ?rest19
        case hi19 => simp only [List.getElem?_toArray, List.getElem?_cons_zero, List.getElem?_cons_succ]; rfl
        case hq19 => exact fun _ _ _ h => h
        case hg19 => rfl
        case hy19 =>
          intro wq hSw
          replace hx0 := keep_cell hSw hx0
          replace hx1 := keep_cell hSw hx1
          replace hS0 := keep_cell hSw hS0
          go_simp
          (try with_reducible rfl)
        (try simp only [Act.put, List.setIfInBounds_toArray, List.set_cons_zero, List.set_cons_succ])
        refine wpAnyH_take (i := 19) (oi := ?oo20) (v := ?vv20) ?hi20 (by kernel_rfl) (by kernel_rfl) (by kernel_rfl) ?hq20 (Or.inl ⟨?hg20, ?hy20⟩) (by assumption) ?rest20
        case hi20 => simp only [List.getElem?_toArray, List.getElem?_cons_zero, List.getElem?_cons_succ]; rfl
        case hq20 => exact fun _ _ _ h => h
        case hg20 => rfl
        case hy20 =>
          intro wq hSw
          replace hx0 := keep_cell hSw hx0
          replace hx1 := keep_cell hSw hx1
          replace hS0 := keep_cell hSw hS0
          go_simp
          (try with_reducible rfl)
        (try simp only [Act.put, List.setIfInBounds_toArray, List.set_cons_zero, List.set_cons_succ])
        clear hHeld
        refine wpAnyH_done (by kernel_rfl) ?_ _
        go_wp2
        go_ret2
        exact ⟨rfl, hw⟩
end Go.Proofs.Ytombfbmcplefgaa
/- Contracts: chances of events. -/
namespace Go.Proofs.Ytombfbmcplefgaa
open Go.ChangeShapes Go.WideShapes Go.ChangeAt Go.RowKit

noncomputable def evcOk (xs ys ps : List Int) : Bool := good xs ys && isEv xs ps
noncomputable def evcN (xs ys ps : List Int) : Int := if evcOk xs ys ps then lowX (heavy ys ps) (nth (sumsL xs ys) 0) else 0
noncomputable def evcM (xs ys ps : List Int) : Int := if evcOk xs ys ps then lowY (heavy ys ps) (nth (sumsL xs ys) 0) else 0
theorem evcN_no {xs ys ps : List Int} (h : evcOk xs ys ps = false) : evcN xs ys ps = 0 := by unfold evcN; rw [h]; rfl
theorem evcM_no {xs ys ps : List Int} (h : evcOk xs ys ps = false) : evcM xs ys ps = 0 := by unfold evcM; rw [h]; rfl
theorem evcN_yes {xs ys ps : List Int} (h : evcOk xs ys ps = true) : evcN xs ys ps = lowX (heavy ys ps) (nth (sumsL xs ys) 0) := by unfold evcN; rw [h]; rfl
theorem evcM_yes {xs ys ps : List Int} (h : evcOk xs ys ps = true) : evcM xs ys ps = lowY (heavy ys ps) (nth (sumsL xs ys) 0) := by unfold evcM; rw [h]; rfl
set_option maxHeartbeats 1000000 in
set_option maxRecDepth 100000 in
theorem specEventChance_any (A B : Option Addr) (c e : Nat) (xs ys : List Int) (P : Option Addr) (cp : Nat) (ps : List Int) (w : World) (h : IntS w A xs) (k : IntS w B ys) (zp : IntS w P ps) (_hx : Bd xs) (_hy : Bd ys) (_bp : Bd ps) (hn : xs.length ≤ 1048576) (hm : ys.length ≤ 1048576) (lp : ps.length ≤ 1048576) :
    Calls Try.prog 52 #[.agg #[.slice A xs.length c, .slice B ys.length e], .slice P ps.length cp] w (RetAB w (evcN xs ys ps) (evcM xs ys ps) (evcOk xs ys ps)) := by
  obtain ⟨r1, q1⟩ : ∃ r, (good xs ys && isEv xs ps) = r := ⟨_, rfl⟩
  cases r1
  case false =>
    have hO : evcOk xs ys ps = false := by unfold evcOk ; simp [q1]
    have hV_evcN := evcN_no hO
    have hV_evcM := evcM_no hO
    rw [hV_evcN]
    rw [hV_evcM]
    (try rw [hO])
    clear hO hV_evcN hV_evcM
    have HG1 := Lib.hid (fun W (h : IntS W A xs) (k : IntS W B ys) (zp : IntS W P ps) => l2Event_any A B P c e cp xs ys ps W h k zp _hx _hy hn hm lp)
    rw [q1] at HG1
    clear q1 _hx _hy _bp
    go_enter Try.func52, Try.ntmps52
    go_wp2_with fail
    refine (HG1.out _ ((h.alloc _).alloc _) ((k.alloc _).alloc _) ((zp.alloc _).alloc _)).mono ?_
    rintro e1 w1 ⟨rfl, hb⟩
    have hx0 : w1.cell? ⟨w.heap.size, 0, none⟩ = some (.slice A xs.length c) := keep_cell hb (by simp)
    have hx1 : w1.cell? ⟨w.heap.size, 1, none⟩ = some (.slice B ys.length e) := keep_cell hb (by simp)
    have hr0 : w1.cell? ⟨w.heap.size + 1, 0, none⟩ = some (.int .i64 0) := keep_cell hb (by simp)
    have hr1 : w1.cell? ⟨w.heap.size + 1, 1, none⟩ = some (.int .i64 0) := keep_cell hb (by simp)
    have hf0 : w1.frozen? ⟨w.heap.size + 1, 0, none⟩ = false := keep_froz hb (by simp) (by simp)
    have hf1 : w1.frozen? ⟨w.heap.size + 1, 1, none⟩ = false := keep_froz hb (by simp) (by simp)
    have hw : Below w.heap.size w w1 := below_alloc (below_alloc (hb))
    clear hb
    go_wp2
    refine bodyPost_ret (v := .tuple #[.agg #[.int .i64 0, .int .i64 0], .bool false]) (by simp (maxDischargeDepth := 9) [results, Try.results52, go_sem, *]) rfl ⟨rfl, ?_⟩
    (repeat (first | with_reducible exact Below.refl _ _ | with_reducible assumption | with_reducible refine Below.alloc' ?_ ?_ _ | with_reducible refine Below.setCell' ?_ ?_ _ | with_reducible refine Below.drewN' ?_ _ | with_reducible refine Below.drew ?_ | with_reducible refine Below.transA ?_ (by assumption) ?_ | omega | (focus (simp; done)) | (focus (simp; omega))))
  case true =>
    have hO : evcOk xs ys ps = true := by unfold evcOk ; simp [q1]
    have hV_evcN := evcN_yes hO
    have hV_evcM := evcM_yes hO
    rw [hV_evcN]
    rw [hV_evcM]
    (try rw [hO])
    clear hO hV_evcN hV_evcM
    have HG1 := Lib.hid (fun W (h : IntS W A xs) (k : IntS W B ys) (zp : IntS W P ps) => l2Event_any A B P c e cp xs ys ps W h k zp _hx _hy hn hm lp)
    rw [q1] at HG1
    have hgl := good_len (Bool.and_eq_true_iff.1 q1).1
    have np := ev_node (Bool.and_eq_true_iff.1 q1).2
    have lp2 := ev_len (Bool.and_eq_true_iff.1 q1).2
    have b1 := heavy_bd (Bool.and_eq_true_iff.1 q1).1 (zs := ps) (by omega)
    have b4 := sums_bd (Bool.and_eq_true_iff.1 q1).1 0
    have b5 := sums_root (Bool.and_eq_true_iff.1 q1).1
    have HSu := Lib.hid (fun W (h : IntS W A xs) (k : IntS W B ys) => l2Sums_good (Bool.and_eq_true_iff.1 q1).1 A B c e W h k)
    have HP := Lib.hid (fun W (k : IntS W B ys) (z : IntS W P ps) => l2Heavy_any (Bool.and_eq_true_iff.1 q1).1 A B P xs.length c e cp ps W k z lp (by rw [hgl.2.2]; exact np))
    have HL : Hid (1 ≤ (sumsL xs ys).length) := by have := sums_len (Bool.and_eq_true_iff.1 q1).1; show 1 ≤ _; omega
    generalize heavy ys ps = hp at *
    generalize sumsL xs ys = S at *
    have HC := fun W => l2Cut_any hp (nth S 0) W (by omega) (by omega) (by omega)
    replace HC := Lib.hid HC
    clear hgl np b1 b4 b5 lp2
    clear q1 _hx _hy _bp
    go_enter Try.func52, Try.ntmps52
    go_wp2_with fail
    refine (HG1.out _ ((h.alloc _).alloc _) ((k.alloc _).alloc _) ((zp.alloc _).alloc _)).mono ?_
    rintro e1 w1 ⟨rfl, hb⟩
    have hx0 : w1.cell? ⟨w.heap.size, 0, none⟩ = some (.slice A xs.length c) := keep_cell hb (by simp)
    have hx1 : w1.cell? ⟨w.heap.size, 1, none⟩ = some (.slice B ys.length e) := keep_cell hb (by simp)
    have hr0 : w1.cell? ⟨w.heap.size + 1, 0, none⟩ = some (.int .i64 0) := keep_cell hb (by simp)
    have hr1 : w1.cell? ⟨w.heap.size + 1, 1, none⟩ = some (.int .i64 0) := keep_cell hb (by simp)
    have hf0 : w1.frozen? ⟨w.heap.size + 1, 0, none⟩ = false := keep_froz hb (by simp) (by simp)
    have hf1 : w1.frozen? ⟨w.heap.size + 1, 1, none⟩ = false := keep_froz hb (by simp) (by simp)
    have hw : Below w.heap.size w w1 := below_alloc (below_alloc (hb))
    clear hb
    clear HG1
    have hrw := World.block_lt_of_cell? _ _ hr0
    replace hrw : w.heap.size + 1 < w1.heap.size := hrw
    go_wp2
    refine wp_region_held_drew (S := fun w' => KeptBut w1 w' (w.heap.size + 1) (w.heap.size + 1)) (by kernel_rfl) ((KeptBut.refl2 _ _)).drew (fun hHeld => ?_)
    replace hw := hw.drew
    refine wpAnyH_take (i := 0) (oi := ?oo1) (v := ?vv1) ?hi1 (by kernel_rfl) (by kernel_rfl) (by kernel_rfl) ?hq1 (Or.inl ⟨?hg1, ?hy1⟩) (by assumption) ?rest1
    case hi1 => simp only [List.getElem?_toArray, List.getElem?_cons_zero]; rfl
    case hq1 => exact fun _ _ _ h => h
    case hg1 => rfl
    case hy1 =>
      intro wq hSw
      replace hx0 := hSw.cell hx0 (by first | omega | (simp; done) | (simp; omega)) (by first | omega | (simp; done) | (simp; omega))
      replace hx1 := hSw.cell hx1 (by first | omega | (simp; done) | (simp; omega)) (by first | omega | (simp; done) | (simp; omega))
      go_simp
      (try with_reducible rfl)
    (try simp only [Act.put, List.setIfInBounds_toArray, List.set_cons_zero, List.set_cons_succ])
    refine wpAnyH_take (i := 1) (oi := ?oo2) (v := ?vv2) ?hi2 (by kernel_rfl) (by kernel_rfl) (by kernel_rfl) ?hq2 (Or.inl ⟨?hg2, ?hy2⟩) (by assumption) ?rest2
    case hi2 => simp only [List.getElem?_toArray, List.getElem?_cons_zero, List.getElem?_cons_succ]; rfl
    case hq2 => exact fun _ _ _ h => h
    case hg2 => rfl
    case hy2 =>
      intro wq hSw
      replace hx0 := hSw.cell hx0 (by first | omega | (simp; done) | (simp; omega)) (by first | omega | (simp; done) | (simp; omega))
      replace hx1 := hSw.cell hx1 (by first | omega | (simp; done) | (simp; omega)) (by first | omega | (simp; done) | (simp; omega))
      go_simp
      (try with_reducible rfl)
    (try simp only [Act.put, List.setIfInBounds_toArray, List.set_cons_zero, List.set_cons_succ])
    refine wpAnyH_take (i := 3) (oi := ?oo3) (v := ?vv3) ?hi3 (by kernel_rfl) (by kernel_rfl) (by kernel_rfl) ?hq3 (Or.inl ⟨?hg3, ?hy3⟩) (by assumption) ?rest3
    case hi3 => simp only [List.getElem?_toArray, List.getElem?_cons_zero, List.getElem?_cons_succ]; rfl
    case hq3 => exact fun _ _ _ h => h
    case hg3 => rfl
    case hy3 =>
      intro wq hSw
      replace hx0 := hSw.cell hx0 (by first | omega | (simp; done) | (simp; omega)) (by first | omega | (simp; done) | (simp; omega))
      replace hx1 := hSw.cell hx1 (by first | omega | (simp; done) | (simp; omega)) (by first | omega | (simp; done) | (simp; omega))
      go_simp
      (try with_reducible rfl)
    (try simp only [Act.put, List.setIfInBounds_toArray, List.set_cons_zero, List.set_cons_succ])
    refine wpAnyH_ready (rs := [2]) (by kernel_rfl) (by simp) ?_
    refine AllReadyH.cons (i := 2) (o := ?oo4) ?ho4 (fun K hK => ?hstep4) AllReadyH.nil
    case ho4 => simp only [List.getElem?_toArray, List.getElem?_cons_zero, List.getElem?_cons_succ]; rfl
    go_simp
    refine (HP.out _ (k.below hw) (zp.below hw)).mono ?_
    rintro e1 wz ⟨rfl, hb⟩
    go_wp2_with fail
    refine hK.out _ _ (hHeld.post hb) (fun _ => ?_)
    clear hK K
    (try simp only [Act.put, List.setIfInBounds_toArray, List.set_cons_zero, List.set_cons_succ])
    refine wpAnyH_mono (S' := fun w' => KeptBut wz w' (w.heap.size + 1) (w.heap.size + 1)) (fun _ h => (hHeld.post hb).trans2 h) _ _ _ _ ?_
    replace hx0 := keep_cell hb hx0
    replace hx1 := keep_cell hb hx1
    replace hf0 := keep_froz2 hb hr0 hf0
    replace hf1 := keep_froz2 hb hr1 hf1
    replace hr0 := keep_cell hb hr0
    replace hr1 := keep_cell hb hr1
    replace hw := keep_below hb hw
    clear hHeld hb
    have hHeld : KeptBut wz wz (w.heap.size + 1) (w.heap.size + 1) := (KeptBut.refl2 _ _)
    refine wpAnyH_ready (rs := [4]) (by kernel_rfl) (by simp) ?_
    refine AllReadyH.cons (i := 4) (o := ?oo5) ?ho5 (fun K hK => ?hstep5) AllReadyH.nil
    case ho5 => simp only [List.getElem?_toArray, List.getElem?_cons_zero, List.getElem?_cons_succ]; rfl
    go_simp
    have hrz := World.block_lt_of_cell? _ _ hr0
    simp only at hrz
    refine (HSu.out _ (h.below hw) (k.below hw)).mono ?_
    rintro e1 wz ⟨As, cs, rfl, hos, hb⟩
    obtain ⟨gs, rfl, hgs, hrs⟩ := hos.pos HL.out
    have hS0 := hrs.cell (j := 0) HL.out
    have hl0 : 0 < S.length := HL.out
    have hgr : w.heap.size + 1 < gs := by omega
    clear hrs hos hrz hgs
    go_wp2_with fail
    refine hK.out _ _ (hHeld.post hb) (fun _ => ?_)
    clear hK K
    (try simp only [Act.put, List.setIfInBounds_toArray, List.set_cons_zero, List.set_cons_succ])
    refine wpAnyH_mono (S' := fun w' => KeptBut wz w' (w.heap.size + 1) (w.heap.size + 1)) (fun _ h => (hHeld.post hb).trans2 h) _ _ _ _ ?_
    replace hx0 := keep_cell hb hx0
    replace hx1 := keep_cell hb hx1
    replace hf0 := keep_froz2 hb hr0 hf0
    replace hf1 := keep_froz2 hb hr1 hf1
    replace hr0 := keep_cell hb hr0
    replace hr1 := keep_cell hb hr1
    replace hw := keep_below hb hw
    clear hHeld hb
    have hHeld : KeptBut wz wz (w.heap.size + 1) (w.heap.size + 1) := (KeptBut.refl2 _ _)
    refine wpAnyH_take (i := 5) (oi := ?oo6) (v := ?vv6) ?hi6 (by kernel_rfl) (by kernel_rfl) (by kernel_rfl) ?hq6 (Or.inl ⟨?hg6, ?hy6⟩) (by assumption) ?rest6
    case hi6 => simp only [List.getElem?_toArray, List.getElem?_cons_zero, List.getElem?_cons_succ]; rfl
    case hq6 => exact fun _ _ _ h => h
    case hg6 => rfl
    case hy6 =>
      intro wq hSw
      replace hx0 := hSw.cell hx0 (by first | omega | (simp; done) | (simp; omega)) (by first | omega | (simp; done) | (simp; omega))
      replace hx1 := hSw.cell hx1 (by first | omega | (simp; done) | (simp; omega)) (by first | omega | (simp; done) | (simp; omega))
      replace hS0 := hSw.cell hS0 (by first | omega | (simp; done) | (simp; omega)) (by first | omega | (simp; done) | (simp; omega))
      go_simp
      (try with_reducible rfl)
    (try simp only [Act.put, List.setIfInBounds_toArray, List.set_cons_zero, List.set_cons_succ])
    refine wpAnyH_take (i := 6) (oi := ?oo7) (v := ?vv7) ?hi7 (by kernel_rfl) (by kernel_rfl) (by kernel_rfl) ?hq7 (Or.inl ⟨?hg7, ?hy7⟩) (by assumption) ?rest7
    case hi7 => simp only [List.getElem?_toArray, List.getElem?_cons_zero, List.getElem?_cons_succ]; rfl
    case hq7 => exact fun _ _ _ h => h
    case hg7 => rfl
    case hy7 =>
      intro wq hSw
      replace hx0 := hSw.cell hx0 (by first | omega | (simp; done) | (simp; omega)) (by first | omega | (simp; done) | (simp; omega))
      replace hx1 := hSw.cell hx1 (by first | omega | (simp; done) | (simp; omega)) (by first | omega | (simp; done) | (simp; omega))
      replace hS0 := hSw.cell hS0 (by first | omega | (simp; done) | (simp; omega)) (by first | omega | (simp; done) | (simp; omega))
      go_simp
      (try with_reducible rfl)
    (try simp only [Act.put, List.setIfInBounds_toArray, List.set_cons_zero, List.set_cons_succ])
    refine wpAnyH_ready (rs := [7]) (by kernel_rfl) (by simp) ?_
    refine AllReadyH.cons (i := 7) (o := ?oo8) ?ho8 (fun K hK => ?hstep8) AllReadyH.nil
    case ho8 => simp only [List.getElem?_toArray, List.getElem?_cons_zero, List.getElem?_cons_succ]; rfl
    go_simp
    refine (HC.out _).mono ?_
    rintro e1 wz ⟨rfl, hb⟩
    go_wp2_with fail
    refine hK.out _ _ (hHeld.post hb) (fun _ => ?_)
    clear hK K
    (try simp only [Act.put, List.setIfInBounds_toArray, List.set_cons_zero, List.set_cons_succ])
    refine wpAnyH_mono (S' := fun w' => KeptBut wz w' (w.heap.size + 1) (w.heap.size + 1)) (fun _ h => (hHeld.post hb).trans2 h) _ _ _ _ ?_
    replace hx0 := keep_cell hb hx0
    replace hx1 := keep_cell hb hx1
    replace hS0 := keep_cell hb hS0
    replace hf0 := keep_froz2 hb hr0 hf0
    replace hf1 := keep_froz2 hb hr1 hf1
    replace hr0 := keep_cell hb hr0
    replace hr1 := keep_cell hb hr1
    replace hw := keep_below hb hw
    clear hHeld hb
    have hHeld : KeptBut wz wz (w.heap.size + 1) (w.heap.size + 1) := (KeptBut.refl2 _ _)
    refine wpAnyH_ready (rs := [8]) (by kernel_rfl) (by simp) ?_
    refine AllReadyH.cons (i := 8) (o := ?oo9) ?ho9 (fun K hK => ?hstep9) AllReadyH.nil
    case ho9 => simp only [List.getElem?_toArray, List.getElem?_cons_zero, List.getElem?_cons_succ]; rfl
    go_simp
    refine hK.out _ _ (((KeptBut.refl2 _ _).setg _ _).setg _ _) (fun hHeld2 => ?_)
    clear hK K
    (try simp only [Act.put, List.setIfInBounds_toArray, List.set_cons_zero, List.set_cons_succ])
    refine wpAnyH_take (i := 9) (oi := ?oo10) (v := ?vv10) ?hi10 (by kernel_rfl) (by kernel_rfl) (by kernel_rfl) ?hq10 (Or.inl ⟨?hg10, ?hy10⟩) (by assumption) ?rest10
    case hi10 => simp only [List.getElem?_toArray, List.getElem?_cons_zero, List.getElem?_cons_succ]; rfl
    case hq10 => exact fun _ _ _ h => h
    case hg10 => rfl
    case hy10 =>
      intro wq hSw
      replace hx0 := hSw.cell hx0 (by first | omega | (simp; done) | (simp; omega)) (by first | omega | (simp; done) | (simp; omega))
      replace hx1 := hSw.cell hx1 (by first | omega | (simp; done) | (simp; omega)) (by first | omega | (simp; done) | (simp; omega))
      replace hS0 := hSw.cell hS0 (by first | omega | (simp; done) | (simp; omega)) (by first | omega | (simp; done) | (simp; omega))
      go_simp
      (try with_reducible rfl)
    (try simp only [Act.put, List.setIfInBounds_toArray, List.set_cons_zero, List.set_cons_succ])
    clear hHeld
    refine wpAnyH_done (by kernel_rfl) ?_ _
    go_wp2
    refine bodyPost_ret (v := .tuple #[.agg #[.int .i64 (lowX hp (nth S 0)), .int .i64 (lowY hp (nth S 0))], .bool true]) (by simp (maxDischargeDepth := 9) [results, Try.results52, go_sem, *]) rfl ⟨rfl, ?_⟩
    (repeat (first | with_reducible exact Below.refl _ _ | with_reducible assumption | with_reducible refine Below.alloc' ?_ ?_ _ | with_reducible refine Below.setCell' ?_ ?_ _ | with_reducible refine Below.drewN' ?_ _ | with_reducible refine Below.drew ?_ | with_reducible refine Below.transA ?_ (by assumption) ?_ | omega | (focus (simp; done)) | (focus (simp; omega))))
set_option maxHeartbeats 1000000 in
set_option maxRecDepth 100000 in
theorem implEventChance_any (A B : Option Addr) (c e : Nat) (xs ys : List Int) (P : Option Addr) (cp : Nat) (ps : List Int) (w : World) (h : IntS w A xs) (k : IntS w B ys) (zp : IntS w P ps) (_hx : Bd xs) (_hy : Bd ys) (_bp : Bd ps) (hn : xs.length ≤ 1048576) (hm : ys.length ≤ 1048576) (lp : ps.length ≤ 1048576) :
    Calls Try.prog 51 #[.agg #[.slice A xs.length c, .slice B ys.length e], .slice P ps.length cp] w (RetAB w (evcN xs ys ps) (evcM xs ys ps) (evcOk xs ys ps)) := by
  obtain ⟨r1, q1⟩ : ∃ r, (good xs ys) = r := ⟨_, rfl⟩
  cases r1
  case false =>
    have hO : evcOk xs ys ps = false := by unfold evcOk ; simp [q1]
    have hV_evcN := evcN_no hO
    have hV_evcM := evcM_no hO
    rw [hV_evcN]
    rw [hV_evcM]
    (try rw [hO])
    clear hO hV_evcN hV_evcM
    have HG1 := Lib.hid (fun W (h : IntS W A xs) (k : IntS W B ys) => isTree_any A B c e xs ys W h k _hx _hy hn hm)
    rw [q1] at HG1
    clear q1 _hx _hy _bp
    go_enter Try.func51, Try.ntmps51
    go_wp2_with fail
    refine (HG1.out _ ((h.alloc _).alloc _) ((k.alloc _).alloc _)).mono ?_
    rintro e1 w1 ⟨rfl, hb⟩
    have hx0 : w1.cell? ⟨w.heap.size, 0, none⟩ = some (.slice A xs.length c) := keep_cell hb (by simp)
    have hx1 : w1.cell? ⟨w.heap.size, 1, none⟩ = some (.slice B ys.length e) := keep_cell hb (by simp)
    have hr0 : w1.cell? ⟨w.heap.size + 1, 0, none⟩ = some (.int .i64 0) := keep_cell hb (by simp)
    have hr1 : w1.cell? ⟨w.heap.size + 1, 1, none⟩ = some (.int .i64 0) := keep_cell hb (by simp)
    have hf0 : w1.frozen? ⟨w.heap.size + 1, 0, none⟩ = false := keep_froz hb (by simp) (by simp)
    have hf1 : w1.frozen? ⟨w.heap.size + 1, 1, none⟩ = false := keep_froz hb (by simp) (by simp)
    have hw : Below w.heap.size w w1 := below_alloc (below_alloc (hb))
    clear hb
    go_wp2
    refine bodyPost_ret (v := .tuple #[.agg #[.int .i64 0, .int .i64 0], .bool false]) (by simp (maxDischargeDepth := 9) [results, Try.results51, go_sem, *]) rfl ⟨rfl, ?_⟩
    (repeat (first | with_reducible exact Below.refl _ _ | with_reducible assumption | with_reducible refine Below.alloc' ?_ ?_ _ | with_reducible refine Below.setCell' ?_ ?_ _ | with_reducible refine Below.drewN' ?_ _ | with_reducible refine Below.drew ?_ | with_reducible refine Below.transA ?_ (by assumption) ?_ | omega | (focus (simp; done)) | (focus (simp; omega))))
  case true =>
    obtain ⟨r2, q2⟩ : ∃ r, (isEv xs ps) = r := ⟨_, rfl⟩
    cases r2
    case false =>
      have hO : evcOk xs ys ps = false := by unfold evcOk ; simp [q1, q2]
      have hV_evcN := evcN_no hO
      have hV_evcM := evcM_no hO
      rw [hV_evcN]
      rw [hV_evcM]
      (try rw [hO])
      clear hO hV_evcN hV_evcM
      have HG1 := Lib.hid (fun W (h : IntS W A xs) (k : IntS W B ys) => isTree_any A B c e xs ys W h k _hx _hy hn hm)
      rw [q1] at HG1
      have HG2 := Lib.hid (fun W (h : IntS W A xs) (zp : IntS W P ps) => isEvent_good q1 A B P c ys.length e cp ps W h zp lp)
      rw [q2] at HG2
      clear q1 q2 _hx _hy _bp
      go_enter Try.func51, Try.ntmps51
      go_wp2_with fail
      refine (HG1.out _ ((h.alloc _).alloc _) ((k.alloc _).alloc _)).mono ?_
      rintro e1 w1 ⟨rfl, hb⟩
      have hx0 : w1.cell? ⟨w.heap.size, 0, none⟩ = some (.slice A xs.length c) := keep_cell hb (by simp)
      have hx1 : w1.cell? ⟨w.heap.size, 1, none⟩ = some (.slice B ys.length e) := keep_cell hb (by simp)
      have hr0 : w1.cell? ⟨w.heap.size + 1, 0, none⟩ = some (.int .i64 0) := keep_cell hb (by simp)
      have hr1 : w1.cell? ⟨w.heap.size + 1, 1, none⟩ = some (.int .i64 0) := keep_cell hb (by simp)
      have hf0 : w1.frozen? ⟨w.heap.size + 1, 0, none⟩ = false := keep_froz hb (by simp) (by simp)
      have hf1 : w1.frozen? ⟨w.heap.size + 1, 1, none⟩ = false := keep_froz hb (by simp) (by simp)
      have hw : Below w.heap.size w w1 := below_alloc (below_alloc (hb))
      clear hb
      go_wp2_with fail
      refine (HG2.out _ (h.below hw) (zp.below hw)).mono ?_
      rintro e1 w2 ⟨rfl, hb⟩
      replace hx0 := keep_cell hb hx0
      replace hx1 := keep_cell hb hx1
      replace hf0 := keep_froz hb (by rw [hr0]; rfl) hf0
      replace hf1 := keep_froz hb (by rw [hr1]; rfl) hf1
      replace hr0 := keep_cell hb hr0
      replace hr1 := keep_cell hb hr1
      replace hw := keep_below hb hw
      clear hb
      go_wp2
      refine bodyPost_ret (v := .tuple #[.agg #[.int .i64 0, .int .i64 0], .bool false]) (by simp (maxDischargeDepth := 9) [results, Try.results51, go_sem, *]) rfl ⟨rfl, ?_⟩
      (repeat (first | with_reducible exact Below.refl _ _ | with_reducible assumption | with_reducible refine Below.alloc' ?_ ?_ _ | with_reducible refine Below.setCell' ?_ ?_ _ | with_reducible refine Below.drewN' ?_ _ | with_reducible refine Below.drew ?_ | with_reducible refine Below.transA ?_ (by assumption) ?_ | omega | (focus (simp; done)) | (focus (simp; omega))))
    case true =>
      have hO : evcOk xs ys ps = true := by unfold evcOk ; simp [q1, q2]
      have hV_evcN := evcN_yes hO
      have hV_evcM := evcM_yes hO
      rw [hV_evcN]
      rw [hV_evcM]
      (try rw [hO])
      clear hO hV_evcN hV_evcM
      have HG1 := Lib.hid (fun W (h : IntS W A xs) (k : IntS W B ys) => isTree_any A B c e xs ys W h k _hx _hy hn hm)
      rw [q1] at HG1
      have HG2 := Lib.hid (fun W (h : IntS W A xs) (zp : IntS W P ps) => isEvent_good q1 A B P c ys.length e cp ps W h zp lp)
      rw [q2] at HG2
      have hgl := good_len q1
      have np := ev_node q2
      have lp2 := ev_len q2
      have b1 := heavy_bd q1 (zs := ps) (by omega)
      have b4 := sums_bd q1 0
      have b5 := sums_root q1
      have HSu := Lib.hid (fun W (h : IntS W A xs) (k : IntS W B ys) => sums_good q1 A B c e W h k)
      have HP := Lib.hid (fun W (k : IntS W B ys) (z : IntS W P ps) => weighed_any q1 A B P xs.length c e cp ps W k z lp (by rw [hgl.2.2]; exact np))
      have HL : Hid (1 ≤ (sumsL xs ys).length) := by have := sums_len q1; show 1 ≤ _; omega
      generalize heavy ys ps = hp at *
      generalize sumsL xs ys = S at *
      have HC := fun W => lowest_any hp (nth S 0) W (by omega) (by omega) (by omega)
      have hlo := low_small (a := hp) (b := nth S 0) (by omega) (by omega)
      rw [hlo.1, hlo.2.1, hlo.2.2] at HC
      clear hlo
      replace HC := Lib.hid HC
      clear hgl np b1 b4 b5 lp2
      clear q1 q2 _hx _hy _bp
      go_enter Try.func51, Try.ntmps51
      go_wp2_with fail
      refine (HG1.out _ ((h.alloc _).alloc _) ((k.alloc _).alloc _)).mono ?_
      rintro e1 w1 ⟨rfl, hb⟩
      have hx0 : w1.cell? ⟨w.heap.size, 0, none⟩ = some (.slice A xs.length c) := keep_cell hb (by simp)
      have hx1 : w1.cell? ⟨w.heap.size, 1, none⟩ = some (.slice B ys.length e) := keep_cell hb (by simp)
      have hr0 : w1.cell? ⟨w.heap.size + 1, 0, none⟩ = some (.int .i64 0) := keep_cell hb (by simp)
      have hr1 : w1.cell? ⟨w.heap.size + 1, 1, none⟩ = some (.int .i64 0) := keep_cell hb (by simp)
      have hf0 : w1.frozen? ⟨w.heap.size + 1, 0, none⟩ = false := keep_froz hb (by simp) (by simp)
      have hf1 : w1.frozen? ⟨w.heap.size + 1, 1, none⟩ = false := keep_froz hb (by simp) (by simp)
      have hw : Below w.heap.size w w1 := below_alloc (below_alloc (hb))
      clear hb
      go_wp2_with fail
      refine (HG2.out _ (h.below hw) (zp.below hw)).mono ?_
      rintro e1 w2 ⟨rfl, hb⟩
      replace hx0 := keep_cell hb hx0
      replace hx1 := keep_cell hb hx1
      replace hf0 := keep_froz hb (by rw [hr0]; rfl) hf0
      replace hf1 := keep_froz hb (by rw [hr1]; rfl) hf1
      replace hr0 := keep_cell hb hr0
      replace hr1 := keep_cell hb hr1
      replace hw := keep_below hb hw
      clear hb
      clear HG1 HG2
      have hrw := World.block_lt_of_cell? _ _ hr0
      replace hrw : w.heap.size + 1 < w2.heap.size := hrw
      go_wp2
      refine wp_region_held_drew (S := fun w' => KeptBut w2 w' (w.heap.size + 1) (w.heap.size + 1)) (by kernel_rfl) ((KeptBut.refl2 _ _)).drew (fun hHeld => ?_)
      replace hw := hw.drew
      refine wpAnyH_take (i := 0) (oi := ?oo1) (v := ?vv1) ?hi1 (by kernel_rfl) (by kernel_rfl) (by kernel_rfl) ?hq1 (Or.inl ⟨?hg1, ?hy1⟩) (by assumption) ?rest1
      case hi1 => simp only [List.getElem?_toArray, List.getElem?_cons_zero]; rfl
      case hq1 => exact fun _ _ _ h => h
      case hg1 => rfl
      case hy1 =>
        intro wq hSw
        replace hx0 := hSw.cell hx0 (by first | omega | (simp; done) | (simp; omega)) (by first | omega | (simp; done) | (simp; omega))
        replace hx1 := hSw.cell hx1 (by first | omega | (simp; done) | (simp; omega)) (by first | omega | (simp; done) | (simp; omega))
        go_simp
        (try with_reducible rfl)
      (try simp only [Act.put, List.setIfInBounds_toArray, List.set_cons_zero, List.set_cons_succ])
      refine wpAnyH_take (i := 1) (oi := ?oo2) (v := ?vv2) ?hi2 (by kernel_rfl) (by kernel_rfl) (by kernel_rfl) ?hq2 (Or.inl ⟨?hg2, ?hy2⟩) (by assumption) ?rest2
      case hi2 => simp only [List.getElem?_toArray, List.getElem?_cons_zero, List.getElem?_cons_succ]; rfl
      case hq2 => exact fun _ _ _ h => h
      case hg2 => rfl
      case hy2 =>
        intro wq hSw
        replace hx0 := hSw.cell hx0 (by first | omega | (simp; done) | (simp; omega)) (by first | omega | (simp; done) | (simp; omega))
        replace hx1 := hSw.cell hx1 (by first | omega | (simp; done) | (simp; omega)) (by first | omega | (simp; done) | (simp; omega))
        go_simp
        (try with_reducible rfl)
      (try simp only [Act.put, List.setIfInBounds_toArray, List.set_cons_zero, List.set_cons_succ])
      refine wpAnyH_take (i := 3) (oi := ?oo3) (v := ?vv3) ?hi3 (by kernel_rfl) (by kernel_rfl) (by kernel_rfl) ?hq3 (Or.inl ⟨?hg3, ?hy3⟩) (by assumption) ?rest3
      case hi3 => simp only [List.getElem?_toArray, List.getElem?_cons_zero, List.getElem?_cons_succ]; rfl
      case hq3 => exact fun _ _ _ h => h
      case hg3 => rfl
      case hy3 =>
        intro wq hSw
        replace hx0 := hSw.cell hx0 (by first | omega | (simp; done) | (simp; omega)) (by first | omega | (simp; done) | (simp; omega))
        replace hx1 := hSw.cell hx1 (by first | omega | (simp; done) | (simp; omega)) (by first | omega | (simp; done) | (simp; omega))
        go_simp
        (try with_reducible rfl)
      (try simp only [Act.put, List.setIfInBounds_toArray, List.set_cons_zero, List.set_cons_succ])
      refine wpAnyH_ready (rs := [2]) (by kernel_rfl) (by simp) ?_
      refine AllReadyH.cons (i := 2) (o := ?oo4) ?ho4 (fun K hK => ?hstep4) AllReadyH.nil
      case ho4 => simp only [List.getElem?_toArray, List.getElem?_cons_zero, List.getElem?_cons_succ]; rfl
      go_simp
      refine (HP.out _ (k.below hw) (zp.below hw)).mono ?_
      rintro e1 wz ⟨rfl, hb⟩
      go_wp2_with fail
      refine hK.out _ _ (hHeld.post hb) (fun _ => ?_)
      clear hK K
      (try simp only [Act.put, List.setIfInBounds_toArray, List.set_cons_zero, List.set_cons_succ])
      refine wpAnyH_mono (S' := fun w' => KeptBut wz w' (w.heap.size + 1) (w.heap.size + 1)) (fun _ h => (hHeld.post hb).trans2 h) _ _ _ _ ?_
      replace hx0 := keep_cell hb hx0
      replace hx1 := keep_cell hb hx1
      replace hf0 := keep_froz2 hb hr0 hf0
      replace hf1 := keep_froz2 hb hr1 hf1
      replace hr0 := keep_cell hb hr0
      replace hr1 := keep_cell hb hr1
      replace hw := keep_below hb hw
      clear hHeld hb
      have hHeld : KeptBut wz wz (w.heap.size + 1) (w.heap.size + 1) := (KeptBut.refl2 _ _)
      refine wpAnyH_ready (rs := [4]) (by kernel_rfl) (by simp) ?_
      refine AllReadyH.cons (i := 4) (o := ?oo5) ?ho5 (fun K hK => ?hstep5) AllReadyH.nil
      case ho5 => simp only [List.getElem?_toArray, List.getElem?_cons_zero, List.getElem?_cons_succ]; rfl
      go_simp
      have hrz := World.block_lt_of_cell? _ _ hr0
      simp only at hrz
      refine (HSu.out _ (h.below hw) (k.below hw)).mono ?_
      rintro e1 wz ⟨As, cs, rfl, hos, hb⟩
      obtain ⟨gs, rfl, hgs, hrs⟩ := hos.pos HL.out
      have hS0 := hrs.cell (j := 0) HL.out
      have hl0 : 0 < S.length := HL.out
      have hgr : w.heap.size + 1 < gs := by omega
      clear hrs hos hrz hgs
      go_wp2_with fail
      refine hK.out _ _ (hHeld.post hb) (fun _ => ?_)
      clear hK K
      (try simp only [Act.put, List.setIfInBounds_toArray, List.set_cons_zero, List.set_cons_succ])
      refine wpAnyH_mono (S' := fun w' => KeptBut wz w' (w.heap.size + 1) (w.heap.size + 1)) (fun _ h => (hHeld.post hb).trans2 h) _ _ _ _ ?_
      replace hx0 := keep_cell hb hx0
      replace hx1 := keep_cell hb hx1
      replace hf0 := keep_froz2 hb hr0 hf0
      replace hf1 := keep_froz2 hb hr1 hf1
      replace hr0 := keep_cell hb hr0
      replace hr1 := keep_cell hb hr1
      replace hw := keep_below hb hw
      clear hHeld hb
      have hHeld : KeptBut wz wz (w.heap.size + 1) (w.heap.size + 1) := (KeptBut.refl2 _ _)
      refine wpAnyH_take (i := 5) (oi := ?oo6) (v := ?vv6) ?hi6 (by kernel_rfl) (by kernel_rfl) (by kernel_rfl) ?hq6 (Or.inl ⟨?hg6, ?hy6⟩) (by assumption) ?rest6
      case hi6 => simp only [List.getElem?_toArray, List.getElem?_cons_zero, List.getElem?_cons_succ]; rfl
      case hq6 => exact fun _ _ _ h => h
      case hg6 => rfl
      case hy6 =>
        intro wq hSw
        replace hx0 := hSw.cell hx0 (by first | omega | (simp; done) | (simp; omega)) (by first | omega | (simp; done) | (simp; omega))
        replace hx1 := hSw.cell hx1 (by first | omega | (simp; done) | (simp; omega)) (by first | omega | (simp; done) | (simp; omega))
        replace hS0 := hSw.cell hS0 (by first | omega | (simp; done) | (simp; omega)) (by first | omega | (simp; done) | (simp; omega))
        go_simp
        (try with_reducible rfl)
      (try simp only [Act.put, List.setIfInBounds_toArray, List.set_cons_zero, List.set_cons_succ])
      refine wpAnyH_take (i := 6) (oi := ?oo7) (v := ?vv7) ?hi7 (by kernel_rfl) (by kernel_rfl) (by kernel_rfl) ?hq7 (Or.inl ⟨?hg7, ?hy7⟩) (by assumption) ?rest7
      case hi7 => simp only [List.getElem?_toArray, List.getElem?_cons_zero, List.getElem?_cons_succ]; rfl
      case hq7 => exact fun _ _ _ h => h
      case hg7 => rfl
      case hy7 =>
        intro wq hSw
        replace hx0 := hSw.cell hx0 (by first | omega | (simp; done) | (simp; omega)) (by first | omega | (simp; done) | (simp; omega))
        replace hx1 := hSw.cell hx1 (by first | omega | (simp; done) | (simp; omega)) (by first | omega | (simp; done) | (simp; omega))
        replace hS0 := hSw.cell hS0 (by first | omega | (simp; done) | (simp; omega)) (by first | omega | (simp; done) | (simp; omega))
        go_simp
        (try with_reducible rfl)
      (try simp only [Act.put, List.setIfInBounds_toArray, List.set_cons_zero, List.set_cons_succ])
      refine wpAnyH_ready (rs := [7]) (by kernel_rfl) (by simp) ?_
      refine AllReadyH.cons (i := 7) (o := ?oo8) ?ho8 (fun K hK => ?hstep8) AllReadyH.nil
      case ho8 => simp only [List.getElem?_toArray, List.getElem?_cons_zero, List.getElem?_cons_succ]; rfl
      go_simp
      refine (HC.out _).mono ?_
      rintro e1 wz ⟨rfl, hb⟩
      go_wp2_with fail
      refine hK.out _ _ (hHeld.post hb) (fun _ => ?_)
      clear hK K
      (try simp only [Act.put, List.setIfInBounds_toArray, List.set_cons_zero, List.set_cons_succ])
      refine wpAnyH_mono (S' := fun w' => KeptBut wz w' (w.heap.size + 1) (w.heap.size + 1)) (fun _ h => (hHeld.post hb).trans2 h) _ _ _ _ ?_
      replace hx0 := keep_cell hb hx0
      replace hx1 := keep_cell hb hx1
      replace hS0 := keep_cell hb hS0
      replace hf0 := keep_froz2 hb hr0 hf0
      replace hf1 := keep_froz2 hb hr1 hf1
      replace hr0 := keep_cell hb hr0
      replace hr1 := keep_cell hb hr1
      replace hw := keep_below hb hw
      clear hHeld hb
      have hHeld : KeptBut wz wz (w.heap.size + 1) (w.heap.size + 1) := (KeptBut.refl2 _ _)
      refine wpAnyH_take (i := 8) (oi := ?oo9) (v := ?vv9) ?hi9 (by kernel_rfl) (by kernel_rfl) (by kernel_rfl) ?hq9 (Or.inl ⟨?hg9, ?hy9⟩) (by assumption) ?rest9
      case hi9 => simp only [List.getElem?_toArray, List.getElem?_cons_zero, List.getElem?_cons_succ]; rfl
      case hq9 => exact fun _ _ _ h => h
      case hg9 => rfl
      case hy9 =>
        intro wq hSw
        replace hx0 := hSw.cell hx0 (by first | omega | (simp; done) | (simp; omega)) (by first | omega | (simp; done) | (simp; omega))
        replace hx1 := hSw.cell hx1 (by first | omega | (simp; done) | (simp; omega)) (by first | omega | (simp; done) | (simp; omega))
        replace hS0 := hSw.cell hS0 (by first | omega | (simp; done) | (simp; omega)) (by first | omega | (simp; done) | (simp; omega))
        go_simp
        (try with_reducible rfl)
      (try simp only [Act.put, List.setIfInBounds_toArray, List.set_cons_zero, List.set_cons_succ])
      refine wpAnyH_take (i := 9) (oi := ?oo10) (v := ?vv10) ?hi10 (by kernel_rfl) (by kernel_rfl) (by kernel_rfl) ?hq10 (Or.inl ⟨?hg10, ?hy10⟩) (by assumption) ?rest10
      case hi10 => simp only [List.getElem?_toArray, List.getElem?_cons_zero, List.getElem?_cons_succ]; rfl
      case hq10 => exact fun _ _ _ h => h
      case hg10 => rfl
      case hy10 =>
        intro wq hSw
        replace hx0 := hSw.cell hx0 (by first | omega | (simp; done) | (simp; omega)) (by first | omega | (simp; done) | (simp; omega))
        replace hx1 := hSw.cell hx1 (by first | omega | (simp; done) | (simp; omega)) (by first | omega | (simp; done) | (simp; omega))
        replace hS0 := hSw.cell hS0 (by first | omega | (simp; done) | (simp; omega)) (by first | omega | (simp; done) | (simp; omega))
        go_simp
        (try with_reducible rfl)
      (try simp only [Act.put, List.setIfInBounds_toArray, List.set_cons_zero, List.set_cons_succ])
      refine wpAnyH_ready (rs := [10]) (by kernel_rfl) (by simp) ?_
      refine AllReadyH.cons (i := 10) (o := ?oo11) ?ho11 (fun K hK => ?hstep11) AllReadyH.nil
      case ho11 => simp only [List.getElem?_toArray, List.getElem?_cons_zero, List.getElem?_cons_succ]; rfl
      go_simp
      refine hK.out _ _ (((KeptBut.refl2 _ _).setg _ _).setg _ _) (fun hHeld2 => ?_)
      clear hK K
      (try simp only [Act.put, List.setIfInBounds_toArray, List.set_cons_zero, List.set_cons_succ])
      refine wpAnyH_take (i := 11) (oi := ?oo12) (v := ?vv12) ?hi12 (by kernel_rfl) (by kernel_rfl) (by kernel_rfl) ?hq12 (Or.inl ⟨?hg12, ?hy12⟩) (by assumption) ?rest12
      case hi12 => simp only [List.getElem?_toArray, List.getElem?_cons_zero, List.getElem?_cons_succ]; rfl
      case hq12 => exact fun _ _ _ h => h
      case hg12 => rfl
      case hy12 =>
        intro wq hSw
        replace hx0 := hSw.cell hx0 (by first | omega | (simp; done) | (simp; omega)) (by first | omega | (simp; done) | (simp; omega))
        replace hx1 := hSw.cell hx1 (by first | omega | (simp; done) | (simp; omega)) (by first | omega | (simp; done) | (simp; omega))
        replace hS0 := hSw.cell hS0 (by first | omega | (simp; done) | (simp; omega)) (by first | omega | (simp; done) | (simp; omega))
        go_simp
        (try with_reducible rfl)
      (try simp only [Act.put, List.setIfInBounds_toArray, List.set_cons_zero, List.set_cons_succ])
      clear hHeld
      refine wpAnyH_done (by kernel_rfl) ?_ _
      go_wp2
      refine bodyPost_ret (v := .tuple #[.agg #[.int .i64 (lowX hp (nth S 0)), .int .i64 (lowY hp (nth S 0))], .bool true]) (by simp (maxDischargeDepth := 9) [results, Try.results51, go_sem, *]) rfl ⟨rfl, ?_⟩
      (repeat (first | with_reducible exact Below.refl _ _ | with_reducible assumption | with_reducible refine Below.alloc' ?_ ?_ _ | with_reducible refine Below.setCell' ?_ ?_ _ | with_reducible refine Below.drewN' ?_ _ | with_reducible refine Below.drew ?_ | with_reducible refine Below.transA ?_ (by assumption) ?_ | omega | (focus (simp; done)) | (focus (simp; omega))))
end Go.Proofs.Ytombfbmcplefgaa
/- Contracts: the chance of an event, given another one. -/
namespace Go.Proofs.Ytombfbmcplefgaa
open Go.ChangeShapes Go.WideShapes Go.ChangeAt Go.RowKit

noncomputable def gvnOk (xs ys ps qs : List Int) : Bool := good xs ys && isEv xs ps && isEv xs qs && decide (0 < qs.length)
noncomputable def gvnN (xs ys ps qs : List Int) : Int := if gvnOk xs ys ps qs then lowX (heavy ys (bothL ps qs)) (heavy ys qs) else 0
noncomputable def gvnM (xs ys ps qs : List Int) : Int := if gvnOk xs ys ps qs then lowY (heavy ys (bothL ps qs)) (heavy ys qs) else 0
theorem gvnN_no {xs ys ps qs : List Int} (h : gvnOk xs ys ps qs = false) : gvnN xs ys ps qs = 0 := by unfold gvnN; rw [h]; rfl
theorem gvnM_no {xs ys ps qs : List Int} (h : gvnOk xs ys ps qs = false) : gvnM xs ys ps qs = 0 := by unfold gvnM; rw [h]; rfl
theorem gvnN_yes {xs ys ps qs : List Int} (h : gvnOk xs ys ps qs = true) : gvnN xs ys ps qs = lowX (heavy ys (bothL ps qs)) (heavy ys qs) := by unfold gvnN; rw [h]; rfl
theorem gvnM_yes {xs ys ps qs : List Int} (h : gvnOk xs ys ps qs = true) : gvnM xs ys ps qs = lowY (heavy ys (bothL ps qs)) (heavy ys qs) := by unfold gvnM; rw [h]; rfl
theorem sumW_pos {xs ys : List Int} (hg : good xs ys = true) {zs : List Int} (h : isEv xs zs = true) (k : Nat) (hk : k < zs.length) : 1 ≤ sumW ys zs (k + 1) := by
  have h1 := sumW_bd hg zs k
  obtain ⟨q, hq, hqn⟩ := ev_node h k hk
  have h2 := (evIn_iff.1 (Bool.and_eq_true_iff.1 h).1 k hk).2
  have h3 := wt_end hg hqn
  rw [hq, Int.toNat_natCast] at h2
  rw [h2] at h3
  have h4 := of_decide_eq_true h3
  rw [sumW, hq, Int.toNat_natCast]
  omega
theorem heavy_pos {xs ys : List Int} (hg : good xs ys = true) {zs : List Int} (h : isEv xs zs = true) (hl : 0 < zs.length) : 1 ≤ heavy ys zs := by
  unfold heavy
  obtain ⟨k, hk⟩ : ∃ k, zs.length = k + 1 := ⟨zs.length - 1, by omega⟩
  rw [hk]; exact sumW_pos hg h k (by omega)
set_option maxHeartbeats 1000000 in
set_option maxRecDepth 100000 in
theorem specChanceGiven_any (A B : Option Addr) (c e : Nat) (xs ys : List Int) (P : Option Addr) (cp : Nat) (ps : List Int) (Q : Option Addr) (cq : Nat) (qs : List Int) (w : World) (h : IntS w A xs) (k : IntS w B ys) (zp : IntS w P ps) (zq : IntS w Q qs) (_hx : Bd xs) (_hy : Bd ys) (_bp : Bd ps) (_bq : Bd qs) (hn : xs.length ≤ 1048576) (hm : ys.length ≤ 1048576) (lp : ps.length ≤ 1048576) (lq : qs.length ≤ 1048576) :
    Calls Try.prog 50 #[.agg #[.slice A xs.length c, .slice B ys.length e], .slice P ps.length cp, .slice Q qs.length cq] w (RetAB w (gvnN xs ys ps qs) (gvnM xs ys ps qs) (gvnOk xs ys ps qs)) := by
  obtain ⟨r1, q1⟩ : ∃ r, (good xs ys && isEv xs ps) = r := ⟨_, rfl⟩
  cases r1
  case false =>
    have hO : gvnOk xs ys ps qs = false := by unfold gvnOk ; simp [q1]
    have hV_gvnN := gvnN_no hO
    have hV_gvnM := gvnM_no hO
    rw [hV_gvnN]
    rw [hV_gvnM]
    (try rw [hO])
    clear hO hV_gvnN hV_gvnM
    have HG1 := Lib.hid (fun W (h : IntS W A xs) (k : IntS W B ys) (zp : IntS W P ps) => l2Event_any A B P c e cp xs ys ps W h k zp _hx _hy hn hm lp)
    rw [q1] at HG1
    clear q1 _hx _hy _bp _bq
    go_enter Try.func50, Try.ntmps50
    go_wp2_with fail
    refine (HG1.out _ ((h.alloc _).alloc _) ((k.alloc _).alloc _) ((zp.alloc _).alloc _)).mono ?_
    rintro e1 w1 ⟨rfl, hb⟩
    have hx0 : w1.cell? ⟨w.heap.size, 0, none⟩ = some (.slice A xs.length c) := keep_cell hb (by simp)
    have hx1 : w1.cell? ⟨w.heap.size, 1, none⟩ = some (.slice B ys.length e) := keep_cell hb (by simp)
    have hr0 : w1.cell? ⟨w.heap.size + 1, 0, none⟩ = some (.int .i64 0) := keep_cell hb (by simp)
    have hr1 : w1.cell? ⟨w.heap.size + 1, 1, none⟩ = some (.int .i64 0) := keep_cell hb (by simp)
    have hf0 : w1.frozen? ⟨w.heap.size + 1, 0, none⟩ = false := keep_froz hb (by simp) (by simp)
    have hf1 : w1.frozen? ⟨w.heap.size + 1, 1, none⟩ = false := keep_froz hb (by simp) (by simp)
    have hw : Below w.heap.size w w1 := below_alloc (below_alloc (hb))
    clear hb
    go_wp2
    refine bodyPost_ret (v := .tuple #[.agg #[.int .i64 0, .int .i64 0], .bool false]) (by simp (maxDischargeDepth := 9) [results, Try.results50, go_sem, *]) rfl ⟨rfl, ?_⟩
    (repeat (first | with_reducible exact Below.refl _ _ | with_reducible assumption | with_reducible refine Below.alloc' ?_ ?_ _ | with_reducible refine Below.setCell' ?_ ?_ _ | with_reducible refine Below.drewN' ?_ _ | with_reducible refine Below.drew ?_ | with_reducible refine Below.transA ?_ (by assumption) ?_ | omega | (focus (simp; done)) | (focus (simp; omega))))
  case true =>
    obtain ⟨r2, q2⟩ : ∃ r, (isEv xs qs) = r := ⟨_, rfl⟩
    cases r2
    case false =>
      have hO : gvnOk xs ys ps qs = false := by unfold gvnOk ; simp [q1, q2]
      have hV_gvnN := gvnN_no hO
      have hV_gvnM := gvnM_no hO
      rw [hV_gvnN]
      rw [hV_gvnM]
      (try rw [hO])
      clear hO hV_gvnN hV_gvnM
      have HG1 := Lib.hid (fun W (h : IntS W A xs) (k : IntS W B ys) (zp : IntS W P ps) => l2Event_any A B P c e cp xs ys ps W h k zp _hx _hy hn hm lp)
      rw [q1] at HG1
      have HG2 := Lib.hid (fun W (h : IntS W A xs) (k : IntS W B ys) (zq : IntS W Q qs) => l2Event_good (Bool.and_eq_true_iff.1 q1).1 A B Q c e cq qs W h k zq _hx _hy lq)
      rw [q2] at HG2
      clear q1 q2 _hx _hy _bp _bq
      go_enter Try.func50, Try.ntmps50
      go_wp2_with fail
      refine (HG1.out _ ((h.alloc _).alloc _) ((k.alloc _).alloc _) ((zp.alloc _).alloc _)).mono ?_
      rintro e1 w1 ⟨rfl, hb⟩
      have hx0 : w1.cell? ⟨w.heap.size, 0, none⟩ = some (.slice A xs.length c) := keep_cell hb (by simp)
      have hx1 : w1.cell? ⟨w.heap.size, 1, none⟩ = some (.slice B ys.length e) := keep_cell hb (by simp)
      have hr0 : w1.cell? ⟨w.heap.size + 1, 0, none⟩ = some (.int .i64 0) := keep_cell hb (by simp)
      have hr1 : w1.cell? ⟨w.heap.size + 1, 1, none⟩ = some (.int .i64 0) := keep_cell hb (by simp)
      have hf0 : w1.frozen? ⟨w.heap.size + 1, 0, none⟩ = false := keep_froz hb (by simp) (by simp)
      have hf1 : w1.frozen? ⟨w.heap.size + 1, 1, none⟩ = false := keep_froz hb (by simp) (by simp)
      have hw : Below w.heap.size w w1 := below_alloc (below_alloc (hb))
      clear hb
      go_wp2_with fail
      refine (HG2.out _ (h.below hw) (k.below hw) (zq.below hw)).mono ?_
      rintro e1 w2 ⟨rfl, hb⟩
      replace hx0 := keep_cell hb hx0
      replace hx1 := keep_cell hb hx1
      replace hf0 := keep_froz hb (by rw [hr0]; rfl) hf0
      replace hf1 := keep_froz hb (by rw [hr1]; rfl) hf1
      replace hr0 := keep_cell hb hr0
      replace hr1 := keep_cell hb hr1
      replace hw := keep_below hb hw
      clear hb
      go_wp2
      refine bodyPost_ret (v := .tuple #[.agg #[.int .i64 0, .int .i64 0], .bool false]) (by simp (maxDischargeDepth := 9) [results, Try.results50, go_sem, *]) rfl ⟨rfl, ?_⟩
      (repeat (first | with_reducible exact Below.refl _ _ | with_reducible assumption | with_reducible refine Below.alloc' ?_ ?_ _ | with_reducible refine Below.setCell' ?_ ?_ _ | with_reducible refine Below.drewN' ?_ _ | with_reducible refine Below.drew ?_ | with_reducible refine Below.transA ?_ (by assumption) ?_ | omega | (focus (simp; done)) | (focus (simp; omega))))
    case true =>
      obtain ⟨r3, q3⟩ : ∃ r, (decide (0 < qs.length)) = r := ⟨_, rfl⟩
      cases r3
      case false =>
        have hO : gvnOk xs ys ps qs = false := by unfold gvnOk ; simp [q1, q2, q3]
        have hV_gvnN := gvnN_no hO
        have hV_gvnM := gvnM_no hO
        rw [hV_gvnN]
        rw [hV_gvnM]
        (try rw [hO])
        clear hO hV_gvnN hV_gvnM
        have HG1 := Lib.hid (fun W (h : IntS W A xs) (k : IntS W B ys) (zp : IntS W P ps) => l2Event_any A B P c e cp xs ys ps W h k zp _hx _hy hn hm lp)
        rw [q1] at HG1
        have HG2 := Lib.hid (fun W (h : IntS W A xs) (k : IntS W B ys) (zq : IntS W Q qs) => l2Event_good (Bool.and_eq_true_iff.1 q1).1 A B Q c e cq qs W h k zq _hx _hy lq)
        rw [q2] at HG2
        have hd : ((qs.length : Int) == 0) = true := by have := of_decide_eq_false q3; rw [beq_iff_eq]; omega
        clear q1 q2 q3 _hx _hy _bp _bq
        go_enter Try.func50, Try.ntmps50
        go_wp2_with fail
        refine (HG1.out _ ((h.alloc _).alloc _) ((k.alloc _).alloc _) ((zp.alloc _).alloc _)).mono ?_
        rintro e1 w1 ⟨rfl, hb⟩
        have hx0 : w1.cell? ⟨w.heap.size, 0, none⟩ = some (.slice A xs.length c) := keep_cell hb (by simp)
        have hx1 : w1.cell? ⟨w.heap.size, 1, none⟩ = some (.slice B ys.length e) := keep_cell hb (by simp)
        have hr0 : w1.cell? ⟨w.heap.size + 1, 0, none⟩ = some (.int .i64 0) := keep_cell hb (by simp)
        have hr1 : w1.cell? ⟨w.heap.size + 1, 1, none⟩ = some (.int .i64 0) := keep_cell hb (by simp)
        have hf0 : w1.frozen? ⟨w.heap.size + 1, 0, none⟩ = false := keep_froz hb (by simp) (by simp)
        have hf1 : w1.frozen? ⟨w.heap.size + 1, 1, none⟩ = false := keep_froz hb (by simp) (by simp)
        have hw : Below w.heap.size w w1 := below_alloc (below_alloc (hb))
        clear hb
        go_wp2_with fail
        refine (HG2.out _ (h.below hw) (k.below hw) (zq.below hw)).mono ?_
        rintro e1 w2 ⟨rfl, hb⟩
        replace hx0 := keep_cell hb hx0
        replace hx1 := keep_cell hb hx1
        replace hf0 := keep_froz hb (by rw [hr0]; rfl) hf0
        replace hf1 := keep_froz hb (by rw [hr1]; rfl) hf1
        replace hr0 := keep_cell hb hr0
        replace hr1 := keep_cell hb hr1
        replace hw := keep_below hb hw
        clear hb
        go_wp2
        refine bodyPost_ret (v := .tuple #[.agg #[.int .i64 0, .int .i64 0], .bool false]) (by simp (maxDischargeDepth := 9) [results, Try.results50, go_sem, *]) rfl ⟨rfl, ?_⟩
        (repeat (first | with_reducible exact Below.refl _ _ | with_reducible assumption | with_reducible refine Below.alloc' ?_ ?_ _ | with_reducible refine Below.setCell' ?_ ?_ _ | with_reducible refine Below.drewN' ?_ _ | with_reducible refine Below.drew ?_ | with_reducible refine Below.transA ?_ (by assumption) ?_ | omega | (focus (simp; done)) | (focus (simp; omega))))
      case true =>
        have hO : gvnOk xs ys ps qs = true := by unfold gvnOk ; simp [q1, q2, q3]
        have hV_gvnN := gvnN_yes hO
        have hV_gvnM := gvnM_yes hO
        rw [hV_gvnN]
        rw [hV_gvnM]
        (try rw [hO])
        clear hO hV_gvnN hV_gvnM
        have HG1 := Lib.hid (fun W (h : IntS W A xs) (k : IntS W B ys) (zp : IntS W P ps) => l2Event_any A B P c e cp xs ys ps W h k zp _hx _hy hn hm lp)
        rw [q1] at HG1
        have HG2 := Lib.hid (fun W (h : IntS W A xs) (k : IntS W B ys) (zq : IntS W Q qs) => l2Event_good (Bool.and_eq_true_iff.1 q1).1 A B Q c e cq qs W h k zq _hx _hy lq)
        rw [q2] at HG2
        have hd : ((qs.length : Int) == 0) = false := by have := of_decide_eq_true q3; rw [beq_eq_false_iff_ne]; omega
        have hgl := good_len (Bool.and_eq_true_iff.1 q1).1
        have np := ev_node (Bool.and_eq_true_iff.1 q1).2
        have nq := ev_node q2
        have lp2 := ev_len (Bool.and_eq_true_iff.1 q1).2
        have lq2 := ev_len q2
        have lb := bothL_len ps qs
        have b2 := heavy_bd (Bool.and_eq_true_iff.1 q1).1 (zs := qs) (by omega)
        have b3 := heavy_bd (Bool.and_eq_true_iff.1 q1).1 (zs := bothL ps qs) (by omega)
        have b5 := heavy_pos (Bool.and_eq_true_iff.1 q1).1 q2 (of_decide_eq_true q3)
        have HBo := Lib.hid (fun W (ha : IntS W P ps) (hb : IntS W Q qs) => l2Both_any P Q cp cq ps qs W ha hb lp lq)
        have HQ := Lib.hid (fun W (k : IntS W B ys) (z : IntS W Q qs) => l2Heavy_any (Bool.and_eq_true_iff.1 q1).1 A B Q xs.length c e cq qs W k z lq (by rw [hgl.2.2]; exact nq))
        have HO := Lib.hid (fun W (R : Option Addr) (cr : Nat) (k : IntS W B ys) (z : IntS W R (bothL ps qs)) => l2Heavy_any (Bool.and_eq_true_iff.1 q1).1 A B R xs.length c e cr (bothL ps qs) W k z (by omega) (by rw [hgl.2.2]; exact both_node np))
        generalize heavy ys (bothL ps qs) = ho at *
        generalize heavy ys qs = hq at *
        generalize bothL ps qs = O at *
        have HC := fun W => l2Cut_any ho hq W (by omega) (by omega) (by omega)
        replace HC := Lib.hid HC
        clear hgl np nq b2 b3 b5 lp2 lq2 lb
        clear q1 q2 q3 _hx _hy _bp _bq
        go_enter Try.func50, Try.ntmps50
        go_wp2_with fail
        refine (HG1.out _ ((h.alloc _).alloc _) ((k.alloc _).alloc _) ((zp.alloc _).alloc _)).mono ?_
        rintro e1 w1 ⟨rfl, hb⟩
        have hx0 : w1.cell? ⟨w.heap.size, 0, none⟩ = some (.slice A xs.length c) := keep_cell hb (by simp)
        have hx1 : w1.cell? ⟨w.heap.size, 1, none⟩ = some (.slice B ys.length e) := keep_cell hb (by simp)
        have hr0 : w1.cell? ⟨w.heap.size + 1, 0, none⟩ = some (.int .i64 0) := keep_cell hb (by simp)
        have hr1 : w1.cell? ⟨w.heap.size + 1, 1, none⟩ = some (.int .i64 0) := keep_cell hb (by simp)
        have hf0 : w1.frozen? ⟨w.heap.size + 1, 0, none⟩ = false := keep_froz hb (by simp) (by simp)
        have hf1 : w1.frozen? ⟨w.heap.size + 1, 1, none⟩ = false := keep_froz hb (by simp) (by simp)
        have hw : Below w.heap.size w w1 := below_alloc (below_alloc (hb))
        clear hb
        go_wp2_with fail
        refine (HG2.out _ (h.below hw) (k.below hw) (zq.below hw)).mono ?_
        rintro e1 w2 ⟨rfl, hb⟩
        replace hx0 := keep_cell hb hx0
        replace hx1 := keep_cell hb hx1
        replace hf0 := keep_froz hb (by rw [hr0]; rfl) hf0
        replace hf1 := keep_froz hb (by rw [hr1]; rfl) hf1
        replace hr0 := keep_cell hb hr0
        replace hr1 := keep_cell hb hr1
        replace hw := keep_below hb hw
        clear hb
        clear HG1 HG2
        go_wp2
        refine wp_region_held_drew (S := fun w' => KeptBut w2 w' (w.heap.size + 1) (w.heap.size + 1)) (by kernel_rfl) ((KeptBut.refl2 _ _)).drew (fun hHeld => ?_)
        replace hw := hw.drew
        refine wpAnyH_take (i := 0) (oi := ?oo1) (v := ?vv1) ?hi1 (by kernel_rfl) (by kernel_rfl) (by kernel_rfl) ?hq1 (Or.inl ⟨?hg1, ?hy1⟩) (by assumption) ?rest1
        case hi1 => simp only [List.getElem?_toArray, List.getElem?_cons_zero]; rfl
        case hq1 => exact fun _ _ _ h => h
        case hg1 => rfl
        case hy1 =>
          intro wq hSw
          replace hx0 := hSw.cell hx0 (by first | omega | (simp; done) | (simp; omega)) (by first | omega | (simp; done) | (simp; omega))
          replace hx1 := hSw.cell hx1 (by first | omega | (simp; done) | (simp; omega)) (by first | omega | (simp; done) | (simp; omega))
          go_simp
          (try with_reducible rfl)
        (try simp only [Act.put, List.setIfInBounds_toArray, List.set_cons_zero, List.set_cons_succ])
        refine wpAnyH_take (i := 1) (oi := ?oo2) (v := ?vv2) ?hi2 (by kernel_rfl) (by kernel_rfl) (by kernel_rfl) ?hq2 (Or.inl ⟨?hg2, ?hy2⟩) (by assumption) ?rest2
        case hi2 => simp only [List.getElem?_toArray, List.getElem?_cons_zero, List.getElem?_cons_succ]; rfl
        case hq2 => exact fun _ _ _ h => h
        case hg2 => rfl
        case hy2 =>
          intro wq hSw
          replace hx0 := hSw.cell hx0 (by first | omega | (simp; done) | (simp; omega)) (by first | omega | (simp; done) | (simp; omega))
          replace hx1 := hSw.cell hx1 (by first | omega | (simp; done) | (simp; omega)) (by first | omega | (simp; done) | (simp; omega))
          go_simp
          (try with_reducible rfl)
        (try simp only [Act.put, List.setIfInBounds_toArray, List.set_cons_zero, List.set_cons_succ])
        refine wpAnyH_take (i := 2) (oi := ?oo3) (v := ?vv3) ?hi3 (by kernel_rfl) (by kernel_rfl) (by kernel_rfl) ?hq3 (Or.inl ⟨?hg3, ?hy3⟩) (by assumption) ?rest3
        case hi3 => simp only [List.getElem?_toArray, List.getElem?_cons_zero, List.getElem?_cons_succ]; rfl
        case hq3 => exact fun _ _ _ h => h
        case hg3 => rfl
        case hy3 =>
          intro wq hSw
          replace hx0 := hSw.cell hx0 (by first | omega | (simp; done) | (simp; omega)) (by first | omega | (simp; done) | (simp; omega))
          replace hx1 := hSw.cell hx1 (by first | omega | (simp; done) | (simp; omega)) (by first | omega | (simp; done) | (simp; omega))
          go_simp
          (try with_reducible rfl)
        (try simp only [Act.put, List.setIfInBounds_toArray, List.set_cons_zero, List.set_cons_succ])
        refine wpAnyH_take (i := 5) (oi := ?oo4) (v := ?vv4) ?hi4 (by kernel_rfl) (by kernel_rfl) (by kernel_rfl) ?hq4 (Or.inl ⟨?hg4, ?hy4⟩) (by assumption) ?rest4
        case hi4 => simp only [List.getElem?_toArray, List.getElem?_cons_zero, List.getElem?_cons_succ]; rfl
        case hq4 => exact fun _ _ _ h => h
        case hg4 => rfl
        case hy4 =>
          intro wq hSw
          replace hx0 := hSw.cell hx0 (by first | omega | (simp; done) | (simp; omega)) (by first | omega | (simp; done) | (simp; omega))
          replace hx1 := hSw.cell hx1 (by first | omega | (simp; done) | (simp; omega)) (by first | omega | (simp; done) | (simp; omega))
          go_simp
          (try with_reducible rfl)
        (try simp only [Act.put, List.setIfInBounds_toArray, List.set_cons_zero, List.set_cons_succ])
        refine wpAnyH_take (i := 6) (oi := ?oo5) (v := ?vv5) ?hi5 (by kernel_rfl) (by kernel_rfl) (by kernel_rfl) ?hq5 (Or.inl ⟨?hg5, ?hy5⟩) (by assumption) ?rest5
        case hi5 => simp only [List.getElem?_toArray, List.getElem?_cons_zero, List.getElem?_cons_succ]; rfl
        case hq5 => exact fun _ _ _ h => h
        case hg5 => rfl
        case hy5 =>
          intro wq hSw
          replace hx0 := hSw.cell hx0 (by first | omega | (simp; done) | (simp; omega)) (by first | omega | (simp; done) | (simp; omega))
          replace hx1 := hSw.cell hx1 (by first | omega | (simp; done) | (simp; omega)) (by first | omega | (simp; done) | (simp; omega))
          go_simp
          (try with_reducible rfl)
        (try simp only [Act.put, List.setIfInBounds_toArray, List.set_cons_zero, List.set_cons_succ])
        refine wpAnyH_ready (rs := [3]) (by kernel_rfl) (by simp) ?_
        refine AllReadyH.cons (i := 3) (o := ?oo6) ?ho6 (fun K hK => ?hstep6) AllReadyH.nil
        case ho6 => simp only [List.getElem?_toArray, List.getElem?_cons_zero, List.getElem?_cons_succ]; rfl
        go_simp
        refine (HBo.out _ (zp.below hw) (zq.below hw)).mono ?_
        rintro e1 wz ⟨Ab, cb, rfl, hob, hb⟩
        have hib := hob.ints
        clear hob
        go_wp2_with fail
        refine hK.out _ _ (hHeld.post hb) (fun _ => ?_)
        clear hK K
        (try simp only [Act.put, List.setIfInBounds_toArray, List.set_cons_zero, List.set_cons_succ])
        refine wpAnyH_mono (S' := fun w' => KeptBut wz w' (w.heap.size + 1) (w.heap.size + 1)) (fun _ h => (hHeld.post hb).trans2 h) _ _ _ _ ?_
        replace hx0 := keep_cell hb hx0
        replace hx1 := keep_cell hb hx1
        replace hf0 := keep_froz2 hb hr0 hf0
        replace hf1 := keep_froz2 hb hr1 hf1
        replace hr0 := keep_cell hb hr0
        replace hr1 := keep_cell hb hr1
        replace hw := keep_below hb hw
        clear hHeld hb
        have hHeld : KeptBut wz wz (w.heap.size + 1) (w.heap.size + 1) := (KeptBut.refl2 _ _)
        refine wpAnyH_ready (rs := [4]) (by kernel_rfl) (by simp) ?_
        refine AllReadyH.cons (i := 4) (o := ?oo7) ?ho7 (fun K hK => ?hstep7) AllReadyH.nil
        case ho7 => simp only [List.getElem?_toArray, List.getElem?_cons_zero, List.getElem?_cons_succ]; rfl
        go_simp
        refine (HO.out _ _ _ (k.below hw) hib).mono ?_
        rintro e1 wz ⟨rfl, hb⟩
        clear hib
        go_wp2_with fail
        refine hK.out _ _ (hHeld.post hb) (fun _ => ?_)
        clear hK K
        (try simp only [Act.put, List.setIfInBounds_toArray, List.set_cons_zero, List.set_cons_succ])
        refine wpAnyH_mono (S' := fun w' => KeptBut wz w' (w.heap.size + 1) (w.heap.size + 1)) (fun _ h => (hHeld.post hb).trans2 h) _ _ _ _ ?_
        replace hx0 := keep_cell hb hx0
        replace hx1 := keep_cell hb hx1
        replace hf0 := keep_froz2 hb hr0 hf0
        replace hf1 := keep_froz2 hb hr1 hf1
        replace hr0 := keep_cell hb hr0
        replace hr1 := keep_cell hb hr1
        replace hw := keep_below hb hw
        clear hHeld hb
        have hHeld : KeptBut wz wz (w.heap.size + 1) (w.heap.size + 1) := (KeptBut.refl2 _ _)
        refine wpAnyH_ready (rs := [7]) (by kernel_rfl) (by simp) ?_
        refine AllReadyH.cons (i := 7) (o := ?oo8) ?ho8 (fun K hK => ?hstep8) AllReadyH.nil
        case ho8 => simp only [List.getElem?_toArray, List.getElem?_cons_zero, List.getElem?_cons_succ]; rfl
        go_simp
        refine (HQ.out _ (k.below hw) (zq.below hw)).mono ?_
        rintro e1 wz ⟨rfl, hb⟩
        go_wp2_with fail
        refine hK.out _ _ (hHeld.post hb) (fun _ => ?_)
        clear hK K
        (try simp only [Act.put, List.setIfInBounds_toArray, List.set_cons_zero, List.set_cons_succ])
        refine wpAnyH_mono (S' := fun w' => KeptBut wz w' (w.heap.size + 1) (w.heap.size + 1)) (fun _ h => (hHeld.post hb).trans2 h) _ _ _ _ ?_
        replace hx0 := keep_cell hb hx0
        replace hx1 := keep_cell hb hx1
        replace hf0 := keep_froz2 hb hr0 hf0
        replace hf1 := keep_froz2 hb hr1 hf1
        replace hr0 := keep_cell hb hr0
        replace hr1 := keep_cell hb hr1
        replace hw := keep_below hb hw
        clear hHeld hb
        have hHeld : KeptBut wz wz (w.heap.size + 1) (w.heap.size + 1) := (KeptBut.refl2 _ _)
        refine wpAnyH_ready (rs := [8]) (by kernel_rfl) (by simp) ?_
        refine AllReadyH.cons (i := 8) (o := ?oo9) ?ho9 (fun K hK => ?hstep9) AllReadyH.nil
        case ho9 => simp only [List.getElem?_toArray, List.getElem?_cons_zero, List.getElem?_cons_succ]; rfl
        go_simp
        refine (HC.out _).mono ?_
        rintro e1 wz ⟨rfl, hb⟩
        go_wp2_with fail
        refine hK.out _ _ (hHeld.post hb) (fun _ => ?_)
        clear hK K
        (try simp only [Act.put, List.setIfInBounds_toArray, List.set_cons_zero, List.set_cons_succ])
        refine wpAnyH_mono (S' := fun w' => KeptBut wz w' (w.heap.size + 1) (w.heap.size + 1)) (fun _ h => (hHeld.post hb).trans2 h) _ _ _ _ ?_
        replace hx0 := keep_cell hb hx0
        replace hx1 := keep_cell hb hx1
        replace hf0 := keep_froz2 hb hr0 hf0
        replace hf1 := keep_froz2 hb hr1 hf1
        replace hr0 := keep_cell hb hr0
        replace hr1 := keep_cell hb hr1
        replace hw := keep_below hb hw
        clear hHeld hb
        have hHeld : KeptBut wz wz (w.heap.size + 1) (w.heap.size + 1) := (KeptBut.refl2 _ _)
        refine wpAnyH_ready (rs := [9]) (by kernel_rfl) (by simp) ?_
        refine AllReadyH.cons (i := 9) (o := ?oo10) ?ho10 (fun K hK => ?hstep10) AllReadyH.nil
        case ho10 => simp only [List.getElem?_toArray, List.getElem?_cons_zero, List.getElem?_cons_succ]; rfl
        go_simp
        refine hK.out _ _ (((KeptBut.refl2 _ _).setg _ _).setg _ _) (fun hHeld2 => ?_)
        clear hK K
        (try simp only [Act.put, List.setIfInBounds_toArray, List.set_cons_zero, List.set_cons_succ])
        refine wpAnyH_take (i := 10) (oi := ?oo11) (v := ?vv11) ?hi11 (by kernel_rfl) (by kernel_rfl) (by kernel_rfl) ?hq11 (Or.inl ⟨?hg11, ?hy11⟩) (by assumption) ?rest11
        case hi11 => simp only [List.getElem?_toArray, List.getElem?_cons_zero, List.getElem?_cons_succ]; rfl
        case hq11 => exact fun _ _ _ h => h
        case hg11 => rfl
        case hy11 =>
          intro wq hSw
          replace hx0 := hSw.cell hx0 (by first | omega | (simp; done) | (simp; omega)) (by first | omega | (simp; done) | (simp; omega))
          replace hx1 := hSw.cell hx1 (by first | omega | (simp; done) | (simp; omega)) (by first | omega | (simp; done) | (simp; omega))
          go_simp
          (try with_reducible rfl)
        (try simp only [Act.put, List.setIfInBounds_toArray, List.set_cons_zero, List.set_cons_succ])
        clear hHeld
        refine wpAnyH_done (by kernel_rfl) ?_ _
        go_wp2
        refine bodyPost_ret (v := .tuple #[.agg #[.int .i64 (lowX ho hq), .int .i64 (lowY ho hq)], .bool true]) (by simp (maxDischargeDepth := 9) [results, Try.results50, go_sem, *]) rfl ⟨rfl, ?_⟩
        (repeat (first | with_reducible exact Below.refl _ _ | with_reducible assumption | with_reducible refine Below.alloc' ?_ ?_ _ | with_reducible refine Below.setCell' ?_ ?_ _ | with_reducible refine Below.drewN' ?_ _ | with_reducible refine Below.drew ?_ | with_reducible refine Below.transA ?_ (by assumption) ?_ | omega | (focus (simp; done)) | (focus (simp; omega))))
set_option maxHeartbeats 1000000 in
set_option maxRecDepth 100000 in
theorem implChanceGiven_any (A B : Option Addr) (c e : Nat) (xs ys : List Int) (P : Option Addr) (cp : Nat) (ps : List Int) (Q : Option Addr) (cq : Nat) (qs : List Int) (w : World) (h : IntS w A xs) (k : IntS w B ys) (zp : IntS w P ps) (zq : IntS w Q qs) (_hx : Bd xs) (_hy : Bd ys) (_bp : Bd ps) (_bq : Bd qs) (hn : xs.length ≤ 1048576) (hm : ys.length ≤ 1048576) (lp : ps.length ≤ 1048576) (lq : qs.length ≤ 1048576) :
    Calls Try.prog 49 #[.agg #[.slice A xs.length c, .slice B ys.length e], .slice P ps.length cp, .slice Q qs.length cq] w (RetAB w (gvnN xs ys ps qs) (gvnM xs ys ps qs) (gvnOk xs ys ps qs)) := by
  obtain ⟨r1, q1⟩ : ∃ r, (good xs ys) = r := ⟨_, rfl⟩
  cases r1
  case false =>
    have hO : gvnOk xs ys ps qs = false := by unfold gvnOk ; simp [q1]
    have hV_gvnN := gvnN_no hO
    have hV_gvnM := gvnM_no hO
    rw [hV_gvnN]
    rw [hV_gvnM]
    (try rw [hO])
    clear hO hV_gvnN hV_gvnM
    have HG1 := Lib.hid (fun W (h : IntS W A xs) (k : IntS W B ys) => isTree_any A B c e xs ys W h k _hx _hy hn hm)
    rw [q1] at HG1
    clear q1 _hx _hy _bp _bq
    go_enter Try.func49, Try.ntmps49
    go_wp2_with fail
    refine (HG1.out _ ((h.alloc _).alloc _) ((k.alloc _).alloc _)).mono ?_
    rintro e1 w1 ⟨rfl, hb⟩
    have hx0 : w1.cell? ⟨w.heap.size, 0, none⟩ = some (.slice A xs.length c) := keep_cell hb (by simp)
    have hx1 : w1.cell? ⟨w.heap.size, 1, none⟩ = some (.slice B ys.length e) := keep_cell hb (by simp)
    have hr0 : w1.cell? ⟨w.heap.size + 1, 0, none⟩ = some (.int .i64 0) := keep_cell hb (by simp)
    have hr1 : w1.cell? ⟨w.heap.size + 1, 1, none⟩ = some (.int .i64 0) := keep_cell hb (by simp)
    have hf0 : w1.frozen? ⟨w.heap.size + 1, 0, none⟩ = false := keep_froz hb (by simp) (by simp)
    have hf1 : w1.frozen? ⟨w.heap.size + 1, 1, none⟩ = false := keep_froz hb (by simp) (by simp)
    have hw : Below w.heap.size w w1 := below_alloc (below_alloc (hb))
    clear hb
    go_wp2
    refine bodyPost_ret (v := .tuple #[.agg #[.int .i64 0, .int .i64 0], .bool false]) (by simp (maxDischargeDepth := 9) [results, Try.results49, go_sem, *]) rfl ⟨rfl, ?_⟩
    (repeat (first | with_reducible exact Below.refl _ _ | with_reducible assumption | with_reducible refine Below.alloc' ?_ ?_ _ | with_reducible refine Below.setCell' ?_ ?_ _ | with_reducible refine Below.drewN' ?_ _ | with_reducible refine Below.drew ?_ | with_reducible refine Below.transA ?_ (by assumption) ?_ | omega | (focus (simp; done)) | (focus (simp; omega))))
  case true =>
    obtain ⟨r2, q2⟩ : ∃ r, (isEv xs ps) = r := ⟨_, rfl⟩
    cases r2
    case false =>
      have hO : gvnOk xs ys ps qs = false := by unfold gvnOk ; simp [q1, q2]
      have hV_gvnN := gvnN_no hO
      have hV_gvnM := gvnM_no hO
      rw [hV_gvnN]
      rw [hV_gvnM]
      (try rw [hO])
      clear hO hV_gvnN hV_gvnM
      have HG1 := Lib.hid (fun W (h : IntS W A xs) (k : IntS W B ys) => isTree_any A B c e xs ys W h k _hx _hy hn hm)
      rw [q1] at HG1
      have HG2 := Lib.hid (fun W (h : IntS W A xs) (zp : IntS W P ps) => isEvent_good q1 A B P c ys.length e cp ps W h zp lp)
      rw [q2] at HG2
      clear q1 q2 _hx _hy _bp _bq
      go_enter Try.func49, Try.ntmps49
      go_wp2_with fail
      refine (HG1.out _ ((h.alloc _).alloc _) ((k.alloc _).alloc _)).mono ?_
      rintro e1 w1 ⟨rfl, hb⟩
      have hx0 : w1.cell? ⟨w.heap.size, 0, none⟩ = some (.slice A xs.length c) := keep_cell hb (by simp)
      have hx1 : w1.cell? ⟨w.heap.size, 1, none⟩ = some (.slice B ys.length e) := keep_cell hb (by simp)
      have hr0 : w1.cell? ⟨w.heap.size + 1, 0, none⟩ = some (.int .i64 0) := keep_cell hb (by simp)
      have hr1 : w1.cell? ⟨w.heap.size + 1, 1, none⟩ = some (.int .i64 0) := keep_cell hb (by simp)
      have hf0 : w1.frozen? ⟨w.heap.size + 1, 0, none⟩ = false := keep_froz hb (by simp) (by simp)
      have hf1 : w1.frozen? ⟨w.heap.size + 1, 1, none⟩ = false := keep_froz hb (by simp) (by simp)
      have hw : Below w.heap.size w w1 := below_alloc (below_alloc (hb))
      clear hb
      go_wp2_with fail
      refine (HG2.out _ (h.below hw) (zp.below hw)).mono ?_
      rintro e1 w2 ⟨rfl, hb⟩
      replace hx0 := keep_cell hb hx0
      replace hx1 := keep_cell hb hx1
      replace hf0 := keep_froz hb (by rw [hr0]; rfl) hf0
      replace hf1 := keep_froz hb (by rw [hr1]; rfl) hf1
      replace hr0 := keep_cell hb hr0
      replace hr1 := keep_cell hb hr1
      replace hw := keep_below hb hw
      clear hb
      go_wp2
      refine bodyPost_ret (v := .tuple #[.agg #[.int .i64 0, .int .i64 0], .bool false]) (by simp (maxDischargeDepth := 9) [results, Try.results49, go_sem, *]) rfl ⟨rfl, ?_⟩
      (repeat (first | with_reducible exact Below.refl _ _ | with_reducible assumption | with_reducible refine Below.alloc' ?_ ?_ _ | with_reducible refine Below.setCell' ?_ ?_ _ | with_reducible refine Below.drewN' ?_ _ | with_reducible refine Below.drew ?_ | with_reducible refine Below.transA ?_ (by assumption) ?_ | omega | (focus (simp; done)) | (focus (simp; omega))))
    case true =>
      obtain ⟨r3, q3⟩ : ∃ r, (isEv xs qs) = r := ⟨_, rfl⟩
      cases r3
      case false =>
        have hO : gvnOk xs ys ps qs = false := by unfold gvnOk ; simp [q1, q2, q3]
        have hV_gvnN := gvnN_no hO
        have hV_gvnM := gvnM_no hO
        rw [hV_gvnN]
        rw [hV_gvnM]
        (try rw [hO])
        clear hO hV_gvnN hV_gvnM
        have HG1 := Lib.hid (fun W (h : IntS W A xs) (k : IntS W B ys) => isTree_any A B c e xs ys W h k _hx _hy hn hm)
        rw [q1] at HG1
        have HG2 := Lib.hid (fun W (h : IntS W A xs) (zp : IntS W P ps) => isEvent_good q1 A B P c ys.length e cp ps W h zp lp)
        rw [q2] at HG2
        have HG3 := Lib.hid (fun W (h : IntS W A xs) (zq : IntS W Q qs) => isEvent_good q1 A B Q c ys.length e cq qs W h zq lq)
        rw [q3] at HG3
        clear q1 q2 q3 _hx _hy _bp _bq
        go_enter Try.func49, Try.ntmps49
        go_wp2_with fail
        refine (HG1.out _ ((h.alloc _).alloc _) ((k.alloc _).alloc _)).mono ?_
        rintro e1 w1 ⟨rfl, hb⟩
        have hx0 : w1.cell? ⟨w.heap.size, 0, none⟩ = some (.slice A xs.length c) := keep_cell hb (by simp)
        have hx1 : w1.cell? ⟨w.heap.size, 1, none⟩ = some (.slice B ys.length e) := keep_cell hb (by simp)
        have hr0 : w1.cell? ⟨w.heap.size + 1, 0, none⟩ = some (.int .i64 0) := keep_cell hb (by simp)
        have hr1 : w1.cell? ⟨w.heap.size + 1, 1, none⟩ = some (.int .i64 0) := keep_cell hb (by simp)
        have hf0 : w1.frozen? ⟨w.heap.size + 1, 0, none⟩ = false := keep_froz hb (by simp) (by simp)
        have hf1 : w1.frozen? ⟨w.heap.size + 1, 1, none⟩ = false := keep_froz hb (by simp) (by simp)
        have hw : Below w.heap.size w w1 := below_alloc (below_alloc (hb))
        clear hb
        go_wp2_with fail
        refine (HG2.out _ (h.below hw) (zp.below hw)).mono ?_
        rintro e1 w2 ⟨rfl, hb⟩
        replace hx0 := keep_cell hb hx0
        replace hx1 := keep_cell hb hx1
        replace hf0 := keep_froz hb (by rw [hr0]; rfl) hf0
        replace hf1 := keep_froz hb (by rw [hr1]; rfl) hf1
        replace hr0 := keep_cell hb hr0
        replace hr1 := keep_cell hb hr1
        replace hw := keep_below hb hw
        clear hb
        go_wp2_with fail
        refine (HG3.out _ (h.below hw) (zq.below hw)).mono ?_
        rintro e1 w3 ⟨rfl, hb⟩
        replace hx0 := keep_cell hb hx0
        replace hx1 := keep_cell hb hx1
        replace hf0 := keep_froz hb (by rw [hr0]; rfl) hf0
        replace hf1 := keep_froz hb (by rw [hr1]; rfl) hf1
        replace hr0 := keep_cell hb hr0
        replace hr1 := keep_cell hb hr1
        replace hw := keep_below hb hw
        clear hb
        go_wp2
        refine bodyPost_ret (v := .tuple #[.agg #[.int .i64 0, .int .i64 0], .bool false]) (by simp (maxDischargeDepth := 9) [results, Try.results49, go_sem, *]) rfl ⟨rfl, ?_⟩
        (repeat (first | with_reducible exact Below.refl _ _ | with_reducible assumption | with_reducible refine Below.alloc' ?_ ?_ _ | with_reducible refine Below.setCell' ?_ ?_ _ | with_reducible refine Below.drewN' ?_ _ | with_reducible refine Below.drew ?_ | with_reducible refine Below.transA ?_ (by assumption) ?_ | omega | (focus (simp; done)) | (focus (simp; omega))))
      case true =>
        obtain ⟨r4, q4⟩ : ∃ r, (decide (0 < qs.length)) = r := ⟨_, rfl⟩
        cases r4
        case false =>
          have hO : gvnOk xs ys ps qs = false := by unfold gvnOk ; simp [q1, q2, q3, q4]
          have hV_gvnN := gvnN_no hO
          have hV_gvnM := gvnM_no hO
          rw [hV_gvnN]
          rw [hV_gvnM]
          (try rw [hO])
          clear hO hV_gvnN hV_gvnM
          have HG1 := Lib.hid (fun W (h : IntS W A xs) (k : IntS W B ys) => isTree_any A B c e xs ys W h k _hx _hy hn hm)
          rw [q1] at HG1
          have HG2 := Lib.hid (fun W (h : IntS W A xs) (zp : IntS W P ps) => isEvent_good q1 A B P c ys.length e cp ps W h zp lp)
          rw [q2] at HG2
          have HG3 := Lib.hid (fun W (h : IntS W A xs) (zq : IntS W Q qs) => isEvent_good q1 A B Q c ys.length e cq qs W h zq lq)
          rw [q3] at HG3
          have hd : ((qs.length : Int) == 0) = true := by have := of_decide_eq_false q4; rw [beq_iff_eq]; omega
          clear q1 q2 q3 q4 _hx _hy _bp _bq
          go_enter Try.func49, Try.ntmps49
          go_wp2_with fail
          refine (HG1.out _ ((h.alloc _).alloc _) ((k.alloc _).alloc _)).mono ?_
          rintro e1 w1 ⟨rfl, hb⟩
          have hx0 : w1.cell? ⟨w.heap.size, 0, none⟩ = some (.slice A xs.length c) := keep_cell hb (by simp)
          have hx1 : w1.cell? ⟨w.heap.size, 1, none⟩ = some (.slice B ys.length e) := keep_cell hb (by simp)
          have hr0 : w1.cell? ⟨w.heap.size + 1, 0, none⟩ = some (.int .i64 0) := keep_cell hb (by simp)
          have hr1 : w1.cell? ⟨w.heap.size + 1, 1, none⟩ = some (.int .i64 0) := keep_cell hb (by simp)
          have hf0 : w1.frozen? ⟨w.heap.size + 1, 0, none⟩ = false := keep_froz hb (by simp) (by simp)
          have hf1 : w1.frozen? ⟨w.heap.size + 1, 1, none⟩ = false := keep_froz hb (by simp) (by simp)
          have hw : Below w.heap.size w w1 := below_alloc (below_alloc (hb))
          clear hb
          go_wp2_with fail
          refine (HG2.out _ (h.below hw) (zp.below hw)).mono ?_
          rintro e1 w2 ⟨rfl, hb⟩
          replace hx0 := keep_cell hb hx0
          replace hx1 := keep_cell hb hx1
          replace hf0 := keep_froz hb (by rw [hr0]; rfl) hf0
          replace hf1 := keep_froz hb (by rw [hr1]; rfl) hf1
          replace hr0 := keep_cell hb hr0
          replace hr1 := keep_cell hb hr1
          replace hw := keep_below hb hw
          clear hb
          go_wp2_with fail
          refine (HG3.out _ (h.below hw) (zq.below hw)).mono ?_
          rintro e1 w3 ⟨rfl, hb⟩
          replace hx0 := keep_cell hb hx0
          replace hx1 := keep_cell hb hx1
          replace hf0 := keep_froz hb (by rw [hr0]; rfl) hf0
          replace hf1 := keep_froz hb (by rw [hr1]; rfl) hf1
          replace hr0 := keep_cell hb hr0
          replace hr1 := keep_cell hb hr1
          replace hw := keep_below hb hw
          clear hb
          go_wp2
          refine bodyPost_ret (v := .tuple #[.agg #[.int .i64 0, .int .i64 0], .bool false]) (by simp (maxDischargeDepth := 9) [results, Try.results49, go_sem, *]) rfl ⟨rfl, ?_⟩
          (repeat (first | with_reducible exact Below.refl _ _ | with_reducible assumption | with_reducible refine Below.alloc' ?_ ?_ _ | with_reducible refine Below.setCell' ?_ ?_ _ | with_reducible refine Below.drewN' ?_ _ | with_reducible refine Below.drew ?_ | with_reducible refine Below.transA ?_ (by assumption) ?_ | omega | (focus (simp; done)) | (focus (simp; omega))))
        case true =>
          have hO : gvnOk xs ys ps qs = true := by unfold gvnOk ; simp [q1, q2, q3, q4]
          have hV_gvnN := gvnN_yes hO
          have hV_gvnM := gvnM_yes hO
          rw [hV_gvnN]
          rw [hV_gvnM]
          (try rw [hO])
          clear hO hV_gvnN hV_gvnM
          have HG1 := Lib.hid (fun W (h : IntS W A xs) (k : IntS W B ys) => isTree_any A B c e xs ys W h k _hx _hy hn hm)
          rw [q1] at HG1
          have HG2 := Lib.hid (fun W (h : IntS W A xs) (zp : IntS W P ps) => isEvent_good q1 A B P c ys.length e cp ps W h zp lp)
          rw [q2] at HG2
          have HG3 := Lib.hid (fun W (h : IntS W A xs) (zq : IntS W Q qs) => isEvent_good q1 A B Q c ys.length e cq qs W h zq lq)
          rw [q3] at HG3
          have hd : ((qs.length : Int) == 0) = false := by have := of_decide_eq_true q4; rw [beq_eq_false_iff_ne]; omega
          have hgl := good_len q1
          have np := ev_node q2
          have nq := ev_node q3
          have lp2 := ev_len q2
          have lq2 := ev_len q3
          have lb := bothL_len ps qs
          have b2 := heavy_bd q1 (zs := qs) (by omega)
          have b3 := heavy_bd q1 (zs := bothL ps qs) (by omega)
          have b5 := heavy_pos q1 q3 (of_decide_eq_true q4)
          have HBo := Lib.hid (fun W (ha : IntS W P ps) (hb : IntS W Q qs) => both_any P Q cp cq ps qs W ha hb lp lq)
          have HQ := Lib.hid (fun W (k : IntS W B ys) (z : IntS W Q qs) => weighed_any q1 A B Q xs.length c e cq qs W k z lq (by rw [hgl.2.2]; exact nq))
          have HO := Lib.hid (fun W (R : Option Addr) (cr : Nat) (k : IntS W B ys) (z : IntS W R (bothL ps qs)) => weighed_any q1 A B R xs.length c e cr (bothL ps qs) W k z (by omega) (by rw [hgl.2.2]; exact both_node np))
          generalize heavy ys (bothL ps qs) = ho at *
          generalize heavy ys qs = hq at *
          generalize bothL ps qs = O at *
          have HC := fun W => lowest_any ho hq W (by omega) (by omega) (by omega)
          have hlo := low_small (a := ho) (b := hq) (by omega) (by omega)
          rw [hlo.1, hlo.2.1, hlo.2.2] at HC
          clear hlo
          replace HC := Lib.hid HC
          clear hgl np nq b2 b3 b5 lp2 lq2 lb
          clear q1 q2 q3 q4 _hx _hy _bp _bq
          go_enter Try.func49, Try.ntmps49
          go_wp2_with fail
          refine (HG1.out _ ((h.alloc _).alloc _) ((k.alloc _).alloc _)).mono ?_
          rintro e1 w1 ⟨rfl, hb⟩
          have hx0 : w1.cell? ⟨w.heap.size, 0, none⟩ = some (.slice A xs.length c) := keep_cell hb (by simp)
          have hx1 : w1.cell? ⟨w.heap.size, 1, none⟩ = some (.slice B ys.length e) := keep_cell hb (by simp)
          have hr0 : w1.cell? ⟨w.heap.size + 1, 0, none⟩ = some (.int .i64 0) := keep_cell hb (by simp)
          have hr1 : w1.cell? ⟨w.heap.size + 1, 1, none⟩ = some (.int .i64 0) := keep_cell hb (by simp)
          have hf0 : w1.frozen? ⟨w.heap.size + 1, 0, none⟩ = false := keep_froz hb (by simp) (by simp)
          have hf1 : w1.frozen? ⟨w.heap.size + 1, 1, none⟩ = false := keep_froz hb (by simp) (by simp)
          have hw : Below w.heap.size w w1 := below_alloc (below_alloc (hb))
          clear hb
          go_wp2_with fail
          refine (HG2.out _ (h.below hw) (zp.below hw)).mono ?_
          rintro e1 w2 ⟨rfl, hb⟩
          replace hx0 := keep_cell hb hx0
          replace hx1 := keep_cell hb hx1
          replace hf0 := keep_froz hb (by rw [hr0]; rfl) hf0
          replace hf1 := keep_froz hb (by rw [hr1]; rfl) hf1
          replace hr0 := keep_cell hb hr0
          replace hr1 := keep_cell hb hr1
          replace hw := keep_below hb hw
          clear hb
          go_wp2_with fail
          refine (HG3.out _ (h.below hw) (zq.below hw)).mono ?_
          rintro e1 w3 ⟨rfl, hb⟩
          replace hx0 := keep_cell hb hx0
          replace hx1 := keep_cell hb hx1
          replace hf0 := keep_froz hb (by rw [hr0]; rfl) hf0
          replace hf1 := keep_froz hb (by rw [hr1]; rfl) hf1
          replace hr0 := keep_cell hb hr0
          replace hr1 := keep_cell hb hr1
          replace hw := keep_below hb hw
          clear hb
          clear HG1 HG2 HG3
          go_wp2
          refine wp_region_held_drew (S := fun w' => KeptBut w3 w' (w.heap.size + 1) (w.heap.size + 1)) (by kernel_rfl) ((KeptBut.refl2 _ _)).drew (fun hHeld => ?_)
          replace hw := hw.drew
          refine wpAnyH_take (i := 0) (oi := ?oo1) (v := ?vv1) ?hi1 (by kernel_rfl) (by kernel_rfl) (by kernel_rfl) ?hq1 (Or.inl ⟨?hg1, ?hy1⟩) (by assumption) ?rest1
          case hi1 => simp only [List.getElem?_toArray, List.getElem?_cons_zero]; rfl
          case hq1 => exact fun _ _ _ h => h
          case hg1 => rfl
          case hy1 =>
            intro wq hSw
            replace hx0 := hSw.cell hx0 (by first | omega | (simp; done) | (simp; omega)) (by first | omega | (simp; done) | (simp; omega))
            replace hx1 := hSw.cell hx1 (by first | omega | (simp; done) | (simp; omega)) (by first | omega | (simp; done) | (simp; omega))
            go_simp
            (try with_reducible rfl)
          (try simp only [Act.put, List.setIfInBounds_toArray, List.set_cons_zero, List.set_cons_succ])
          refine wpAnyH_take (i := 1) (oi := ?oo2) (v := ?vv2) ?hi2 (by kernel_rfl) (by kernel_rfl) (by kernel_rfl) ?hq2 (Or.inl ⟨?hg2, ?hy2⟩) (by assumption) ?rest2
          case hi2 => simp only [List.getElem?_toArray, List.getElem?_cons_zero, List.getElem?_cons_succ]; rfl
          case hq2 => exact fun _ _ _ h => h
          case hg2 => rfl
          case hy2 =>
            intro wq hSw
            replace hx0 := hSw.cell hx0 (by first | omega | (simp; done) | (simp; omega)) (by first | omega | (simp; done) | (simp; omega))
            replace hx1 := hSw.cell hx1 (by first | omega | (simp; done) | (simp; omega)) (by first | omega | (simp; done) | (simp; omega))
            go_simp
            (try with_reducible rfl)
          (try simp only [Act.put, List.setIfInBounds_toArray, List.set_cons_zero, List.set_cons_succ])
          refine wpAnyH_take (i := 2) (oi := ?oo3) (v := ?vv3) ?hi3 (by kernel_rfl) (by kernel_rfl) (by kernel_rfl) ?hq3 (Or.inl ⟨?hg3, ?hy3⟩) (by assumption) ?rest3
          case hi3 => simp only [List.getElem?_toArray, List.getElem?_cons_zero, List.getElem?_cons_succ]; rfl
          case hq3 => exact fun _ _ _ h => h
          case hg3 => rfl
          case hy3 =>
            intro wq hSw
            replace hx0 := hSw.cell hx0 (by first | omega | (simp; done) | (simp; omega)) (by first | omega | (simp; done) | (simp; omega))
            replace hx1 := hSw.cell hx1 (by first | omega | (simp; done) | (simp; omega)) (by first | omega | (simp; done) | (simp; omega))
            go_simp
            (try with_reducible rfl)
          (try simp only [Act.put, List.setIfInBounds_toArray, List.set_cons_zero, List.set_cons_succ])
          refine wpAnyH_take (i := 5) (oi := ?oo4) (v := ?vv4) ?hi4 (by kernel_rfl) (by kernel_rfl) (by kernel_rfl) ?hq4 (Or.inl ⟨?hg4, ?hy4⟩) (by assumption) ?rest4
          case hi4 => simp only [List.getElem?_toArray, List.getElem?_cons_zero, List.getElem?_cons_succ]; rfl
          case hq4 => exact fun _ _ _ h => h
          case hg4 => rfl
          case hy4 =>
            intro wq hSw
            replace hx0 := hSw.cell hx0 (by first | omega | (simp; done) | (simp; omega)) (by first | omega | (simp; done) | (simp; omega))
            replace hx1 := hSw.cell hx1 (by first | omega | (simp; done) | (simp; omega)) (by first | omega | (simp; done) | (simp; omega))
            go_simp
            (try with_reducible rfl)
          (try simp only [Act.put, List.setIfInBounds_toArray, List.set_cons_zero, List.set_cons_succ])
          refine wpAnyH_take (i := 6) (oi := ?oo5) (v := ?vv5) ?hi5 (by kernel_rfl) (by kernel_rfl) (by kernel_rfl) ?hq5 (Or.inl ⟨?hg5, ?hy5⟩) (by assumption) ?rest5
          case hi5 => simp only [List.getElem?_toArray, List.getElem?_cons_zero, List.getElem?_cons_succ]; rfl
          case hq5 => exact fun _ _ _ h => h
          case hg5 => rfl
          case hy5 =>
            intro wq hSw
            replace hx0 := hSw.cell hx0 (by first | omega | (simp; done) | (simp; omega)) (by first | omega | (simp; done) | (simp; omega))
            replace hx1 := hSw.cell hx1 (by first | omega | (simp; done) | (simp; omega)) (by first | omega | (simp; done) | (simp; omega))
            go_simp
            (try with_reducible rfl)
          (try simp only [Act.put, List.setIfInBounds_toArray, List.set_cons_zero, List.set_cons_succ])
          refine wpAnyH_ready (rs := [3]) (by kernel_rfl) (by simp) ?_
          refine AllReadyH.cons (i := 3) (o := ?oo6) ?ho6 (fun K hK => ?hstep6) AllReadyH.nil
          case ho6 => simp only [List.getElem?_toArray, List.getElem?_cons_zero, List.getElem?_cons_succ]; rfl
          go_simp
          refine (HBo.out _ (zp.below hw) (zq.below hw)).mono ?_
          rintro e1 wz ⟨Ab, cb, rfl, hob, hb⟩
          have hib := hob.ints
          clear hob
          go_wp2_with fail
          refine hK.out _ _ (hHeld.post hb) (fun _ => ?_)
          clear hK K
          (try simp only [Act.put, List.setIfInBounds_toArray, List.set_cons_zero, List.set_cons_succ])
          refine wpAnyH_mono (S' := fun w' => KeptBut wz w' (w.heap.size + 1) (w.heap.size + 1)) (fun _ h => (hHeld.post hb).trans2 h) _ _ _ _ ?_
          replace hx0 := keep_cell hb hx0
          replace hx1 := keep_cell hb hx1
          replace hf0 := keep_froz2 hb hr0 hf0
          replace hf1 := keep_froz2 hb hr1 hf1
          replace hr0 := keep_cell hb hr0
          replace hr1 := keep_cell hb hr1
          replace hw := keep_below hb hw
          clear hHeld hb
          have hHeld : KeptBut wz wz (w.heap.size + 1) (w.heap.size + 1) := (KeptBut.refl2 _ _)
          refine wpAnyH_ready (rs := [4]) (by kernel_rfl) (by simp) ?_
          refine AllReadyH.cons (i := 4) (o := ?oo7) ?ho7 (fun K hK => ?hstep7) AllReadyH.nil
          case ho7 => simp only [List.getElem?_toArray, List.getElem?_cons_zero, List.getElem?_cons_succ]; rfl
          go_simp
          refine (HO.out _ _ _ (k.below hw) hib).mono ?_
          rintro e1 wz ⟨rfl, hb⟩
          clear hib
          go_wp2_with fail
          refine hK.out _ _ (hHeld.post hb) (fun _ => ?_)
          clear hK K
          (try simp only [Act.put, List.setIfInBounds_toArray, List.set_cons_zero, List.set_cons_succ])
          refine wpAnyH_mono (S' := fun w' => KeptBut wz w' (w.heap.size + 1) (w.heap.size + 1)) (fun _ h => (hHeld.post hb).trans2 h) _ _ _ _ ?_
          replace hx0 := keep_cell hb hx0
          replace hx1 := keep_cell hb hx1
          replace hf0 := keep_froz2 hb hr0 hf0
          replace hf1 := keep_froz2 hb hr1 hf1
          replace hr0 := keep_cell hb hr0
          replace hr1 := keep_cell hb hr1
          replace hw := keep_below hb hw
          clear hHeld hb
          have hHeld : KeptBut wz wz (w.heap.size + 1) (w.heap.size + 1) := (KeptBut.refl2 _ _)
          refine wpAnyH_ready (rs := [7]) (by kernel_rfl) (by simp) ?_
          refine AllReadyH.cons (i := 7) (o := ?oo8) ?ho8 (fun K hK => ?hstep8) AllReadyH.nil
          case ho8 => simp only [List.getElem?_toArray, List.getElem?_cons_zero, List.getElem?_cons_succ]; rfl
          go_simp
          refine (HQ.out _ (k.below hw) (zq.below hw)).mono ?_
          rintro e1 wz ⟨rfl, hb⟩
          go_wp2_with fail
          refine hK.out _ _ (hHeld.post hb) (fun _ => ?_)
          clear hK K
          (try simp only [Act.put, List.setIfInBounds_toArray, List.set_cons_zero, List.set_cons_succ])
          refine wpAnyH_mono (S' := fun w' => KeptBut wz w' (w.heap.size + 1) (w.heap.size + 1)) (fun _ h => (hHeld.post hb).trans2 h) _ _ _ _ ?_
          replace hx0 := keep_cell hb hx0
          replace hx1 := keep_cell hb hx1
          replace hf0 := keep_froz2 hb hr0 hf0
          replace hf1 := keep_froz2 hb hr1 hf1
          replace hr0 := keep_cell hb hr0
          replace hr1 := keep_cell hb hr1
          replace hw := keep_below hb hw
          clear hHeld hb
          have hHeld : KeptBut wz wz (w.heap.size + 1) (w.heap.size + 1) := (KeptBut.refl2 _ _)
          refine wpAnyH_ready (rs := [8]) (by kernel_rfl) (by simp) ?_
          refine AllReadyH.cons (i := 8) (o := ?oo9) ?ho9 (fun K hK => ?hstep9) AllReadyH.nil
          case ho9 => simp only [List.getElem?_toArray, List.getElem?_cons_zero, List.getElem?_cons_succ]; rfl
          go_simp
          refine (HC.out _).mono ?_
          rintro e1 wz ⟨rfl, hb⟩
          go_wp2_with fail
          refine hK.out _ _ (hHeld.post hb) (fun _ => ?_)
          clear hK K
          (try simp only [Act.put, List.setIfInBounds_toArray, List.set_cons_zero, List.set_cons_succ])
          refine wpAnyH_mono (S' := fun w' => KeptBut wz w' (w.heap.size + 1) (w.heap.size + 1)) (fun _ h => (hHeld.post hb).trans2 h) _ _ _ _ ?_
          replace hx0 := keep_cell hb hx0
          replace hx1 := keep_cell hb hx1
          replace hf0 := keep_froz2 hb hr0 hf0
          replace hf1 := keep_froz2 hb hr1 hf1
          replace hr0 := keep_cell hb hr0
          replace hr1 := keep_cell hb hr1
          replace hw := keep_below hb hw
          clear hHeld hb
          have hHeld : KeptBut wz wz (w.heap.size + 1) (w.heap.size + 1) := (KeptBut.refl2 _ _)
          refine wpAnyH_take (i := 9) (oi := ?oo10) (v := ?vv10) ?hi10 (by kernel_rfl) (by kernel_rfl) (by kernel_rfl) ?hq10 (Or.inl ⟨?hg10, ?hy10⟩) (by assumption) ?rest10
          case hi10 => simp only [List.getElem?_toArray, List.getElem?_cons_zero, List.getElem?_cons_succ]; rfl
          case hq10 => exact fun _ _ _ h => h
          case hg10 => rfl
          case hy10 =>
            intro wq hSw
            replace hx0 := hSw.cell hx0 (by first | omega | (simp; done) | (simp; omega)) (by first | omega | (simp; done) | (simp; omega))
            replace hx1 := hSw.cell hx1 (by first | omega | (simp; done) | (simp; omega)) (by first | omega | (simp; done) | (simp; omega))
            go_simp
            (try with_reducible rfl)
          (try simp only [Act.put, List.setIfInBounds_toArray, List.set_cons_zero, List.set_cons_succ])
          refine wpAnyH_take (i := 10) (oi := ?oo11) (v := ?vv11) ?hi11 (by kernel_rfl) (by kernel_rfl) (by kernel_rfl) ?hq11 (Or.inl ⟨?hg11, ?hy11⟩) (by assumption) ?rest11
          case hi11 => simp only [List.getElem?_toArray, List.getElem?_cons_zero, List.getElem?_cons_succ]; rfl
          case hq11 => exact fun _ _ _ h => h
          case hg11 => rfl
          case hy11 =>
            intro wq hSw
            replace hx0 := hSw.cell hx0 (by first | omega | (simp; done) | (simp; omega)) (by first | omega | (simp; done) | (simp; omega))
            replace hx1 := hSw.cell hx1 (by first | omega | (simp; done) | (simp; omega)) (by first | omega | (simp; done) | (simp; omega))
            go_simp
            (try with_reducible rfl)
          (try simp only [Act.put, List.setIfInBounds_toArray, List.set_cons_zero, List.set_cons_succ])
          refine wpAnyH_ready (rs := [11]) (by kernel_rfl) (by simp) ?_
          refine AllReadyH.cons (i := 11) (o := ?oo12) ?ho12 (fun K hK => ?hstep12) AllReadyH.nil
          case ho12 => simp only [List.getElem?_toArray, List.getElem?_cons_zero, List.getElem?_cons_succ]; rfl
          go_simp
          refine hK.out _ _ (((KeptBut.refl2 _ _).setg _ _).setg _ _) (fun hHeld2 => ?_)
          clear hK K
          (try simp only [Act.put, List.setIfInBounds_toArray, List.set_cons_zero, List.set_cons_succ])
          refine wpAnyH_take (i := 12) (oi := ?oo13) (v := ?vv13) ?hi13 (by kernel_rfl) (by kernel_rfl) (by kernel_rfl) ?hq13 (Or.inl ⟨?hg13, ?hy13⟩) (by assumption) ?rest13
          case hi13 => simp only [List.getElem?_toArray, List.getElem?_cons_zero, List.getElem?_cons_succ]; rfl
          case hq13 => exact fun _ _ _ h => h
          case hg13 => rfl
          case hy13 =>
            intro wq hSw
            replace hx0 := hSw.cell hx0 (by first | omega | (simp; done) | (simp; omega)) (by first | omega | (simp; done) | (simp; omega))
            replace hx1 := hSw.cell hx1 (by first | omega | (simp; done) | (simp; omega)) (by first | omega | (simp; done) | (simp; omega))
            go_simp
            (try with_reducible rfl)
          (try simp only [Act.put, List.setIfInBounds_toArray, List.set_cons_zero, List.set_cons_succ])
          clear hHeld
          refine wpAnyH_done (by kernel_rfl) ?_ _
          go_wp2
          refine bodyPost_ret (v := .tuple #[.agg #[.int .i64 (lowX ho hq), .int .i64 (lowY ho hq)], .bool true]) (by simp (maxDischargeDepth := 9) [results, Try.results49, go_sem, *]) rfl ⟨rfl, ?_⟩
          (repeat (first | with_reducible exact Below.refl _ _ | with_reducible assumption | with_reducible refine Below.alloc' ?_ ?_ _ | with_reducible refine Below.setCell' ?_ ?_ _ | with_reducible refine Below.drewN' ?_ _ | with_reducible refine Below.drew ?_ | with_reducible refine Below.transA ?_ (by assumption) ?_ | omega | (focus (simp; done)) | (focus (simp; omega))))
end Go.Proofs.Ytombfbmcplefgaa
