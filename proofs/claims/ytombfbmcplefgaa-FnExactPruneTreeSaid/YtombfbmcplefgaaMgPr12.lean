/- Contracts: PruneTree of the reference. -/
import Derived.StillTailTactics
import Derived.Deep.DeepCutAuto
import Derived.Deep.QuietTactic
import Derived.BigQuiet
import Derived.Test.YtombfbmcplefgaaMgPr11
import Derived.Test.YtombfbmcplefgaaMgPr5
import Derived.Test.YtombfbmcplefgaaMgPr6
namespace Go.Proofs.Ytombfbmcplefgaa
open Go.ChangeShapes Go.WideShapes Go.ChangeAt Go.RowKit

theorem own_nil {w : World} {B : Nat} {v : Value} {n : Nat} {L : List Int} (h : w.ownsRow B 3 1 v n (i64s L)) : ∃ A c, v = .slice A L.length c ∧ OwnS w B A L ∧ n = L.length := by
  obtain ⟨A, c, hv, hO⟩ := own_form h
  exact ⟨A, c, hv, hO, by have := h.1; simpa [i64s] using this.symm⟩
theorem neor {v u : Value} (h : ∀ g : Nat, v.ownBlock = some g → u.ownBlock ≠ some g) : v.ownBlock = none ∨ v.ownBlock ≠ u.ownBlock := by
  cases e : v.ownBlock with
  | none => exact .inl rfl
  | some g => exact .inr (fun h2 => h g e h2.symm)
theorem nesym {v u : Value} (h : ∀ g : Nat, v.ownBlock = some g → u.ownBlock ≠ some g) : ∀ g : Nat, u.ownBlock = some g → v.ownBlock ≠ some g := fun g e k => h g k e
set_option maxHeartbeats 16000000 in
set_option maxRecDepth 100000 in
theorem specPruneTree_any (A B : Option Addr) (c e : Nat) (xs ys : List Int) (d9 : Int) (w : World) (h : IntS w A xs) (k : IntS w B ys) (_hx : Bd xs) (_hy : Bd ys) (_hd9 : -9223372036854775808 ≤ d9 ∧ d9 ≤ 9223372036854775807) (hn : xs.length ≤ 1048576) (hm : ys.length ≤ 1048576) :
    Calls Try.prog 21 #[.agg #[.slice A xs.length c, .slice B ys.length e], .int .i64 d9] w (RetTB w (prRP xs ys d9) (prRW xs ys d9) (prOk xs ys d9)) := by
  obtain ⟨r1, q1⟩ : ∃ r, (good xs ys) = r := ⟨_, rfl⟩
  cases r1
  case false =>
    have hO : prIn xs ys d9 = false := by unfold prIn ; simp [q1]
    have hV_prRP := prRP_no hO
    have hV_prRW := prRW_no hO
    have hV_prOk := prOk_no hO
    rw [hV_prRP]
    rw [hV_prRW]
    rw [hV_prOk]
    (try rw [hO])
    clear hO hV_prRP hV_prRW hV_prOk
    have HG1 := Lib.hid (fun W (h : IntS W A xs) (k : IntS W B ys) => l2Good_any A B c e xs ys W h k _hx _hy hn hm)
    rw [q1] at HG1
    clear q1 _hx _hy 
    go_enter Try.func21, Try.ntmps21
    go_wp2_with fail
    refine (HG1.out _ ((h.alloc _).alloc _) ((k.alloc _).alloc _)).mono ?_
    rintro e1 w1 ⟨rfl, hb⟩
    have hx0 : w1.cell? ⟨w.heap.size, 0, none⟩ = some (.slice A xs.length c) := keep_cell hb (by simp)
    have hx1 : w1.cell? ⟨w.heap.size, 1, none⟩ = some (.slice B ys.length e) := keep_cell hb (by simp)
    have hRs := (BlkT.new (g := w.heap.size + 1) (w.alloc _) (.slice none 0 0) (.slice none 0 0) (by simp)).below hb
    have hw : Below w.heap.size w w1 := below_alloc (below_alloc (hb))
    clear hb
    have hr0 := hRs.c0
    have hr1 := hRs.c1
    have hf0 := hRs.free 0
    have hf1 := hRs.free 1
    go_wp2
    refine bodyPost_ret (v := .tuple #[.agg #[.slice none 0 0, .slice none 0 0], .bool false]) (by simp (maxDischargeDepth := 9) [results, Try.results21, go_sem, *]) rfl ⟨none, 0, none, 0, rfl, .inl ⟨rfl, rfl⟩, .inl ⟨rfl, rfl⟩, (fun _ _ e1 => by cases e1), ?_⟩
    (repeat (first | with_reducible exact Below.refl _ _ | with_reducible assumption | with_reducible refine Below.alloc' ?_ ?_ _ | with_reducible refine Below.setCell' ?_ ?_ _ | with_reducible refine Below.drewN' ?_ _ | with_reducible refine Below.drew ?_ | with_reducible refine Below.transA ?_ (by assumption) ?_ | omega | (focus (simp; done)) | (focus (simp; omega))))
  case true =>
    obtain ⟨r2, q2⟩ : ∃ r, (decide (0 ≤ d9)) = r := ⟨_, rfl⟩
    cases r2
    case false =>
      have hO : prIn xs ys d9 = false := by unfold prIn ; simp [q1, q2]
      have hV_prRP := prRP_no hO
      have hV_prRW := prRW_no hO
      have hV_prOk := prOk_no hO
      rw [hV_prRP]
      rw [hV_prRW]
      rw [hV_prOk]
      (try rw [hO])
      clear hO hV_prRP hV_prRW hV_prOk
      have HG1 := Lib.hid (fun W (h : IntS W A xs) (k : IntS W B ys) => l2Good_any A B c e xs ys W h k _hx _hy hn hm)
      rw [q1] at HG1
      have dn : d9 < 0 := by have := of_decide_eq_false q2; omega
      have dn2 : decide (d9 < 0) = true := decide_eq_true dn
      clear q1 q2 _hx _hy 
      go_enter Try.func21, Try.ntmps21
      go_wp2_with fail
      refine (HG1.out _ ((h.alloc _).alloc _) ((k.alloc _).alloc _)).mono ?_
      rintro e1 w1 ⟨rfl, hb⟩
      have hx0 : w1.cell? ⟨w.heap.size, 0, none⟩ = some (.slice A xs.length c) := keep_cell hb (by simp)
      have hx1 : w1.cell? ⟨w.heap.size, 1, none⟩ = some (.slice B ys.length e) := keep_cell hb (by simp)
      have hRs := (BlkT.new (g := w.heap.size + 1) (w.alloc _) (.slice none 0 0) (.slice none 0 0) (by simp)).below hb
      have hw : Below w.heap.size w w1 := below_alloc (below_alloc (hb))
      clear hb
      have hr0 := hRs.c0
      have hr1 := hRs.c1
      have hf0 := hRs.free 0
      have hf1 := hRs.free 1
      go_wp2
      refine bodyPost_ret (v := .tuple #[.agg #[.slice none 0 0, .slice none 0 0], .bool false]) (by simp (maxDischargeDepth := 9) [results, Try.results21, go_sem, *]) rfl ⟨none, 0, none, 0, rfl, .inl ⟨rfl, rfl⟩, .inl ⟨rfl, rfl⟩, (fun _ _ e1 => by cases e1), ?_⟩
      (repeat (first | with_reducible exact Below.refl _ _ | with_reducible assumption | with_reducible refine Below.alloc' ?_ ?_ _ | with_reducible refine Below.setCell' ?_ ?_ _ | with_reducible refine Below.drewN' ?_ _ | with_reducible refine Below.drew ?_ | with_reducible refine Below.transA ?_ (by assumption) ?_ | omega | (focus (simp; done)) | (focus (simp; omega))))
    case true =>
      have hO : prIn xs ys d9 = true := by unfold prIn ; simp [q1, q2]
      have hV_prRP := prRP_yes hO
      have hV_prRW := prRW_yes hO
      have hV_prOk := prOk_yes hO
      rw [hV_prRP]
      rw [hV_prRW]
      rw [hV_prOk]
      (try rw [hO])
      clear hO hV_prRP hV_prRW hV_prOk
      have HG1 := Lib.hid (fun W (h : IntS W A xs) (k : IntS W B ys) => l2Good_any A B c e xs ys W h k _hx _hy hn hm)
      rw [q1] at HG1
      have dn : ¬ (d9 < 0) := by have := of_decide_eq_true q2; omega
      have dn2 : decide (d9 < 0) = false := decide_eq_false dn
      have hgl := good_len q1
      have hn1 := hgl.1
      have hn24 : xs.length ≤ 24 := hgl.2.1
      have HYN : Hid (ys.length = xs.length) := hgl.2.2
      have HDp := Lib.hid (fun W (h : IntS W A xs) => l2Depths_any A B c ys.length e xs W h hn1 (by omega) (good_iff.1 q1).2.1)
      have HSu := Lib.hid (fun W (h : IntS W A xs) (k : IntS W B ys) => l2Sums_good q1 A B c e W h k)
      have HU := Lib.hid (good_upL q1)
      have hd0 := of_decide_eq_true q2
      have HK0 := Lib.hid (pr_root hn1 hd0)
      have HKp : Hid (∀ x, prKeep xs d9 x = decide (nth (dep xs xs.length) x ≤ d9)) := fun x => rfl
      have HWt : Hid (∀ x, prWt xs ys d9 x = if nth (dep xs xs.length) x = d9 then nth (sumsL xs ys) x else nth ys x) := fun x => rfl
      have HWq := Lib.hid (fun (x : Nat) (hx : x < xs.length) => pr_wt q1 d9 hx)
      have HP0 : Hid (prPar xs d9 0 = -1) := rfl
      have HPr := Lib.hid (fun (x p : Nat) (h1 : 1 ≤ x) (hx : x < xs.length) (hp : nth xs x = p) (hpx : p < x) (hk : prKeep xs d9 x = true) => pr_par h1 hx hp hpx hk)
      have HPl : Hid (∀ k, ((prP xs d9 k).length : Int) = prAt xs d9 k) := fun k => by unfold prP prAt; rw [selK_len]
      have HWl : Hid (∀ k, (prW xs ys d9 k).length = (prP xs d9 k).length) := fun k => by unfold prW prP; rw [selK_len, selK_len]
      have HPe : Hid (∀ k, (prP xs d9 k).length ≤ k) := fun k => selK_le _ _ k
      have HPy : Hid (∀ k, prKeep xs d9 k = true → prP xs d9 (k + 1) = prP xs d9 k ++ [prPar xs d9 k]) := fun k h => selK_yes h
      have HPn : Hid (∀ k, prKeep xs d9 k = false → prP xs d9 (k + 1) = prP xs d9 k) := fun k h => selK_no h
      have HWy : Hid (∀ k, prKeep xs d9 k = true → prW xs ys d9 (k + 1) = prW xs ys d9 k ++ [prWt xs ys d9 k]) := fun k h => selK_yes h
      have HWn : Hid (∀ k, prKeep xs d9 k = false → prW xs ys d9 (k + 1) = prW xs ys d9 k) := fun k h => selK_no h
      have HP00 : Hid (prP xs d9 0 = []) := rfl
      have HW00 : Hid (prW xs ys d9 0 = []) := rfl
      have HDL : Hid ((dep xs xs.length).length = xs.length) := dep_len xs xs.length
      have HSL : Hid ((sumsL xs ys).length = xs.length) := sums_len q1
      have HDL1 : Hid (1 ≤ (dep xs xs.length).length) := by have := HDL.out; show 1 ≤ _; omega
      have HSL1 : Hid (1 ≤ (sumsL xs ys).length) := by have := HSL.out; show 1 ≤ _; omega
      have HGd := Lib.hid (fun W (P' W' : Option Addr) (cp cw : Nat) (hP : IntS W P' (prP xs d9 xs.length)) (hW : IntS W W' (prW xs ys d9 xs.length)) => l2Good_any P' W' cp cw (prP xs d9 xs.length) (prW xs ys d9 xs.length) W hP hW (prP_bd q1 d9) (prW_bd q1 d9) (by have := HPe.out xs.length; omega) (by have := HPe.out xs.length; have := HWl.out xs.length; omega))
      have HAs := Lib.hid (fun k => prA_succ xs d9 k)
      have HAl := Lib.hid (fun k => prA_len xs d9 k)
      have HAn := Lib.hid (fun (k j : Nat) (hj : j < k) => prA_nth xs d9 hj)
      have HA0 : Hid (prA xs d9 0 = []) := rfl
      obtain ⟨r, hr⟩ : ∃ r, good (prP xs d9 xs.length) (prW xs ys d9 xs.length) = r := ⟨_, rfl⟩
      rw [hr] at HGd ⊢
      clear hr hgl hd0
      generalize dep xs xs.length = DP at *
      generalize sumsL xs ys = SU at *
      generalize prP xs d9 = PF at *
      generalize prW xs ys d9 = WF at *
      generalize prKeep xs d9 = KP at *
      generalize prPar xs d9 = PR at *
      generalize prWt xs ys d9 = WT at *
      generalize prA xs d9 = AA at *
      generalize prAt xs d9 = AT at *
      clear q1 q2 _hx _hy 
      go_enter Try.func21, Try.ntmps21
      go_wp2_with fail
      refine (HG1.out _ ((h.alloc _).alloc _) ((k.alloc _).alloc _)).mono ?_
      rintro e1 w1 ⟨rfl, hb⟩
      have hx0 : w1.cell? ⟨w.heap.size, 0, none⟩ = some (.slice A xs.length c) := keep_cell hb (by simp)
      have hx1 : w1.cell? ⟨w.heap.size, 1, none⟩ = some (.slice B ys.length e) := keep_cell hb (by simp)
      have hRs := (BlkT.new (g := w.heap.size + 1) (w.alloc _) (.slice none 0 0) (.slice none 0 0) (by simp)).below hb
      have hw : Below w.heap.size w w1 := below_alloc (below_alloc (hb))
      clear hb
      clear HG1
      obtain ⟨i0, hi, hz0, hz1, hz2⟩ := info_parts info_int
      go_upto_region 3 with (fail)
      go_cut [6, 7, 8] (fun s6 s7 s8 wy => ∃ wx : World, wx = wy ∧ ∃ gP gW gT gD gS cD cS : Nat, s6 = .pointer (some ⟨gT, 0, none⟩) ∧ s7 = .slice (some ⟨gD, 0, none⟩) DP.length cD ∧ s8 = .slice (some ⟨gS, 0, none⟩) SU.length cS ∧ gP ≠ gW ∧ gP ≠ gT ∧ gD ≠ gP ∧ gP ≠ gS ∧ gT ≠ gW ∧ gD ≠ gW ∧ gS ≠ gW ∧ gD ≠ gT ∧ gS ≠ gT ∧ gD ≠ gS ∧ w.heap.size + 2 ≤ gP ∧ w.heap.size + 2 ≤ gW ∧ w.heap.size + 2 ≤ gT ∧ wx.ownsRow (w.heap.size + 2) 3 1 (.slice (some ⟨gP, 0, none⟩) 0 0) 0 (i64s []) ∧ wx.ownsRow (w.heap.size + 2) 3 1 (.slice (some ⟨gW, 0, none⟩) 0 0) 0 (i64s []) ∧ BlkT wx gT (.slice (some ⟨gP, 0, none⟩) 0 0) (.slice (some ⟨gW, 0, none⟩) 0 0) ∧ Row wx gD DP ∧ Row wx gS SU ∧ BlkT wx (w.heap.size + 1) (.slice none 0 0) (.slice none 0 0) ∧ wx.cell? ⟨w.heap.size, 0, none⟩ = some (.slice A xs.length c) ∧ wx.cell? ⟨w.heap.size, 1, none⟩ = some (.slice B ys.length e) ∧ Below w.heap.size w wx)
      case first =>
        refine wp_region_held_drew (S := fun w' => w'.cell? ⟨w.heap.size, 0, none⟩ = some (.slice A xs.length c) ∧ w'.cell? ⟨w.heap.size, 1, none⟩ = some (.slice B ys.length e) ∧ Below w.heap.size w w') (by kernel_rfl) ⟨hx0, hx1, hw.drew⟩ (fun hHeld => ?_)
        refine wpAnyH_take (i := 3) (oi := ?_) (v := ?_) ?_ (by kernel_rfl) (by kernel_rfl) (by kernel_rfl) ?_ (Or.inl ⟨?_, ?_⟩) (by assumption) ?_
        rotate_left 2
        · simp only [List.getElem?_toArray, List.getElem?_cons_zero, List.getElem?_cons_succ]; rfl
        · exact fun _ _ _ h => h
        · rfl
        · intro wq hSw
          obtain ⟨hx0, hx1, hw⟩ := hSw
          go_simp
          (try with_reducible rfl)
        (try simp only [Act.put, List.setIfInBounds_toArray, List.set_cons_zero, List.set_cons_succ])
        refine wpAnyH_take (i := 5) (oi := ?_) (v := ?_) ?_ (by kernel_rfl) (by kernel_rfl) (by kernel_rfl) ?_ (Or.inl ⟨?_, ?_⟩) (by assumption) ?_
        rotate_left 2
        · simp only [List.getElem?_toArray, List.getElem?_cons_zero, List.getElem?_cons_succ]; rfl
        · exact fun _ _ _ h => h
        · rfl
        · intro wq hSw
          obtain ⟨hx0, hx1, hw⟩ := hSw
          go_simp
          (try with_reducible rfl)
        (try simp only [Act.put, List.setIfInBounds_toArray, List.set_cons_zero, List.set_cons_succ])
        all_goals
          first
          | (refine wpAnyH_ready (rs := [0, 1, 4, 7]) (by kernel_rfl) (by simp) ?_
             refine AllReadyH.cons (i := 0) (o := ?_) ?_ (fun K9 hK9 => ?_) ?_
             rotate_left 1
             · simp only [List.getElem?_toArray, List.getElem?_cons_zero]; rfl
             go_simp
             clear hHeld
             refine hK9.out _ _ ⟨keep_cell (Below.drew ((Below.refl w1.heap.size w1).alloc (Nat.le_refl _) _)) hx0, keep_cell (Below.drew ((Below.refl w1.heap.size w1).alloc (Nat.le_refl _) _)) hx1, Below.drew (keep_below_alloc hw _)⟩ (fun hHeld => ?_)
             clear hK9 K9
             (try simp only [Act.put, List.setIfInBounds_toArray, List.set_cons_zero, List.set_cons_succ])
             refine wpAnyH_name hHeld (fun w1x hHa hwz => ?_)
             have hbA : Below w1.heap.size w1 w1x := by rw [hwz]; exact Below.drew ((Below.refl w1.heap.size w1).alloc (Nat.le_refl _) _)
             have hwo : w.heap.size + 2 ≤ w1.heap.size := hRs.lt
             replace hx0 := keep_cell hbA hx0
             replace hx1 := keep_cell hbA hx1
             replace hRs := hRs.below hbA
             replace hw := keep_below hbA hw
             have hownP : w1x.ownsRow (w.heap.size + 2) 3 1 (.slice (some ⟨w1.heap.size, 0, none⟩) 0 0) 0 (i64s []) := by rw [hwz]; exact own_empty w1 (w.heap.size + 2) w1.heap.size rfl hwo
             have hbP : w.heap.size + 2 ≤ w1.heap.size := hwo
             clear hwo
             generalize w1.heap.size = gP at hownP hbP  ⊢
             clear hHeld hbA hwz
             have hHeld := hHa
             clear hHa
             rotate_left 1
             refine AllReadyH.cons (i := 1) (o := ?_) ?_ (fun K9 hK9 => ?_) ?_
             rotate_left 1
             · simp only [List.getElem?_toArray, List.getElem?_cons_zero, List.getElem?_cons_succ]; rfl
             go_simp
             clear hHeld
             refine hK9.out _ _ ⟨keep_cell (Below.drew ((Below.refl w1.heap.size w1).alloc (Nat.le_refl _) _)) hx0, keep_cell (Below.drew ((Below.refl w1.heap.size w1).alloc (Nat.le_refl _) _)) hx1, Below.drew (keep_below_alloc hw _)⟩ (fun hHeld => ?_)
             clear hK9 K9
             (try simp only [Act.put, List.setIfInBounds_toArray, List.set_cons_zero, List.set_cons_succ])
             refine wpAnyH_name hHeld (fun w1x hHa hwz => ?_)
             have hbA : Below w1.heap.size w1 w1x := by rw [hwz]; exact Below.drew ((Below.refl w1.heap.size w1).alloc (Nat.le_refl _) _)
             have hwo : w.heap.size + 2 ≤ w1.heap.size := hRs.lt
             replace hx0 := keep_cell hbA hx0
             replace hx1 := keep_cell hbA hx1
             replace hRs := hRs.below hbA
             replace hw := keep_below hbA hw
             have hownW : w1x.ownsRow (w.heap.size + 2) 3 1 (.slice (some ⟨w1.heap.size, 0, none⟩) 0 0) 0 (i64s []) := by rw [hwz]; exact own_empty w1 (w.heap.size + 2) w1.heap.size rfl hwo
             have hbW : w.heap.size + 2 ≤ w1.heap.size := hwo
             clear hwo
             generalize w1.heap.size = gW at hownW hbW  ⊢
             clear hHeld hbA hwz
             have hHeld := hHa
             clear hHa
             rotate_left 1
             refine AllReadyH.cons (i := 4) (o := ?_) ?_ (fun K9 hK9 => ?_) ?_
             rotate_left 1
             · simp only [List.getElem?_toArray, List.getElem?_cons_zero, List.getElem?_cons_succ]; rfl
             go_simp
             refine (HDp.out _ (h.below hw.drew)).mono ?_
             rintro e1 w1x ⟨AD, cD, rfl, hoD, hb⟩
             obtain ⟨gD, rfl, hgD, hrD⟩ := hoD.pos HDL1.out
             clear hoD
             have hbD : w.heap.size + 2 ≤ gD := Nat.le_trans hRs.lt hgD
             replace hb : Below w1.heap.size w1 w1x := ⟨hb.os, hb.tape, hb.output, hb.size, hb.block⟩
             replace hx0 := keep_cell hb hx0
             replace hx1 := keep_cell hb hx1
             replace hRs := hRs.below hb
             replace hw := keep_below hb hw
             clear hHeld
             go_wp2_with fail
             refine hK9.out _ _ ⟨hx0, hx1, hw⟩ (fun hHeld => ?_)
             clear hK9 K9 hb
             (try simp only [Act.put, List.setIfInBounds_toArray, List.set_cons_zero, List.set_cons_succ])
             rotate_left 1
             refine AllReadyH.cons (i := 7) (o := ?_) ?_ (fun K9 hK9 => ?_) ?_
             rotate_left 1
             · simp only [List.getElem?_toArray, List.getElem?_cons_zero, List.getElem?_cons_succ]; rfl
             go_simp
             clear hHeld
             refine hK9.out _ _ ⟨keep_cell (Below.drew ((Below.refl w1.heap.size w1).alloc (Nat.le_refl _) _)) hx0, keep_cell (Below.drew ((Below.refl w1.heap.size w1).alloc (Nat.le_refl _) _)) hx1, Below.drew (keep_below_alloc hw _)⟩ (fun hHeld => ?_)
             clear hK9 K9
             (try simp only [Act.put, List.setIfInBounds_toArray, List.set_cons_zero, List.set_cons_succ])
             refine wpAnyH_name hHeld (fun w1x hHa hwz => ?_)
             have hbA : Below w1.heap.size w1 w1x := by rw [hwz]; exact Below.drew ((Below.refl w1.heap.size w1).alloc (Nat.le_refl _) _)
             have hwo : w.heap.size + 2 ≤ w1.heap.size := hRs.lt
             replace hx0 := keep_cell hbA hx0
             replace hx1 := keep_cell hbA hx1
             replace hRs := hRs.below hbA
             replace hw := keep_below hbA hw
             have hT : BlkT w1x w1.heap.size (.slice none 0 0) (.slice none 0 0) := by rw [hwz]; exact BlkT.new w1 _ _ rfl
             have hbT : w.heap.size + 2 ≤ w1.heap.size := hwo
             clear hwo
             generalize w1.heap.size = gT at hT hbT  ⊢
             clear hHeld hbA hwz
             have hHeld := hHa
             clear hHa
             rotate_left 1
             exact AllReadyH.nil)
        all_goals
          first
          | (refine wpAnyH_ready (rs := [1, 4, 7]) (by kernel_rfl) (by simp) ?_
             refine AllReadyH.cons (i := 1) (o := ?_) ?_ (fun K9 hK9 => ?_) ?_
             rotate_left 1
             · simp only [List.getElem?_toArray, List.getElem?_cons_zero, List.getElem?_cons_succ]; rfl
             go_simp
             clear hHeld
             refine hK9.out _ _ ⟨keep_cell ((Below.refl w1x.heap.size w1x).alloc (Nat.le_refl _) _) hx0, keep_cell ((Below.refl w1x.heap.size w1x).alloc (Nat.le_refl _) _) hx1, keep_below_alloc hw _⟩ (fun hHeld => ?_)
             clear hK9 K9
             (try simp only [Act.put, List.setIfInBounds_toArray, List.set_cons_zero, List.set_cons_succ])
             refine wpAnyH_name hHeld (fun w2x hHa hwz => ?_)
             have hbA : Below w1x.heap.size w1x w2x := by rw [hwz]; exact (Below.refl w1x.heap.size w1x).alloc (Nat.le_refl _) _
             have hwo : w.heap.size + 2 ≤ w1x.heap.size := hRs.lt
             have dPW : gP ≠ w1x.heap.size := by have := (show gP < w1x.heap.size from (hownP.lt gP rfl).2); omega
             replace hx0 := keep_cell hbA hx0
             replace hx1 := keep_cell hbA hx1
             replace hRs := hRs.below hbA
             replace hownP := own_below hownP hbA
             replace hw := keep_below hbA hw
             have hownW : w2x.ownsRow (w.heap.size + 2) 3 1 (.slice (some ⟨w1x.heap.size, 0, none⟩) 0 0) 0 (i64s []) := by rw [hwz]; exact own_empty w1x (w.heap.size + 2) w1x.heap.size rfl hwo
             have hbW : w.heap.size + 2 ≤ w1x.heap.size := hwo
             clear hwo
             generalize w1x.heap.size = gW at hownW hbW dPW ⊢
             clear hHeld hbA hwz
             have hHeld := hHa
             clear hHa
             refine wpAnyH_take (i := 2) (oi := ?_) (v := ?_) ?_ (by kernel_rfl) (by kernel_rfl) (by kernel_rfl) ?_ (Or.inl ⟨?_, ?_⟩) (by assumption) ?_
             rotate_left 2
             · simp only [List.getElem?_toArray, List.getElem?_cons_zero, List.getElem?_cons_succ]; rfl
             · exact fun _ _ _ h => h
             · rfl
             · intro wq hSw
               obtain ⟨hx0, hx1, hw⟩ := hSw
               go_simp
               (try with_reducible rfl)
             (try simp only [Act.put, List.setIfInBounds_toArray, List.set_cons_zero, List.set_cons_succ])
             rotate_left 1
             refine AllReadyH.cons (i := 4) (o := ?_) ?_ (fun K9 hK9 => ?_) ?_
             rotate_left 1
             · simp only [List.getElem?_toArray, List.getElem?_cons_zero, List.getElem?_cons_succ]; rfl
             go_simp
             refine (HDp.out _ (h.below hw)).mono ?_
             rintro e1 w2x ⟨AD, cD, rfl, hoD, hb⟩
             obtain ⟨gD, rfl, hgD, hrD⟩ := hoD.pos HDL1.out
             clear hoD
             have dDP : gD ≠ gP := by have := (show gP < w1x.heap.size from (hownP.lt gP rfl).2); omega
             have hbD : w.heap.size + 2 ≤ gD := Nat.le_trans hRs.lt hgD
             replace hx0 := keep_cell hb hx0
             replace hx1 := keep_cell hb hx1
             replace hRs := hRs.below hb
             replace hownP := own_below hownP hb
             replace hw := keep_below hb hw
             clear hHeld
             go_wp2_with fail
             refine hK9.out _ _ ⟨hx0, hx1, hw⟩ (fun hHeld => ?_)
             clear hK9 K9 hb
             (try simp only [Act.put, List.setIfInBounds_toArray, List.set_cons_zero, List.set_cons_succ])
             rotate_left 1
             refine AllReadyH.cons (i := 7) (o := ?_) ?_ (fun K9 hK9 => ?_) ?_
             rotate_left 1
             · simp only [List.getElem?_toArray, List.getElem?_cons_zero, List.getElem?_cons_succ]; rfl
             go_simp
             clear hHeld
             refine hK9.out _ _ ⟨keep_cell ((Below.refl w1x.heap.size w1x).alloc (Nat.le_refl _) _) hx0, keep_cell ((Below.refl w1x.heap.size w1x).alloc (Nat.le_refl _) _) hx1, keep_below_alloc hw _⟩ (fun hHeld => ?_)
             clear hK9 K9
             (try simp only [Act.put, List.setIfInBounds_toArray, List.set_cons_zero, List.set_cons_succ])
             refine wpAnyH_name hHeld (fun w2x hHa hwz => ?_)
             have hbA : Below w1x.heap.size w1x w2x := by rw [hwz]; exact (Below.refl w1x.heap.size w1x).alloc (Nat.le_refl _) _
             have hwo : w.heap.size + 2 ≤ w1x.heap.size := hRs.lt
             have dPT : gP ≠ w1x.heap.size := by have := (show gP < w1x.heap.size from (hownP.lt gP rfl).2); omega
             replace hx0 := keep_cell hbA hx0
             replace hx1 := keep_cell hbA hx1
             replace hRs := hRs.below hbA
             replace hownP := own_below hownP hbA
             replace hw := keep_below hbA hw
             have hT : BlkT w2x w1x.heap.size (.slice none 0 0) (.slice none 0 0) := by rw [hwz]; exact BlkT.new w1x _ _ rfl
             have hbT : w.heap.size + 2 ≤ w1x.heap.size := hwo
             clear hwo
             generalize w1x.heap.size = gT at hT hbT dPT ⊢
             clear hHeld hbA hwz
             have hHeld := hHa
             clear hHa
             rotate_left 1
             exact AllReadyH.nil)
          | (refine wpAnyH_ready (rs := [0, 4, 7]) (by kernel_rfl) (by simp) ?_
             refine AllReadyH.cons (i := 0) (o := ?_) ?_ (fun K9 hK9 => ?_) ?_
             rotate_left 1
             · simp only [List.getElem?_toArray, List.getElem?_cons_zero]; rfl
             go_simp
             clear hHeld
             refine hK9.out _ _ ⟨keep_cell ((Below.refl w1x.heap.size w1x).alloc (Nat.le_refl _) _) hx0, keep_cell ((Below.refl w1x.heap.size w1x).alloc (Nat.le_refl _) _) hx1, keep_below_alloc hw _⟩ (fun hHeld => ?_)
             clear hK9 K9
             (try simp only [Act.put, List.setIfInBounds_toArray, List.set_cons_zero, List.set_cons_succ])
             refine wpAnyH_name hHeld (fun w2x hHa hwz => ?_)
             have hbA : Below w1x.heap.size w1x w2x := by rw [hwz]; exact (Below.refl w1x.heap.size w1x).alloc (Nat.le_refl _) _
             have hwo : w.heap.size + 2 ≤ w1x.heap.size := hRs.lt
             have dPW : w1x.heap.size ≠ gW := by have := (show gW < w1x.heap.size from (hownW.lt gW rfl).2); omega
             replace hx0 := keep_cell hbA hx0
             replace hx1 := keep_cell hbA hx1
             replace hRs := hRs.below hbA
             replace hownW := own_below hownW hbA
             replace hw := keep_below hbA hw
             have hownP : w2x.ownsRow (w.heap.size + 2) 3 1 (.slice (some ⟨w1x.heap.size, 0, none⟩) 0 0) 0 (i64s []) := by rw [hwz]; exact own_empty w1x (w.heap.size + 2) w1x.heap.size rfl hwo
             have hbP : w.heap.size + 2 ≤ w1x.heap.size := hwo
             clear hwo
             generalize w1x.heap.size = gP at hownP hbP dPW ⊢
             clear hHeld hbA hwz
             have hHeld := hHa
             clear hHa
             refine wpAnyH_take (i := 2) (oi := ?_) (v := ?_) ?_ (by kernel_rfl) (by kernel_rfl) (by kernel_rfl) ?_ (Or.inl ⟨?_, ?_⟩) (by assumption) ?_
             rotate_left 2
             · simp only [List.getElem?_toArray, List.getElem?_cons_zero, List.getElem?_cons_succ]; rfl
             · exact fun _ _ _ h => h
             · rfl
             · intro wq hSw
               obtain ⟨hx0, hx1, hw⟩ := hSw
               go_simp
               (try with_reducible rfl)
             (try simp only [Act.put, List.setIfInBounds_toArray, List.set_cons_zero, List.set_cons_succ])
             rotate_left 1
             refine AllReadyH.cons (i := 4) (o := ?_) ?_ (fun K9 hK9 => ?_) ?_
             rotate_left 1
             · simp only [List.getElem?_toArray, List.getElem?_cons_zero, List.getElem?_cons_succ]; rfl
             go_simp
             refine (HDp.out _ (h.below hw)).mono ?_
             rintro e1 w2x ⟨AD, cD, rfl, hoD, hb⟩
             obtain ⟨gD, rfl, hgD, hrD⟩ := hoD.pos HDL1.out
             clear hoD
             have dDW : gD ≠ gW := by have := (show gW < w1x.heap.size from (hownW.lt gW rfl).2); omega
             have hbD : w.heap.size + 2 ≤ gD := Nat.le_trans hRs.lt hgD
             replace hx0 := keep_cell hb hx0
             replace hx1 := keep_cell hb hx1
             replace hRs := hRs.below hb
             replace hownW := own_below hownW hb
             replace hw := keep_below hb hw
             clear hHeld
             go_wp2_with fail
             refine hK9.out _ _ ⟨hx0, hx1, hw⟩ (fun hHeld => ?_)
             clear hK9 K9 hb
             (try simp only [Act.put, List.setIfInBounds_toArray, List.set_cons_zero, List.set_cons_succ])
             rotate_left 1
             refine AllReadyH.cons (i := 7) (o := ?_) ?_ (fun K9 hK9 => ?_) ?_
             rotate_left 1
             · simp only [List.getElem?_toArray, List.getElem?_cons_zero, List.getElem?_cons_succ]; rfl
             go_simp
             clear hHeld
             refine hK9.out _ _ ⟨keep_cell ((Below.refl w1x.heap.size w1x).alloc (Nat.le_refl _) _) hx0, keep_cell ((Below.refl w1x.heap.size w1x).alloc (Nat.le_refl _) _) hx1, keep_below_alloc hw _⟩ (fun hHeld => ?_)
             clear hK9 K9
             (try simp only [Act.put, List.setIfInBounds_toArray, List.set_cons_zero, List.set_cons_succ])
             refine wpAnyH_name hHeld (fun w2x hHa hwz => ?_)
             have hbA : Below w1x.heap.size w1x w2x := by rw [hwz]; exact (Below.refl w1x.heap.size w1x).alloc (Nat.le_refl _) _
             have hwo : w.heap.size + 2 ≤ w1x.heap.size := hRs.lt
             have dTW : w1x.heap.size ≠ gW := by have := (show gW < w1x.heap.size from (hownW.lt gW rfl).2); omega
             replace hx0 := keep_cell hbA hx0
             replace hx1 := keep_cell hbA hx1
             replace hRs := hRs.below hbA
             replace hownW := own_below hownW hbA
             replace hw := keep_below hbA hw
             have hT : BlkT w2x w1x.heap.size (.slice none 0 0) (.slice none 0 0) := by rw [hwz]; exact BlkT.new w1x _ _ rfl
             have hbT : w.heap.size + 2 ≤ w1x.heap.size := hwo
             clear hwo
             generalize w1x.heap.size = gT at hT hbT dTW ⊢
             clear hHeld hbA hwz
             have hHeld := hHa
             clear hHa
             rotate_left 1
             exact AllReadyH.nil)
          | (refine wpAnyH_ready (rs := [0, 1, 6, 7]) (by kernel_rfl) (by simp) ?_
             refine AllReadyH.cons (i := 0) (o := ?_) ?_ (fun K9 hK9 => ?_) ?_
             rotate_left 1
             · simp only [List.getElem?_toArray, List.getElem?_cons_zero]; rfl
             go_simp
             clear hHeld
             refine hK9.out _ _ ⟨keep_cell ((Below.refl w1x.heap.size w1x).alloc (Nat.le_refl _) _) hx0, keep_cell ((Below.refl w1x.heap.size w1x).alloc (Nat.le_refl _) _) hx1, keep_below_alloc hw _⟩ (fun hHeld => ?_)
             clear hK9 K9
             (try simp only [Act.put, List.setIfInBounds_toArray, List.set_cons_zero, List.set_cons_succ])
             refine wpAnyH_name hHeld (fun w2x hHa hwz => ?_)
             have hbA : Below w1x.heap.size w1x w2x := by rw [hwz]; exact (Below.refl w1x.heap.size w1x).alloc (Nat.le_refl _) _
             have hwo : w.heap.size + 2 ≤ w1x.heap.size := hRs.lt
             have dDP : gD ≠ w1x.heap.size := by have := hrD.lt; omega
             replace hx0 := keep_cell hbA hx0
             replace hx1 := keep_cell hbA hx1
             replace hRs := hRs.below hbA
             replace hrD := hrD.below hbA
             replace hw := keep_below hbA hw
             have hownP : w2x.ownsRow (w.heap.size + 2) 3 1 (.slice (some ⟨w1x.heap.size, 0, none⟩) 0 0) 0 (i64s []) := by rw [hwz]; exact own_empty w1x (w.heap.size + 2) w1x.heap.size rfl hwo
             have hbP : w.heap.size + 2 ≤ w1x.heap.size := hwo
             clear hwo
             generalize w1x.heap.size = gP at hownP hbP dDP ⊢
             clear hHeld hbA hwz
             have hHeld := hHa
             clear hHa
             rotate_left 1
             refine AllReadyH.cons (i := 1) (o := ?_) ?_ (fun K9 hK9 => ?_) ?_
             rotate_left 1
             · simp only [List.getElem?_toArray, List.getElem?_cons_zero, List.getElem?_cons_succ]; rfl
             go_simp
             clear hHeld
             refine hK9.out _ _ ⟨keep_cell ((Below.refl w1x.heap.size w1x).alloc (Nat.le_refl _) _) hx0, keep_cell ((Below.refl w1x.heap.size w1x).alloc (Nat.le_refl _) _) hx1, keep_below_alloc hw _⟩ (fun hHeld => ?_)
             clear hK9 K9
             (try simp only [Act.put, List.setIfInBounds_toArray, List.set_cons_zero, List.set_cons_succ])
             refine wpAnyH_name hHeld (fun w2x hHa hwz => ?_)
             have hbA : Below w1x.heap.size w1x w2x := by rw [hwz]; exact (Below.refl w1x.heap.size w1x).alloc (Nat.le_refl _) _
             have hwo : w.heap.size + 2 ≤ w1x.heap.size := hRs.lt
             have dDW : gD ≠ w1x.heap.size := by have := hrD.lt; omega
             replace hx0 := keep_cell hbA hx0
             replace hx1 := keep_cell hbA hx1
             replace hRs := hRs.below hbA
             replace hrD := hrD.below hbA
             replace hw := keep_below hbA hw
             have hownW : w2x.ownsRow (w.heap.size + 2) 3 1 (.slice (some ⟨w1x.heap.size, 0, none⟩) 0 0) 0 (i64s []) := by rw [hwz]; exact own_empty w1x (w.heap.size + 2) w1x.heap.size rfl hwo
             have hbW : w.heap.size + 2 ≤ w1x.heap.size := hwo
             clear hwo
             generalize w1x.heap.size = gW at hownW hbW dDW ⊢
             clear hHeld hbA hwz
             have hHeld := hHa
             clear hHa
             rotate_left 1
             refine AllReadyH.cons (i := 6) (o := ?_) ?_ (fun K9 hK9 => ?_) ?_
             rotate_left 1
             · simp only [List.getElem?_toArray, List.getElem?_cons_zero, List.getElem?_cons_succ]; rfl
             go_simp
             refine (HSu.out _ (h.below hw) (k.below hw)).mono ?_
             rintro e1 w2x ⟨AS, cS, rfl, hoS, hb⟩
             obtain ⟨gS, rfl, hgS, hrS⟩ := hoS.pos HSL1.out
             clear hoS
             have dDS : gD ≠ gS := by have := hrD.lt; omega
             have hbS : w.heap.size + 2 ≤ gS := Nat.le_trans hRs.lt hgS
             replace hx0 := keep_cell hb hx0
             replace hx1 := keep_cell hb hx1
             replace hRs := hRs.below hb
             replace hrD := hrD.below hb
             replace hw := keep_below hb hw
             clear hHeld
             go_wp2_with fail
             refine hK9.out _ _ ⟨hx0, hx1, hw⟩ (fun hHeld => ?_)
             clear hK9 K9 hb
             (try simp only [Act.put, List.setIfInBounds_toArray, List.set_cons_zero, List.set_cons_succ])
             rotate_left 1
             refine AllReadyH.cons (i := 7) (o := ?_) ?_ (fun K9 hK9 => ?_) ?_
             rotate_left 1
             · simp only [List.getElem?_toArray, List.getElem?_cons_zero, List.getElem?_cons_succ]; rfl
             go_simp
             clear hHeld
             refine hK9.out _ _ ⟨keep_cell ((Below.refl w1x.heap.size w1x).alloc (Nat.le_refl _) _) hx0, keep_cell ((Below.refl w1x.heap.size w1x).alloc (Nat.le_refl _) _) hx1, keep_below_alloc hw _⟩ (fun hHeld => ?_)
             clear hK9 K9
             (try simp only [Act.put, List.setIfInBounds_toArray, List.set_cons_zero, List.set_cons_succ])
             refine wpAnyH_name hHeld (fun w2x hHa hwz => ?_)
             have hbA : Below w1x.heap.size w1x w2x := by rw [hwz]; exact (Below.refl w1x.heap.size w1x).alloc (Nat.le_refl _) _
             have hwo : w.heap.size + 2 ≤ w1x.heap.size := hRs.lt
             have dDT : gD ≠ w1x.heap.size := by have := hrD.lt; omega
             replace hx0 := keep_cell hbA hx0
             replace hx1 := keep_cell hbA hx1
             replace hRs := hRs.below hbA
             replace hrD := hrD.below hbA
             replace hw := keep_below hbA hw
             have hT : BlkT w2x w1x.heap.size (.slice none 0 0) (.slice none 0 0) := by rw [hwz]; exact BlkT.new w1x _ _ rfl
             have hbT : w.heap.size + 2 ≤ w1x.heap.size := hwo
             clear hwo
             generalize w1x.heap.size = gT at hT hbT dDT ⊢
             clear hHeld hbA hwz
             have hHeld := hHa
             clear hHa
             rotate_left 1
             exact AllReadyH.nil)
          | (refine wpAnyH_ready (rs := [0, 1, 4]) (by kernel_rfl) (by simp) ?_
             refine AllReadyH.cons (i := 0) (o := ?_) ?_ (fun K9 hK9 => ?_) ?_
             rotate_left 1
             · simp only [List.getElem?_toArray, List.getElem?_cons_zero]; rfl
             go_simp
             clear hHeld
             refine hK9.out _ _ ⟨keep_cell ((Below.refl w1x.heap.size w1x).alloc (Nat.le_refl _) _) hx0, keep_cell ((Below.refl w1x.heap.size w1x).alloc (Nat.le_refl _) _) hx1, keep_below_alloc hw _⟩ (fun hHeld => ?_)
             clear hK9 K9
             (try simp only [Act.put, List.setIfInBounds_toArray, List.set_cons_zero, List.set_cons_succ])
             refine wpAnyH_name hHeld (fun w2x hHa hwz => ?_)
             have hbA : Below w1x.heap.size w1x w2x := by rw [hwz]; exact (Below.refl w1x.heap.size w1x).alloc (Nat.le_refl _) _
             have hwo : w.heap.size + 2 ≤ w1x.heap.size := hRs.lt
             have dPT : w1x.heap.size ≠ gT := by have := hT.lt; omega
             replace hx0 := keep_cell hbA hx0
             replace hx1 := keep_cell hbA hx1
             replace hRs := hRs.below hbA
             replace hT := hT.below hbA
             replace hw := keep_below hbA hw
             have hownP : w2x.ownsRow (w.heap.size + 2) 3 1 (.slice (some ⟨w1x.heap.size, 0, none⟩) 0 0) 0 (i64s []) := by rw [hwz]; exact own_empty w1x (w.heap.size + 2) w1x.heap.size rfl hwo
             have hbP : w.heap.size + 2 ≤ w1x.heap.size := hwo
             clear hwo
             generalize w1x.heap.size = gP at hownP hbP dPT ⊢
             clear hHeld hbA hwz
             have hHeld := hHa
             clear hHa
             rotate_left 1
             refine AllReadyH.cons (i := 1) (o := ?_) ?_ (fun K9 hK9 => ?_) ?_
             rotate_left 1
             · simp only [List.getElem?_toArray, List.getElem?_cons_zero, List.getElem?_cons_succ]; rfl
             go_simp
             clear hHeld
             refine hK9.out _ _ ⟨keep_cell ((Below.refl w1x.heap.size w1x).alloc (Nat.le_refl _) _) hx0, keep_cell ((Below.refl w1x.heap.size w1x).alloc (Nat.le_refl _) _) hx1, keep_below_alloc hw _⟩ (fun hHeld => ?_)
             clear hK9 K9
             (try simp only [Act.put, List.setIfInBounds_toArray, List.set_cons_zero, List.set_cons_succ])
             refine wpAnyH_name hHeld (fun w2x hHa hwz => ?_)
             have hbA : Below w1x.heap.size w1x w2x := by rw [hwz]; exact (Below.refl w1x.heap.size w1x).alloc (Nat.le_refl _) _
             have hwo : w.heap.size + 2 ≤ w1x.heap.size := hRs.lt
             have dTW : gT ≠ w1x.heap.size := by have := hT.lt; omega
             replace hx0 := keep_cell hbA hx0
             replace hx1 := keep_cell hbA hx1
             replace hRs := hRs.below hbA
             replace hT := hT.below hbA
             replace hw := keep_below hbA hw
             have hownW : w2x.ownsRow (w.heap.size + 2) 3 1 (.slice (some ⟨w1x.heap.size, 0, none⟩) 0 0) 0 (i64s []) := by rw [hwz]; exact own_empty w1x (w.heap.size + 2) w1x.heap.size rfl hwo
             have hbW : w.heap.size + 2 ≤ w1x.heap.size := hwo
             clear hwo
             generalize w1x.heap.size = gW at hownW hbW dTW ⊢
             clear hHeld hbA hwz
             have hHeld := hHa
             clear hHa
             rotate_left 1
             refine AllReadyH.cons (i := 4) (o := ?_) ?_ (fun K9 hK9 => ?_) ?_
             rotate_left 1
             · simp only [List.getElem?_toArray, List.getElem?_cons_zero, List.getElem?_cons_succ]; rfl
             go_simp
             refine (HDp.out _ (h.below hw)).mono ?_
             rintro e1 w2x ⟨AD, cD, rfl, hoD, hb⟩
             obtain ⟨gD, rfl, hgD, hrD⟩ := hoD.pos HDL1.out
             clear hoD
             have dDT : gD ≠ gT := by have := hT.lt; omega
             have hbD : w.heap.size + 2 ≤ gD := Nat.le_trans hRs.lt hgD
             replace hx0 := keep_cell hb hx0
             replace hx1 := keep_cell hb hx1
             replace hRs := hRs.below hb
             replace hT := hT.below hb
             replace hw := keep_below hb hw
             clear hHeld
             go_wp2_with fail
             refine hK9.out _ _ ⟨hx0, hx1, hw⟩ (fun hHeld => ?_)
             clear hK9 K9 hb
             (try simp only [Act.put, List.setIfInBounds_toArray, List.set_cons_zero, List.set_cons_succ])
             rotate_left 1
             exact AllReadyH.nil)
        all_goals
          first
          | (refine wpAnyH_ready (rs := [4, 7]) (by kernel_rfl) (by simp) ?_
             refine AllReadyH.cons (i := 4) (o := ?_) ?_ (fun K9 hK9 => ?_) ?_
             rotate_left 1
             · simp only [List.getElem?_toArray, List.getElem?_cons_zero, List.getElem?_cons_succ]; rfl
             go_simp
             refine (HDp.out _ (h.below hw)).mono ?_
             rintro e1 w3x ⟨AD, cD, rfl, hoD, hb⟩
             obtain ⟨gD, rfl, hgD, hrD⟩ := hoD.pos HDL1.out
             clear hoD
             have dDP : gD ≠ gP := by have := (show gP < w2x.heap.size from (hownP.lt gP rfl).2); omega
             have dDW : gD ≠ gW := by have := (show gW < w2x.heap.size from (hownW.lt gW rfl).2); omega
             have hbD : w.heap.size + 2 ≤ gD := Nat.le_trans hRs.lt hgD
             replace hx0 := keep_cell hb hx0
             replace hx1 := keep_cell hb hx1
             replace hRs := hRs.below hb
             replace hownP := own_below hownP hb
             replace hownW := own_below hownW hb
             replace hw := keep_below hb hw
             clear hHeld
             go_wp2_with fail
             refine hK9.out _ _ ⟨hx0, hx1, hw⟩ (fun hHeld => ?_)
             clear hK9 K9 hb
             (try simp only [Act.put, List.setIfInBounds_toArray, List.set_cons_zero, List.set_cons_succ])
             rotate_left 1
             refine AllReadyH.cons (i := 7) (o := ?_) ?_ (fun K9 hK9 => ?_) ?_
             rotate_left 1
             · simp only [List.getElem?_toArray, List.getElem?_cons_zero, List.getElem?_cons_succ]; rfl
             go_simp
             clear hHeld
             refine hK9.out _ _ ⟨keep_cell ((Below.refl w2x.heap.size w2x).alloc (Nat.le_refl _) _) hx0, keep_cell ((Below.refl w2x.heap.size w2x).alloc (Nat.le_refl _) _) hx1, keep_below_alloc hw _⟩ (fun hHeld => ?_)
             clear hK9 K9
             (try simp only [Act.put, List.setIfInBounds_toArray, List.set_cons_zero, List.set_cons_succ])
             refine wpAnyH_name hHeld (fun w3x hHa hwz => ?_)
             have hbA : Below w2x.heap.size w2x w3x := by rw [hwz]; exact (Below.refl w2x.heap.size w2x).alloc (Nat.le_refl _) _
             have hwo : w.heap.size + 2 ≤ w2x.heap.size := hRs.lt
             have dPT : gP ≠ w2x.heap.size := by have := (show gP < w2x.heap.size from (hownP.lt gP rfl).2); omega
             have dTW : w2x.heap.size ≠ gW := by have := (show gW < w2x.heap.size from (hownW.lt gW rfl).2); omega
             replace hx0 := keep_cell hbA hx0
             replace hx1 := keep_cell hbA hx1
             replace hRs := hRs.below hbA
             replace hownP := own_below hownP hbA
             replace hownW := own_below hownW hbA
             replace hw := keep_below hbA hw
             have hT : BlkT w3x w2x.heap.size (.slice none 0 0) (.slice none 0 0) := by rw [hwz]; exact BlkT.new w2x _ _ rfl
             have hbT : w.heap.size + 2 ≤ w2x.heap.size := hwo
             clear hwo
             generalize w2x.heap.size = gT at hT hbT dPT dTW ⊢
             clear hHeld hbA hwz
             have hHeld := hHa
             clear hHa
             rotate_left 1
             exact AllReadyH.nil)
          | (refine wpAnyH_ready (rs := [1, 6, 7]) (by kernel_rfl) (by simp) ?_
             refine AllReadyH.cons (i := 1) (o := ?_) ?_ (fun K9 hK9 => ?_) ?_
             rotate_left 1
             · simp only [List.getElem?_toArray, List.getElem?_cons_zero, List.getElem?_cons_succ]; rfl
             go_simp
             clear hHeld
             refine hK9.out _ _ ⟨keep_cell ((Below.refl w2x.heap.size w2x).alloc (Nat.le_refl _) _) hx0, keep_cell ((Below.refl w2x.heap.size w2x).alloc (Nat.le_refl _) _) hx1, keep_below_alloc hw _⟩ (fun hHeld => ?_)
             clear hK9 K9
             (try simp only [Act.put, List.setIfInBounds_toArray, List.set_cons_zero, List.set_cons_succ])
             refine wpAnyH_name hHeld (fun w3x hHa hwz => ?_)
             have hbA : Below w2x.heap.size w2x w3x := by rw [hwz]; exact (Below.refl w2x.heap.size w2x).alloc (Nat.le_refl _) _
             have hwo : w.heap.size + 2 ≤ w2x.heap.size := hRs.lt
             have dPW : gP ≠ w2x.heap.size := by have := (show gP < w2x.heap.size from (hownP.lt gP rfl).2); omega
             have dDW : gD ≠ w2x.heap.size := by have := hrD.lt; omega
             replace hx0 := keep_cell hbA hx0
             replace hx1 := keep_cell hbA hx1
             replace hRs := hRs.below hbA
             replace hownP := own_below hownP hbA
             replace hrD := hrD.below hbA
             replace hw := keep_below hbA hw
             have hownW : w3x.ownsRow (w.heap.size + 2) 3 1 (.slice (some ⟨w2x.heap.size, 0, none⟩) 0 0) 0 (i64s []) := by rw [hwz]; exact own_empty w2x (w.heap.size + 2) w2x.heap.size rfl hwo
             have hbW : w.heap.size + 2 ≤ w2x.heap.size := hwo
             clear hwo
             generalize w2x.heap.size = gW at hownW hbW dPW dDW ⊢
             clear hHeld hbA hwz
             have hHeld := hHa
             clear hHa
             refine wpAnyH_take (i := 2) (oi := ?_) (v := ?_) ?_ (by kernel_rfl) (by kernel_rfl) (by kernel_rfl) ?_ (Or.inl ⟨?_, ?_⟩) (by assumption) ?_
             rotate_left 2
             · simp only [List.getElem?_toArray, List.getElem?_cons_zero, List.getElem?_cons_succ]; rfl
             · exact fun _ _ _ h => h
             · rfl
             · intro wq hSw
               obtain ⟨hx0, hx1, hw⟩ := hSw
               go_simp
               (try with_reducible rfl)
             (try simp only [Act.put, List.setIfInBounds_toArray, List.set_cons_zero, List.set_cons_succ])
             rotate_left 1
             refine AllReadyH.cons (i := 6) (o := ?_) ?_ (fun K9 hK9 => ?_) ?_
             rotate_left 1
             · simp only [List.getElem?_toArray, List.getElem?_cons_zero, List.getElem?_cons_succ]; rfl
             go_simp
             refine (HSu.out _ (h.below hw) (k.below hw)).mono ?_
             rintro e1 w3x ⟨AS, cS, rfl, hoS, hb⟩
             obtain ⟨gS, rfl, hgS, hrS⟩ := hoS.pos HSL1.out
             clear hoS
             have dPS : gP ≠ gS := by have := (show gP < w2x.heap.size from (hownP.lt gP rfl).2); omega
             have dDS : gD ≠ gS := by have := hrD.lt; omega
             have hbS : w.heap.size + 2 ≤ gS := Nat.le_trans hRs.lt hgS
             replace hx0 := keep_cell hb hx0
             replace hx1 := keep_cell hb hx1
             replace hRs := hRs.below hb
             replace hownP := own_below hownP hb
             replace hrD := hrD.below hb
             replace hw := keep_below hb hw
             clear hHeld
             go_wp2_with fail
             refine hK9.out _ _ ⟨hx0, hx1, hw⟩ (fun hHeld => ?_)
             clear hK9 K9 hb
             (try simp only [Act.put, List.setIfInBounds_toArray, List.set_cons_zero, List.set_cons_succ])
             rotate_left 1
             refine AllReadyH.cons (i := 7) (o := ?_) ?_ (fun K9 hK9 => ?_) ?_
             rotate_left 1
             · simp only [List.getElem?_toArray, List.getElem?_cons_zero, List.getElem?_cons_succ]; rfl
             go_simp
             clear hHeld
             refine hK9.out _ _ ⟨keep_cell ((Below.refl w2x.heap.size w2x).alloc (Nat.le_refl _) _) hx0, keep_cell ((Below.refl w2x.heap.size w2x).alloc (Nat.le_refl _) _) hx1, keep_below_alloc hw _⟩ (fun hHeld => ?_)
             clear hK9 K9
             (try simp only [Act.put, List.setIfInBounds_toArray, List.set_cons_zero, List.set_cons_succ])
             refine wpAnyH_name hHeld (fun w3x hHa hwz => ?_)
             have hbA : Below w2x.heap.size w2x w3x := by rw [hwz]; exact (Below.refl w2x.heap.size w2x).alloc (Nat.le_refl _) _
             have hwo : w.heap.size + 2 ≤ w2x.heap.size := hRs.lt
             have dPT : gP ≠ w2x.heap.size := by have := (show gP < w2x.heap.size from (hownP.lt gP rfl).2); omega
             have dDT : gD ≠ w2x.heap.size := by have := hrD.lt; omega
             replace hx0 := keep_cell hbA hx0
             replace hx1 := keep_cell hbA hx1
             replace hRs := hRs.below hbA
             replace hownP := own_below hownP hbA
             replace hrD := hrD.below hbA
             replace hw := keep_below hbA hw
             have hT : BlkT w3x w2x.heap.size (.slice none 0 0) (.slice none 0 0) := by rw [hwz]; exact BlkT.new w2x _ _ rfl
             have hbT : w.heap.size + 2 ≤ w2x.heap.size := hwo
             clear hwo
             generalize w2x.heap.size = gT at hT hbT dPT dDT ⊢
             clear hHeld hbA hwz
             have hHeld := hHa
             clear hHa
             rotate_left 1
             exact AllReadyH.nil)
          | (refine wpAnyH_ready (rs := [1, 4]) (by kernel_rfl) (by simp) ?_
             refine AllReadyH.cons (i := 1) (o := ?_) ?_ (fun K9 hK9 => ?_) ?_
             rotate_left 1
             · simp only [List.getElem?_toArray, List.getElem?_cons_zero, List.getElem?_cons_succ]; rfl
             go_simp
             clear hHeld
             refine hK9.out _ _ ⟨keep_cell ((Below.refl w2x.heap.size w2x).alloc (Nat.le_refl _) _) hx0, keep_cell ((Below.refl w2x.heap.size w2x).alloc (Nat.le_refl _) _) hx1, keep_below_alloc hw _⟩ (fun hHeld => ?_)
             clear hK9 K9
             (try simp only [Act.put, List.setIfInBounds_toArray, List.set_cons_zero, List.set_cons_succ])
             refine wpAnyH_name hHeld (fun w3x hHa hwz => ?_)
             have hbA : Below w2x.heap.size w2x w3x := by rw [hwz]; exact (Below.refl w2x.heap.size w2x).alloc (Nat.le_refl _) _
             have hwo : w.heap.size + 2 ≤ w2x.heap.size := hRs.lt
             have dPW : gP ≠ w2x.heap.size := by have := (show gP < w2x.heap.size from (hownP.lt gP rfl).2); omega
             have dTW : gT ≠ w2x.heap.size := by have := hT.lt; omega
             replace hx0 := keep_cell hbA hx0
             replace hx1 := keep_cell hbA hx1
             replace hRs := hRs.below hbA
             replace hownP := own_below hownP hbA
             replace hT := hT.below hbA
             replace hw := keep_below hbA hw
             have hownW : w3x.ownsRow (w.heap.size + 2) 3 1 (.slice (some ⟨w2x.heap.size, 0, none⟩) 0 0) 0 (i64s []) := by rw [hwz]; exact own_empty w2x (w.heap.size + 2) w2x.heap.size rfl hwo
             have hbW : w.heap.size + 2 ≤ w2x.heap.size := hwo
             clear hwo
             generalize w2x.heap.size = gW at hownW hbW dPW dTW ⊢
             clear hHeld hbA hwz
             have hHeld := hHa
             clear hHa
             refine wpAnyH_take (i := 2) (oi := ?_) (v := ?_) ?_ (by kernel_rfl) (by kernel_rfl) (by kernel_rfl) ?_ (Or.inl ⟨?_, ?_⟩) (by assumption) ?_
             rotate_left 2
             · simp only [List.getElem?_toArray, List.getElem?_cons_zero, List.getElem?_cons_succ]; rfl
             · exact fun _ _ _ h => h
             · rfl
             · intro wq hSw
               obtain ⟨hx0, hx1, hw⟩ := hSw
               go_simp
               (try with_reducible rfl)
             (try simp only [Act.put, List.setIfInBounds_toArray, List.set_cons_zero, List.set_cons_succ])
             rotate_left 1
             refine AllReadyH.cons (i := 4) (o := ?_) ?_ (fun K9 hK9 => ?_) ?_
             rotate_left 1
             · simp only [List.getElem?_toArray, List.getElem?_cons_zero, List.getElem?_cons_succ]; rfl
             go_simp
             refine (HDp.out _ (h.below hw)).mono ?_
             rintro e1 w3x ⟨AD, cD, rfl, hoD, hb⟩
             obtain ⟨gD, rfl, hgD, hrD⟩ := hoD.pos HDL1.out
             clear hoD
             have dDP : gD ≠ gP := by have := (show gP < w2x.heap.size from (hownP.lt gP rfl).2); omega
             have dDT : gD ≠ gT := by have := hT.lt; omega
             have hbD : w.heap.size + 2 ≤ gD := Nat.le_trans hRs.lt hgD
             replace hx0 := keep_cell hb hx0
             replace hx1 := keep_cell hb hx1
             replace hRs := hRs.below hb
             replace hownP := own_below hownP hb
             replace hT := hT.below hb
             replace hw := keep_below hb hw
             clear hHeld
             go_wp2_with fail
             refine hK9.out _ _ ⟨hx0, hx1, hw⟩ (fun hHeld => ?_)
             clear hK9 K9 hb
             (try simp only [Act.put, List.setIfInBounds_toArray, List.set_cons_zero, List.set_cons_succ])
             rotate_left 1
             exact AllReadyH.nil)
          | (refine wpAnyH_ready (rs := [0, 6, 7]) (by kernel_rfl) (by simp) ?_
             refine AllReadyH.cons (i := 0) (o := ?_) ?_ (fun K9 hK9 => ?_) ?_
             rotate_left 1
             · simp only [List.getElem?_toArray, List.getElem?_cons_zero]; rfl
             go_simp
             clear hHeld
             refine hK9.out _ _ ⟨keep_cell ((Below.refl w2x.heap.size w2x).alloc (Nat.le_refl _) _) hx0, keep_cell ((Below.refl w2x.heap.size w2x).alloc (Nat.le_refl _) _) hx1, keep_below_alloc hw _⟩ (fun hHeld => ?_)
             clear hK9 K9
             (try simp only [Act.put, List.setIfInBounds_toArray, List.set_cons_zero, List.set_cons_succ])
             refine wpAnyH_name hHeld (fun w3x hHa hwz => ?_)
             have hbA : Below w2x.heap.size w2x w3x := by rw [hwz]; exact (Below.refl w2x.heap.size w2x).alloc (Nat.le_refl _) _
             have hwo : w.heap.size + 2 ≤ w2x.heap.size := hRs.lt
             have dPW : w2x.heap.size ≠ gW := by have := (show gW < w2x.heap.size from (hownW.lt gW rfl).2); omega
             have dDP : gD ≠ w2x.heap.size := by have := hrD.lt; omega
             replace hx0 := keep_cell hbA hx0
             replace hx1 := keep_cell hbA hx1
             replace hRs := hRs.below hbA
             replace hownW := own_below hownW hbA
             replace hrD := hrD.below hbA
             replace hw := keep_below hbA hw
             have hownP : w3x.ownsRow (w.heap.size + 2) 3 1 (.slice (some ⟨w2x.heap.size, 0, none⟩) 0 0) 0 (i64s []) := by rw [hwz]; exact own_empty w2x (w.heap.size + 2) w2x.heap.size rfl hwo
             have hbP : w.heap.size + 2 ≤ w2x.heap.size := hwo
             clear hwo
             generalize w2x.heap.size = gP at hownP hbP dPW dDP ⊢
             clear hHeld hbA hwz
             have hHeld := hHa
             clear hHa
             refine wpAnyH_take (i := 2) (oi := ?_) (v := ?_) ?_ (by kernel_rfl) (by kernel_rfl) (by kernel_rfl) ?_ (Or.inl ⟨?_, ?_⟩) (by assumption) ?_
             rotate_left 2
             · simp only [List.getElem?_toArray, List.getElem?_cons_zero, List.getElem?_cons_succ]; rfl
             · exact fun _ _ _ h => h
             · rfl
             · intro wq hSw
               obtain ⟨hx0, hx1, hw⟩ := hSw
               go_simp
               (try with_reducible rfl)
             (try simp only [Act.put, List.setIfInBounds_toArray, List.set_cons_zero, List.set_cons_succ])
             rotate_left 1
             refine AllReadyH.cons (i := 6) (o := ?_) ?_ (fun K9 hK9 => ?_) ?_
             rotate_left 1
             · simp only [List.getElem?_toArray, List.getElem?_cons_zero, List.getElem?_cons_succ]; rfl
             go_simp
             refine (HSu.out _ (h.below hw) (k.below hw)).mono ?_
             rintro e1 w3x ⟨AS, cS, rfl, hoS, hb⟩
             obtain ⟨gS, rfl, hgS, hrS⟩ := hoS.pos HSL1.out
             clear hoS
             have dSW : gS ≠ gW := by have := (show gW < w2x.heap.size from (hownW.lt gW rfl).2); omega
             have dDS : gD ≠ gS := by have := hrD.lt; omega
             have hbS : w.heap.size + 2 ≤ gS := Nat.le_trans hRs.lt hgS
             replace hx0 := keep_cell hb hx0
             replace hx1 := keep_cell hb hx1
             replace hRs := hRs.below hb
             replace hownW := own_below hownW hb
             replace hrD := hrD.below hb
             replace hw := keep_below hb hw
             clear hHeld
             go_wp2_with fail
             refine hK9.out _ _ ⟨hx0, hx1, hw⟩ (fun hHeld => ?_)
             clear hK9 K9 hb
             (try simp only [Act.put, List.setIfInBounds_toArray, List.set_cons_zero, List.set_cons_succ])
             rotate_left 1
             refine AllReadyH.cons (i := 7) (o := ?_) ?_ (fun K9 hK9 => ?_) ?_
             rotate_left 1
             · simp only [List.getElem?_toArray, List.getElem?_cons_zero, List.getElem?_cons_succ]; rfl
             go_simp
             clear hHeld
             refine hK9.out _ _ ⟨keep_cell ((Below.refl w2x.heap.size w2x).alloc (Nat.le_refl _) _) hx0, keep_cell ((Below.refl w2x.heap.size w2x).alloc (Nat.le_refl _) _) hx1, keep_below_alloc hw _⟩ (fun hHeld => ?_)
             clear hK9 K9
             (try simp only [Act.put, List.setIfInBounds_toArray, List.set_cons_zero, List.set_cons_succ])
             refine wpAnyH_name hHeld (fun w3x hHa hwz => ?_)
             have hbA : Below w2x.heap.size w2x w3x := by rw [hwz]; exact (Below.refl w2x.heap.size w2x).alloc (Nat.le_refl _) _
             have hwo : w.heap.size + 2 ≤ w2x.heap.size := hRs.lt
             have dTW : w2x.heap.size ≠ gW := by have := (show gW < w2x.heap.size from (hownW.lt gW rfl).2); omega
             have dDT : gD ≠ w2x.heap.size := by have := hrD.lt; omega
             replace hx0 := keep_cell hbA hx0
             replace hx1 := keep_cell hbA hx1
             replace hRs := hRs.below hbA
             replace hownW := own_below hownW hbA
             replace hrD := hrD.below hbA
             replace hw := keep_below hbA hw
             have hT : BlkT w3x w2x.heap.size (.slice none 0 0) (.slice none 0 0) := by rw [hwz]; exact BlkT.new w2x _ _ rfl
             have hbT : w.heap.size + 2 ≤ w2x.heap.size := hwo
             clear hwo
             generalize w2x.heap.size = gT at hT hbT dTW dDT ⊢
             clear hHeld hbA hwz
             have hHeld := hHa
             clear hHa
             rotate_left 1
             exact AllReadyH.nil)
          | (refine wpAnyH_ready (rs := [0, 4]) (by kernel_rfl) (by simp) ?_
             refine AllReadyH.cons (i := 0) (o := ?_) ?_ (fun K9 hK9 => ?_) ?_
             rotate_left 1
             · simp only [List.getElem?_toArray, List.getElem?_cons_zero]; rfl
             go_simp
             clear hHeld
             refine hK9.out _ _ ⟨keep_cell ((Below.refl w2x.heap.size w2x).alloc (Nat.le_refl _) _) hx0, keep_cell ((Below.refl w2x.heap.size w2x).alloc (Nat.le_refl _) _) hx1, keep_below_alloc hw _⟩ (fun hHeld => ?_)
             clear hK9 K9
             (try simp only [Act.put, List.setIfInBounds_toArray, List.set_cons_zero, List.set_cons_succ])
             refine wpAnyH_name hHeld (fun w3x hHa hwz => ?_)
             have hbA : Below w2x.heap.size w2x w3x := by rw [hwz]; exact (Below.refl w2x.heap.size w2x).alloc (Nat.le_refl _) _
             have hwo : w.heap.size + 2 ≤ w2x.heap.size := hRs.lt
             have dPW : w2x.heap.size ≠ gW := by have := (show gW < w2x.heap.size from (hownW.lt gW rfl).2); omega
             have dPT : w2x.heap.size ≠ gT := by have := hT.lt; omega
             replace hx0 := keep_cell hbA hx0
             replace hx1 := keep_cell hbA hx1
             replace hRs := hRs.below hbA
             replace hownW := own_below hownW hbA
             replace hT := hT.below hbA
             replace hw := keep_below hbA hw
             have hownP : w3x.ownsRow (w.heap.size + 2) 3 1 (.slice (some ⟨w2x.heap.size, 0, none⟩) 0 0) 0 (i64s []) := by rw [hwz]; exact own_empty w2x (w.heap.size + 2) w2x.heap.size rfl hwo
             have hbP : w.heap.size + 2 ≤ w2x.heap.size := hwo
             clear hwo
             generalize w2x.heap.size = gP at hownP hbP dPW dPT ⊢
             clear hHeld hbA hwz
             have hHeld := hHa
             clear hHa
             refine wpAnyH_take (i := 2) (oi := ?_) (v := ?_) ?_ (by kernel_rfl) (by kernel_rfl) (by kernel_rfl) ?_ (Or.inl ⟨?_, ?_⟩) (by assumption) ?_
             rotate_left 2
             · simp only [List.getElem?_toArray, List.getElem?_cons_zero, List.getElem?_cons_succ]; rfl
             · exact fun _ _ _ h => h
             · rfl
             · intro wq hSw
               obtain ⟨hx0, hx1, hw⟩ := hSw
               go_simp
               (try with_reducible rfl)
             (try simp only [Act.put, List.setIfInBounds_toArray, List.set_cons_zero, List.set_cons_succ])
             rotate_left 1
             refine AllReadyH.cons (i := 4) (o := ?_) ?_ (fun K9 hK9 => ?_) ?_
             rotate_left 1
             · simp only [List.getElem?_toArray, List.getElem?_cons_zero, List.getElem?_cons_succ]; rfl
             go_simp
             refine (HDp.out _ (h.below hw)).mono ?_
             rintro e1 w3x ⟨AD, cD, rfl, hoD, hb⟩
             obtain ⟨gD, rfl, hgD, hrD⟩ := hoD.pos HDL1.out
             clear hoD
             have dDW : gD ≠ gW := by have := (show gW < w2x.heap.size from (hownW.lt gW rfl).2); omega
             have dDT : gD ≠ gT := by have := hT.lt; omega
             have hbD : w.heap.size + 2 ≤ gD := Nat.le_trans hRs.lt hgD
             replace hx0 := keep_cell hb hx0
             replace hx1 := keep_cell hb hx1
             replace hRs := hRs.below hb
             replace hownW := own_below hownW hb
             replace hT := hT.below hb
             replace hw := keep_below hb hw
             clear hHeld
             go_wp2_with fail
             refine hK9.out _ _ ⟨hx0, hx1, hw⟩ (fun hHeld => ?_)
             clear hK9 K9 hb
             (try simp only [Act.put, List.setIfInBounds_toArray, List.set_cons_zero, List.set_cons_succ])
             rotate_left 1
             exact AllReadyH.nil)
          | (refine wpAnyH_ready (rs := [0, 1, 7]) (by kernel_rfl) (by simp) ?_
             refine AllReadyH.cons (i := 0) (o := ?_) ?_ (fun K9 hK9 => ?_) ?_
             rotate_left 1
             · simp only [List.getElem?_toArray, List.getElem?_cons_zero]; rfl
             go_simp
             clear hHeld
             refine hK9.out _ _ ⟨keep_cell ((Below.refl w2x.heap.size w2x).alloc (Nat.le_refl _) _) hx0, keep_cell ((Below.refl w2x.heap.size w2x).alloc (Nat.le_refl _) _) hx1, keep_below_alloc hw _⟩ (fun hHeld => ?_)
             clear hK9 K9
             (try simp only [Act.put, List.setIfInBounds_toArray, List.set_cons_zero, List.set_cons_succ])
             refine wpAnyH_name hHeld (fun w3x hHa hwz => ?_)
             have hbA : Below w2x.heap.size w2x w3x := by rw [hwz]; exact (Below.refl w2x.heap.size w2x).alloc (Nat.le_refl _) _
             have hwo : w.heap.size + 2 ≤ w2x.heap.size := hRs.lt
             have dDP : gD ≠ w2x.heap.size := by have := hrD.lt; omega
             have dPS : w2x.heap.size ≠ gS := by have := hrS.lt; omega
             replace hx0 := keep_cell hbA hx0
             replace hx1 := keep_cell hbA hx1
             replace hRs := hRs.below hbA
             replace hrD := hrD.below hbA
             replace hrS := hrS.below hbA
             replace hw := keep_below hbA hw
             have hownP : w3x.ownsRow (w.heap.size + 2) 3 1 (.slice (some ⟨w2x.heap.size, 0, none⟩) 0 0) 0 (i64s []) := by rw [hwz]; exact own_empty w2x (w.heap.size + 2) w2x.heap.size rfl hwo
             have hbP : w.heap.size + 2 ≤ w2x.heap.size := hwo
             clear hwo
             generalize w2x.heap.size = gP at hownP hbP dDP dPS ⊢
             clear hHeld hbA hwz
             have hHeld := hHa
             clear hHa
             rotate_left 1
             refine AllReadyH.cons (i := 1) (o := ?_) ?_ (fun K9 hK9 => ?_) ?_
             rotate_left 1
             · simp only [List.getElem?_toArray, List.getElem?_cons_zero, List.getElem?_cons_succ]; rfl
             go_simp
             clear hHeld
             refine hK9.out _ _ ⟨keep_cell ((Below.refl w2x.heap.size w2x).alloc (Nat.le_refl _) _) hx0, keep_cell ((Below.refl w2x.heap.size w2x).alloc (Nat.le_refl _) _) hx1, keep_below_alloc hw _⟩ (fun hHeld => ?_)
             clear hK9 K9
             (try simp only [Act.put, List.setIfInBounds_toArray, List.set_cons_zero, List.set_cons_succ])
             refine wpAnyH_name hHeld (fun w3x hHa hwz => ?_)
             have hbA : Below w2x.heap.size w2x w3x := by rw [hwz]; exact (Below.refl w2x.heap.size w2x).alloc (Nat.le_refl _) _
             have hwo : w.heap.size + 2 ≤ w2x.heap.size := hRs.lt
             have dDW : gD ≠ w2x.heap.size := by have := hrD.lt; omega
             have dSW : gS ≠ w2x.heap.size := by have := hrS.lt; omega
             replace hx0 := keep_cell hbA hx0
             replace hx1 := keep_cell hbA hx1
             replace hRs := hRs.below hbA
             replace hrD := hrD.below hbA
             replace hrS := hrS.below hbA
             replace hw := keep_below hbA hw
             have hownW : w3x.ownsRow (w.heap.size + 2) 3 1 (.slice (some ⟨w2x.heap.size, 0, none⟩) 0 0) 0 (i64s []) := by rw [hwz]; exact own_empty w2x (w.heap.size + 2) w2x.heap.size rfl hwo
             have hbW : w.heap.size + 2 ≤ w2x.heap.size := hwo
             clear hwo
             generalize w2x.heap.size = gW at hownW hbW dDW dSW ⊢
             clear hHeld hbA hwz
             have hHeld := hHa
             clear hHa
             rotate_left 1
             refine AllReadyH.cons (i := 7) (o := ?_) ?_ (fun K9 hK9 => ?_) ?_
             rotate_left 1
             · simp only [List.getElem?_toArray, List.getElem?_cons_zero, List.getElem?_cons_succ]; rfl
             go_simp
             clear hHeld
             refine hK9.out _ _ ⟨keep_cell ((Below.refl w2x.heap.size w2x).alloc (Nat.le_refl _) _) hx0, keep_cell ((Below.refl w2x.heap.size w2x).alloc (Nat.le_refl _) _) hx1, keep_below_alloc hw _⟩ (fun hHeld => ?_)
             clear hK9 K9
             (try simp only [Act.put, List.setIfInBounds_toArray, List.set_cons_zero, List.set_cons_succ])
             refine wpAnyH_name hHeld (fun w3x hHa hwz => ?_)
             have hbA : Below w2x.heap.size w2x w3x := by rw [hwz]; exact (Below.refl w2x.heap.size w2x).alloc (Nat.le_refl _) _
             have hwo : w.heap.size + 2 ≤ w2x.heap.size := hRs.lt
             have dDT : gD ≠ w2x.heap.size := by have := hrD.lt; omega
             have dST : gS ≠ w2x.heap.size := by have := hrS.lt; omega
             replace hx0 := keep_cell hbA hx0
             replace hx1 := keep_cell hbA hx1
             replace hRs := hRs.below hbA
             replace hrD := hrD.below hbA
             replace hrS := hrS.below hbA
             replace hw := keep_below hbA hw
             have hT : BlkT w3x w2x.heap.size (.slice none 0 0) (.slice none 0 0) := by rw [hwz]; exact BlkT.new w2x _ _ rfl
             have hbT : w.heap.size + 2 ≤ w2x.heap.size := hwo
             clear hwo
             generalize w2x.heap.size = gT at hT hbT dDT dST ⊢
             clear hHeld hbA hwz
             have hHeld := hHa
             clear hHa
             rotate_left 1
             exact AllReadyH.nil)
          | (refine wpAnyH_ready (rs := [0, 1, 6]) (by kernel_rfl) (by simp) ?_
             refine AllReadyH.cons (i := 0) (o := ?_) ?_ (fun K9 hK9 => ?_) ?_
             rotate_left 1
             · simp only [List.getElem?_toArray, List.getElem?_cons_zero]; rfl
             go_simp
             clear hHeld
             refine hK9.out _ _ ⟨keep_cell ((Below.refl w2x.heap.size w2x).alloc (Nat.le_refl _) _) hx0, keep_cell ((Below.refl w2x.heap.size w2x).alloc (Nat.le_refl _) _) hx1, keep_below_alloc hw _⟩ (fun hHeld => ?_)
             clear hK9 K9
             (try simp only [Act.put, List.setIfInBounds_toArray, List.set_cons_zero, List.set_cons_succ])
             refine wpAnyH_name hHeld (fun w3x hHa hwz => ?_)
             have hbA : Below w2x.heap.size w2x w3x := by rw [hwz]; exact (Below.refl w2x.heap.size w2x).alloc (Nat.le_refl _) _
             have hwo : w.heap.size + 2 ≤ w2x.heap.size := hRs.lt
             have dDP : gD ≠ w2x.heap.size := by have := hrD.lt; omega
             have dPT : w2x.heap.size ≠ gT := by have := hT.lt; omega
             replace hx0 := keep_cell hbA hx0
             replace hx1 := keep_cell hbA hx1
             replace hRs := hRs.below hbA
             replace hrD := hrD.below hbA
             replace hT := hT.below hbA
             replace hw := keep_below hbA hw
             have hownP : w3x.ownsRow (w.heap.size + 2) 3 1 (.slice (some ⟨w2x.heap.size, 0, none⟩) 0 0) 0 (i64s []) := by rw [hwz]; exact own_empty w2x (w.heap.size + 2) w2x.heap.size rfl hwo
             have hbP : w.heap.size + 2 ≤ w2x.heap.size := hwo
             clear hwo
             generalize w2x.heap.size = gP at hownP hbP dDP dPT ⊢
             clear hHeld hbA hwz
             have hHeld := hHa
             clear hHa
             rotate_left 1
             refine AllReadyH.cons (i := 1) (o := ?_) ?_ (fun K9 hK9 => ?_) ?_
             rotate_left 1
             · simp only [List.getElem?_toArray, List.getElem?_cons_zero, List.getElem?_cons_succ]; rfl
             go_simp
             clear hHeld
             refine hK9.out _ _ ⟨keep_cell ((Below.refl w2x.heap.size w2x).alloc (Nat.le_refl _) _) hx0, keep_cell ((Below.refl w2x.heap.size w2x).alloc (Nat.le_refl _) _) hx1, keep_below_alloc hw _⟩ (fun hHeld => ?_)
             clear hK9 K9
             (try simp only [Act.put, List.setIfInBounds_toArray, List.set_cons_zero, List.set_cons_succ])
             refine wpAnyH_name hHeld (fun w3x hHa hwz => ?_)
             have hbA : Below w2x.heap.size w2x w3x := by rw [hwz]; exact (Below.refl w2x.heap.size w2x).alloc (Nat.le_refl _) _
             have hwo : w.heap.size + 2 ≤ w2x.heap.size := hRs.lt
             have dDW : gD ≠ w2x.heap.size := by have := hrD.lt; omega
             have dTW : gT ≠ w2x.heap.size := by have := hT.lt; omega
             replace hx0 := keep_cell hbA hx0
             replace hx1 := keep_cell hbA hx1
             replace hRs := hRs.below hbA
             replace hrD := hrD.below hbA
             replace hT := hT.below hbA
             replace hw := keep_below hbA hw
             have hownW : w3x.ownsRow (w.heap.size + 2) 3 1 (.slice (some ⟨w2x.heap.size, 0, none⟩) 0 0) 0 (i64s []) := by rw [hwz]; exact own_empty w2x (w.heap.size + 2) w2x.heap.size rfl hwo
             have hbW : w.heap.size + 2 ≤ w2x.heap.size := hwo
             clear hwo
             generalize w2x.heap.size = gW at hownW hbW dDW dTW ⊢
             clear hHeld hbA hwz
             have hHeld := hHa
             clear hHa
             rotate_left 1
             refine AllReadyH.cons (i := 6) (o := ?_) ?_ (fun K9 hK9 => ?_) ?_
             rotate_left 1
             · simp only [List.getElem?_toArray, List.getElem?_cons_zero, List.getElem?_cons_succ]; rfl
             go_simp
             refine (HSu.out _ (h.below hw) (k.below hw)).mono ?_
             rintro e1 w3x ⟨AS, cS, rfl, hoS, hb⟩
             obtain ⟨gS, rfl, hgS, hrS⟩ := hoS.pos HSL1.out
             clear hoS
             have dDS : gD ≠ gS := by have := hrD.lt; omega
             have dST : gS ≠ gT := by have := hT.lt; omega
             have hbS : w.heap.size + 2 ≤ gS := Nat.le_trans hRs.lt hgS
             replace hx0 := keep_cell hb hx0
             replace hx1 := keep_cell hb hx1
             replace hRs := hRs.below hb
             replace hrD := hrD.below hb
             replace hT := hT.below hb
             replace hw := keep_below hb hw
             clear hHeld
             go_wp2_with fail
             refine hK9.out _ _ ⟨hx0, hx1, hw⟩ (fun hHeld => ?_)
             clear hK9 K9 hb
             (try simp only [Act.put, List.setIfInBounds_toArray, List.set_cons_zero, List.set_cons_succ])
             rotate_left 1
             exact AllReadyH.nil)
        all_goals
          first
          | (refine wpAnyH_ready (rs := [6, 7]) (by kernel_rfl) (by simp) ?_
             refine AllReadyH.cons (i := 6) (o := ?_) ?_ (fun K9 hK9 => ?_) ?_
             rotate_left 1
             · simp only [List.getElem?_toArray, List.getElem?_cons_zero, List.getElem?_cons_succ]; rfl
             go_simp
             refine (HSu.out _ (h.below hw) (k.below hw)).mono ?_
             rintro e1 w4x ⟨AS, cS, rfl, hoS, hb⟩
             obtain ⟨gS, rfl, hgS, hrS⟩ := hoS.pos HSL1.out
             clear hoS
             have dPS : gP ≠ gS := by have := (show gP < w3x.heap.size from (hownP.lt gP rfl).2); omega
             have dSW : gS ≠ gW := by have := (show gW < w3x.heap.size from (hownW.lt gW rfl).2); omega
             have dDS : gD ≠ gS := by have := hrD.lt; omega
             have hbS : w.heap.size + 2 ≤ gS := Nat.le_trans hRs.lt hgS
             replace hx0 := keep_cell hb hx0
             replace hx1 := keep_cell hb hx1
             replace hRs := hRs.below hb
             replace hownP := own_below hownP hb
             replace hownW := own_below hownW hb
             replace hrD := hrD.below hb
             replace hw := keep_below hb hw
             clear hHeld
             go_wp2_with fail
             refine hK9.out _ _ ⟨hx0, hx1, hw⟩ (fun hHeld => ?_)
             clear hK9 K9 hb
             (try simp only [Act.put, List.setIfInBounds_toArray, List.set_cons_zero, List.set_cons_succ])
             rotate_left 1
             refine AllReadyH.cons (i := 7) (o := ?_) ?_ (fun K9 hK9 => ?_) ?_
             rotate_left 1
             · simp only [List.getElem?_toArray, List.getElem?_cons_zero, List.getElem?_cons_succ]; rfl
             go_simp
             clear hHeld
             refine hK9.out _ _ ⟨keep_cell ((Below.refl w3x.heap.size w3x).alloc (Nat.le_refl _) _) hx0, keep_cell ((Below.refl w3x.heap.size w3x).alloc (Nat.le_refl _) _) hx1, keep_below_alloc hw _⟩ (fun hHeld => ?_)
             clear hK9 K9
             (try simp only [Act.put, List.setIfInBounds_toArray, List.set_cons_zero, List.set_cons_succ])
             refine wpAnyH_name hHeld (fun w4x hHa hwz => ?_)
             have hbA : Below w3x.heap.size w3x w4x := by rw [hwz]; exact (Below.refl w3x.heap.size w3x).alloc (Nat.le_refl _) _
             have hwo : w.heap.size + 2 ≤ w3x.heap.size := hRs.lt
             have dPT : gP ≠ w3x.heap.size := by have := (show gP < w3x.heap.size from (hownP.lt gP rfl).2); omega
             have dTW : w3x.heap.size ≠ gW := by have := (show gW < w3x.heap.size from (hownW.lt gW rfl).2); omega
             have dDT : gD ≠ w3x.heap.size := by have := hrD.lt; omega
             replace hx0 := keep_cell hbA hx0
             replace hx1 := keep_cell hbA hx1
             replace hRs := hRs.below hbA
             replace hownP := own_below hownP hbA
             replace hownW := own_below hownW hbA
             replace hrD := hrD.below hbA
             replace hw := keep_below hbA hw
             have hT : BlkT w4x w3x.heap.size (.slice none 0 0) (.slice none 0 0) := by rw [hwz]; exact BlkT.new w3x _ _ rfl
             have hbT : w.heap.size + 2 ≤ w3x.heap.size := hwo
             clear hwo
             generalize w3x.heap.size = gT at hT hbT dPT dTW dDT ⊢
             clear hHeld hbA hwz
             have hHeld := hHa
             clear hHa
             rotate_left 1
             exact AllReadyH.nil)
          | (refine wpAnyH_ready (rs := [4]) (by kernel_rfl) (by simp) ?_
             refine AllReadyH.cons (i := 4) (o := ?_) ?_ (fun K9 hK9 => ?_) ?_
             rotate_left 1
             · simp only [List.getElem?_toArray, List.getElem?_cons_zero, List.getElem?_cons_succ]; rfl
             go_simp
             refine (HDp.out _ (h.below hw)).mono ?_
             rintro e1 w4x ⟨AD, cD, rfl, hoD, hb⟩
             obtain ⟨gD, rfl, hgD, hrD⟩ := hoD.pos HDL1.out
             clear hoD
             have dDP : gD ≠ gP := by have := (show gP < w3x.heap.size from (hownP.lt gP rfl).2); omega
             have dDW : gD ≠ gW := by have := (show gW < w3x.heap.size from (hownW.lt gW rfl).2); omega
             have dDT : gD ≠ gT := by have := hT.lt; omega
             have hbD : w.heap.size + 2 ≤ gD := Nat.le_trans hRs.lt hgD
             replace hx0 := keep_cell hb hx0
             replace hx1 := keep_cell hb hx1
             replace hRs := hRs.below hb
             replace hownP := own_below hownP hb
             replace hownW := own_below hownW hb
             replace hT := hT.below hb
             replace hw := keep_below hb hw
             clear hHeld
             go_wp2_with fail
             refine hK9.out _ _ ⟨hx0, hx1, hw⟩ (fun hHeld => ?_)
             clear hK9 K9 hb
             (try simp only [Act.put, List.setIfInBounds_toArray, List.set_cons_zero, List.set_cons_succ])
             rotate_left 1
             exact AllReadyH.nil)
          | (refine wpAnyH_ready (rs := [1, 7]) (by kernel_rfl) (by simp) ?_
             refine AllReadyH.cons (i := 1) (o := ?_) ?_ (fun K9 hK9 => ?_) ?_
             rotate_left 1
             · simp only [List.getElem?_toArray, List.getElem?_cons_zero, List.getElem?_cons_succ]; rfl
             go_simp
             clear hHeld
             refine hK9.out _ _ ⟨keep_cell ((Below.refl w3x.heap.size w3x).alloc (Nat.le_refl _) _) hx0, keep_cell ((Below.refl w3x.heap.size w3x).alloc (Nat.le_refl _) _) hx1, keep_below_alloc hw _⟩ (fun hHeld => ?_)
             clear hK9 K9
             (try simp only [Act.put, List.setIfInBounds_toArray, List.set_cons_zero, List.set_cons_succ])
             refine wpAnyH_name hHeld (fun w4x hHa hwz => ?_)
             have hbA : Below w3x.heap.size w3x w4x := by rw [hwz]; exact (Below.refl w3x.heap.size w3x).alloc (Nat.le_refl _) _
             have hwo : w.heap.size + 2 ≤ w3x.heap.size := hRs.lt
             have dPW : gP ≠ w3x.heap.size := by have := (show gP < w3x.heap.size from (hownP.lt gP rfl).2); omega
             have dDW : gD ≠ w3x.heap.size := by have := hrD.lt; omega
             have dSW : gS ≠ w3x.heap.size := by have := hrS.lt; omega
             replace hx0 := keep_cell hbA hx0
             replace hx1 := keep_cell hbA hx1
             replace hRs := hRs.below hbA
             replace hownP := own_below hownP hbA
             replace hrD := hrD.below hbA
             replace hrS := hrS.below hbA
             replace hw := keep_below hbA hw
             have hownW : w4x.ownsRow (w.heap.size + 2) 3 1 (.slice (some ⟨w3x.heap.size, 0, none⟩) 0 0) 0 (i64s []) := by rw [hwz]; exact own_empty w3x (w.heap.size + 2) w3x.heap.size rfl hwo
             have hbW : w.heap.size + 2 ≤ w3x.heap.size := hwo
             clear hwo
             generalize w3x.heap.size = gW at hownW hbW dPW dDW dSW ⊢
             clear hHeld hbA hwz
             have hHeld := hHa
             clear hHa
             refine wpAnyH_take (i := 2) (oi := ?_) (v := ?_) ?_ (by kernel_rfl) (by kernel_rfl) (by kernel_rfl) ?_ (Or.inl ⟨?_, ?_⟩) (by assumption) ?_
             rotate_left 2
             · simp only [List.getElem?_toArray, List.getElem?_cons_zero, List.getElem?_cons_succ]; rfl
             · exact fun _ _ _ h => h
             · rfl
             · intro wq hSw
               obtain ⟨hx0, hx1, hw⟩ := hSw
               go_simp
               (try with_reducible rfl)
             (try simp only [Act.put, List.setIfInBounds_toArray, List.set_cons_zero, List.set_cons_succ])
             rotate_left 1
             refine AllReadyH.cons (i := 7) (o := ?_) ?_ (fun K9 hK9 => ?_) ?_
             rotate_left 1
             · simp only [List.getElem?_toArray, List.getElem?_cons_zero, List.getElem?_cons_succ]; rfl
             go_simp
             clear hHeld
             refine hK9.out _ _ ⟨keep_cell ((Below.refl w3x.heap.size w3x).alloc (Nat.le_refl _) _) hx0, keep_cell ((Below.refl w3x.heap.size w3x).alloc (Nat.le_refl _) _) hx1, keep_below_alloc hw _⟩ (fun hHeld => ?_)
             clear hK9 K9
             (try simp only [Act.put, List.setIfInBounds_toArray, List.set_cons_zero, List.set_cons_succ])
             refine wpAnyH_name hHeld (fun w4x hHa hwz => ?_)
             have hbA : Below w3x.heap.size w3x w4x := by rw [hwz]; exact (Below.refl w3x.heap.size w3x).alloc (Nat.le_refl _) _
             have hwo : w.heap.size + 2 ≤ w3x.heap.size := hRs.lt
             have dPT : gP ≠ w3x.heap.size := by have := (show gP < w3x.heap.size from (hownP.lt gP rfl).2); omega
             have dDT : gD ≠ w3x.heap.size := by have := hrD.lt; omega
             have dST : gS ≠ w3x.heap.size := by have := hrS.lt; omega
             replace hx0 := keep_cell hbA hx0
             replace hx1 := keep_cell hbA hx1
             replace hRs := hRs.below hbA
             replace hownP := own_below hownP hbA
             replace hrD := hrD.below hbA
             replace hrS := hrS.below hbA
             replace hw := keep_below hbA hw
             have hT : BlkT w4x w3x.heap.size (.slice none 0 0) (.slice none 0 0) := by rw [hwz]; exact BlkT.new w3x _ _ rfl
             have hbT : w.heap.size + 2 ≤ w3x.heap.size := hwo
             clear hwo
             generalize w3x.heap.size = gT at hT hbT dPT dDT dST ⊢
             clear hHeld hbA hwz
             have hHeld := hHa
             clear hHa
             rotate_left 1
             exact AllReadyH.nil)
          | (refine wpAnyH_ready (rs := [1, 6]) (by kernel_rfl) (by simp) ?_
             refine AllReadyH.cons (i := 1) (o := ?_) ?_ (fun K9 hK9 => ?_) ?_
             rotate_left 1
             · simp only [List.getElem?_toArray, List.getElem?_cons_zero, List.getElem?_cons_succ]; rfl
             go_simp
             clear hHeld
             refine hK9.out _ _ ⟨keep_cell ((Below.refl w3x.heap.size w3x).alloc (Nat.le_refl _) _) hx0, keep_cell ((Below.refl w3x.heap.size w3x).alloc (Nat.le_refl _) _) hx1, keep_below_alloc hw _⟩ (fun hHeld => ?_)
             clear hK9 K9
             (try simp only [Act.put, List.setIfInBounds_toArray, List.set_cons_zero, List.set_cons_succ])
             refine wpAnyH_name hHeld (fun w4x hHa hwz => ?_)
             have hbA : Below w3x.heap.size w3x w4x := by rw [hwz]; exact (Below.refl w3x.heap.size w3x).alloc (Nat.le_refl _) _
             have hwo : w.heap.size + 2 ≤ w3x.heap.size := hRs.lt
             have dPW : gP ≠ w3x.heap.size := by have := (show gP < w3x.heap.size from (hownP.lt gP rfl).2); omega
             have dDW : gD ≠ w3x.heap.size := by have := hrD.lt; omega
             have dTW : gT ≠ w3x.heap.size := by have := hT.lt; omega
             replace hx0 := keep_cell hbA hx0
             replace hx1 := keep_cell hbA hx1
             replace hRs := hRs.below hbA
             replace hownP := own_below hownP hbA
             replace hrD := hrD.below hbA
             replace hT := hT.below hbA
             replace hw := keep_below hbA hw
             have hownW : w4x.ownsRow (w.heap.size + 2) 3 1 (.slice (some ⟨w3x.heap.size, 0, none⟩) 0 0) 0 (i64s []) := by rw [hwz]; exact own_empty w3x (w.heap.size + 2) w3x.heap.size rfl hwo
             have hbW : w.heap.size + 2 ≤ w3x.heap.size := hwo
             clear hwo
             generalize w3x.heap.size = gW at hownW hbW dPW dDW dTW ⊢
             clear hHeld hbA hwz
             have hHeld := hHa
             clear hHa
             refine wpAnyH_take (i := 2) (oi := ?_) (v := ?_) ?_ (by kernel_rfl) (by kernel_rfl) (by kernel_rfl) ?_ (Or.inl ⟨?_, ?_⟩) (by assumption) ?_
             rotate_left 2
             · simp only [List.getElem?_toArray, List.getElem?_cons_zero, List.getElem?_cons_succ]; rfl
             · exact fun _ _ _ h => h
             · rfl
             · intro wq hSw
               obtain ⟨hx0, hx1, hw⟩ := hSw
               go_simp
               (try with_reducible rfl)
             (try simp only [Act.put, List.setIfInBounds_toArray, List.set_cons_zero, List.set_cons_succ])
             rotate_left 1
             refine AllReadyH.cons (i := 6) (o := ?_) ?_ (fun K9 hK9 => ?_) ?_
             rotate_left 1
             · simp only [List.getElem?_toArray, List.getElem?_cons_zero, List.getElem?_cons_succ]; rfl
             go_simp
             refine (HSu.out _ (h.below hw) (k.below hw)).mono ?_
             rintro e1 w4x ⟨AS, cS, rfl, hoS, hb⟩
             obtain ⟨gS, rfl, hgS, hrS⟩ := hoS.pos HSL1.out
             clear hoS
             have dPS : gP ≠ gS := by have := (show gP < w3x.heap.size from (hownP.lt gP rfl).2); omega
             have dDS : gD ≠ gS := by have := hrD.lt; omega
             have dST : gS ≠ gT := by have := hT.lt; omega
             have hbS : w.heap.size + 2 ≤ gS := Nat.le_trans hRs.lt hgS
             replace hx0 := keep_cell hb hx0
             replace hx1 := keep_cell hb hx1
             replace hRs := hRs.below hb
             replace hownP := own_below hownP hb
             replace hrD := hrD.below hb
             replace hT := hT.below hb
             replace hw := keep_below hb hw
             clear hHeld
             go_wp2_with fail
             refine hK9.out _ _ ⟨hx0, hx1, hw⟩ (fun hHeld => ?_)
             clear hK9 K9 hb
             (try simp only [Act.put, List.setIfInBounds_toArray, List.set_cons_zero, List.set_cons_succ])
             rotate_left 1
             exact AllReadyH.nil)
          | (refine wpAnyH_ready (rs := [0, 7]) (by kernel_rfl) (by simp) ?_
             refine AllReadyH.cons (i := 0) (o := ?_) ?_ (fun K9 hK9 => ?_) ?_
             rotate_left 1
             · simp only [List.getElem?_toArray, List.getElem?_cons_zero]; rfl
             go_simp
             clear hHeld
             refine hK9.out _ _ ⟨keep_cell ((Below.refl w3x.heap.size w3x).alloc (Nat.le_refl _) _) hx0, keep_cell ((Below.refl w3x.heap.size w3x).alloc (Nat.le_refl _) _) hx1, keep_below_alloc hw _⟩ (fun hHeld => ?_)
             clear hK9 K9
             (try simp only [Act.put, List.setIfInBounds_toArray, List.set_cons_zero, List.set_cons_succ])
             refine wpAnyH_name hHeld (fun w4x hHa hwz => ?_)
             have hbA : Below w3x.heap.size w3x w4x := by rw [hwz]; exact (Below.refl w3x.heap.size w3x).alloc (Nat.le_refl _) _
             have hwo : w.heap.size + 2 ≤ w3x.heap.size := hRs.lt
             have dPW : w3x.heap.size ≠ gW := by have := (show gW < w3x.heap.size from (hownW.lt gW rfl).2); omega
             have dDP : gD ≠ w3x.heap.size := by have := hrD.lt; omega
             have dPS : w3x.heap.size ≠ gS := by have := hrS.lt; omega
             replace hx0 := keep_cell hbA hx0
             replace hx1 := keep_cell hbA hx1
             replace hRs := hRs.below hbA
             replace hownW := own_below hownW hbA
             replace hrD := hrD.below hbA
             replace hrS := hrS.below hbA
             replace hw := keep_below hbA hw
             have hownP : w4x.ownsRow (w.heap.size + 2) 3 1 (.slice (some ⟨w3x.heap.size, 0, none⟩) 0 0) 0 (i64s []) := by rw [hwz]; exact own_empty w3x (w.heap.size + 2) w3x.heap.size rfl hwo
             have hbP : w.heap.size + 2 ≤ w3x.heap.size := hwo
             clear hwo
             generalize w3x.heap.size = gP at hownP hbP dPW dDP dPS ⊢
             clear hHeld hbA hwz
             have hHeld := hHa
             clear hHa
             refine wpAnyH_take (i := 2) (oi := ?_) (v := ?_) ?_ (by kernel_rfl) (by kernel_rfl) (by kernel_rfl) ?_ (Or.inl ⟨?_, ?_⟩) (by assumption) ?_
             rotate_left 2
             · simp only [List.getElem?_toArray, List.getElem?_cons_zero, List.getElem?_cons_succ]; rfl
             · exact fun _ _ _ h => h
             · rfl
             · intro wq hSw
               obtain ⟨hx0, hx1, hw⟩ := hSw
               go_simp
               (try with_reducible rfl)
             (try simp only [Act.put, List.setIfInBounds_toArray, List.set_cons_zero, List.set_cons_succ])
             rotate_left 1
             refine AllReadyH.cons (i := 7) (o := ?_) ?_ (fun K9 hK9 => ?_) ?_
             rotate_left 1
             · simp only [List.getElem?_toArray, List.getElem?_cons_zero, List.getElem?_cons_succ]; rfl
             go_simp
             clear hHeld
             refine hK9.out _ _ ⟨keep_cell ((Below.refl w3x.heap.size w3x).alloc (Nat.le_refl _) _) hx0, keep_cell ((Below.refl w3x.heap.size w3x).alloc (Nat.le_refl _) _) hx1, keep_below_alloc hw _⟩ (fun hHeld => ?_)
             clear hK9 K9
             (try simp only [Act.put, List.setIfInBounds_toArray, List.set_cons_zero, List.set_cons_succ])
             refine wpAnyH_name hHeld (fun w4x hHa hwz => ?_)
             have hbA : Below w3x.heap.size w3x w4x := by rw [hwz]; exact (Below.refl w3x.heap.size w3x).alloc (Nat.le_refl _) _
             have hwo : w.heap.size + 2 ≤ w3x.heap.size := hRs.lt
             have dTW : w3x.heap.size ≠ gW := by have := (show gW < w3x.heap.size from (hownW.lt gW rfl).2); omega
             have dDT : gD ≠ w3x.heap.size := by have := hrD.lt; omega
             have dST : gS ≠ w3x.heap.size := by have := hrS.lt; omega
             replace hx0 := keep_cell hbA hx0
             replace hx1 := keep_cell hbA hx1
             replace hRs := hRs.below hbA
             replace hownW := own_below hownW hbA
             replace hrD := hrD.below hbA
             replace hrS := hrS.below hbA
             replace hw := keep_below hbA hw
             have hT : BlkT w4x w3x.heap.size (.slice none 0 0) (.slice none 0 0) := by rw [hwz]; exact BlkT.new w3x _ _ rfl
             have hbT : w.heap.size + 2 ≤ w3x.heap.size := hwo
             clear hwo
             generalize w3x.heap.size = gT at hT hbT dTW dDT dST ⊢
             clear hHeld hbA hwz
             have hHeld := hHa
             clear hHa
             rotate_left 1
             exact AllReadyH.nil)
          | (refine wpAnyH_ready (rs := [0, 6]) (by kernel_rfl) (by simp) ?_
             refine AllReadyH.cons (i := 0) (o := ?_) ?_ (fun K9 hK9 => ?_) ?_
             rotate_left 1
             · simp only [List.getElem?_toArray, List.getElem?_cons_zero]; rfl
             go_simp
             clear hHeld
             refine hK9.out _ _ ⟨keep_cell ((Below.refl w3x.heap.size w3x).alloc (Nat.le_refl _) _) hx0, keep_cell ((Below.refl w3x.heap.size w3x).alloc (Nat.le_refl _) _) hx1, keep_below_alloc hw _⟩ (fun hHeld => ?_)
             clear hK9 K9
             (try simp only [Act.put, List.setIfInBounds_toArray, List.set_cons_zero, List.set_cons_succ])
             refine wpAnyH_name hHeld (fun w4x hHa hwz => ?_)
             have hbA : Below w3x.heap.size w3x w4x := by rw [hwz]; exact (Below.refl w3x.heap.size w3x).alloc (Nat.le_refl _) _
             have hwo : w.heap.size + 2 ≤ w3x.heap.size := hRs.lt
             have dPW : w3x.heap.size ≠ gW := by have := (show gW < w3x.heap.size from (hownW.lt gW rfl).2); omega
             have dDP : gD ≠ w3x.heap.size := by have := hrD.lt; omega
             have dPT : w3x.heap.size ≠ gT := by have := hT.lt; omega
             replace hx0 := keep_cell hbA hx0
             replace hx1 := keep_cell hbA hx1
             replace hRs := hRs.below hbA
             replace hownW := own_below hownW hbA
             replace hrD := hrD.below hbA
             replace hT := hT.below hbA
             replace hw := keep_below hbA hw
             have hownP : w4x.ownsRow (w.heap.size + 2) 3 1 (.slice (some ⟨w3x.heap.size, 0, none⟩) 0 0) 0 (i64s []) := by rw [hwz]; exact own_empty w3x (w.heap.size + 2) w3x.heap.size rfl hwo
             have hbP : w.heap.size + 2 ≤ w3x.heap.size := hwo
             clear hwo
             generalize w3x.heap.size = gP at hownP hbP dPW dDP dPT ⊢
             clear hHeld hbA hwz
             have hHeld := hHa
             clear hHa
             refine wpAnyH_take (i := 2) (oi := ?_) (v := ?_) ?_ (by kernel_rfl) (by kernel_rfl) (by kernel_rfl) ?_ (Or.inl ⟨?_, ?_⟩) (by assumption) ?_
             rotate_left 2
             · simp only [List.getElem?_toArray, List.getElem?_cons_zero, List.getElem?_cons_succ]; rfl
             · exact fun _ _ _ h => h
             · rfl
             · intro wq hSw
               obtain ⟨hx0, hx1, hw⟩ := hSw
               go_simp
               (try with_reducible rfl)
             (try simp only [Act.put, List.setIfInBounds_toArray, List.set_cons_zero, List.set_cons_succ])
             rotate_left 1
             refine AllReadyH.cons (i := 6) (o := ?_) ?_ (fun K9 hK9 => ?_) ?_
             rotate_left 1
             · simp only [List.getElem?_toArray, List.getElem?_cons_zero, List.getElem?_cons_succ]; rfl
             go_simp
             refine (HSu.out _ (h.below hw) (k.below hw)).mono ?_
             rintro e1 w4x ⟨AS, cS, rfl, hoS, hb⟩
             obtain ⟨gS, rfl, hgS, hrS⟩ := hoS.pos HSL1.out
             clear hoS
             have dSW : gS ≠ gW := by have := (show gW < w3x.heap.size from (hownW.lt gW rfl).2); omega
             have dDS : gD ≠ gS := by have := hrD.lt; omega
             have dST : gS ≠ gT := by have := hT.lt; omega
             have hbS : w.heap.size + 2 ≤ gS := Nat.le_trans hRs.lt hgS
             replace hx0 := keep_cell hb hx0
             replace hx1 := keep_cell hb hx1
             replace hRs := hRs.below hb
             replace hownW := own_below hownW hb
             replace hrD := hrD.below hb
             replace hT := hT.below hb
             replace hw := keep_below hb hw
             clear hHeld
             go_wp2_with fail
             refine hK9.out _ _ ⟨hx0, hx1, hw⟩ (fun hHeld => ?_)
             clear hK9 K9 hb
             (try simp only [Act.put, List.setIfInBounds_toArray, List.set_cons_zero, List.set_cons_succ])
             rotate_left 1
             exact AllReadyH.nil)
          | (refine wpAnyH_ready (rs := [0, 1]) (by kernel_rfl) (by simp) ?_
             refine AllReadyH.cons (i := 0) (o := ?_) ?_ (fun K9 hK9 => ?_) ?_
             rotate_left 1
             · simp only [List.getElem?_toArray, List.getElem?_cons_zero]; rfl
             go_simp
             clear hHeld
             refine hK9.out _ _ ⟨keep_cell ((Below.refl w3x.heap.size w3x).alloc (Nat.le_refl _) _) hx0, keep_cell ((Below.refl w3x.heap.size w3x).alloc (Nat.le_refl _) _) hx1, keep_below_alloc hw _⟩ (fun hHeld => ?_)
             clear hK9 K9
             (try simp only [Act.put, List.setIfInBounds_toArray, List.set_cons_zero, List.set_cons_succ])
             refine wpAnyH_name hHeld (fun w4x hHa hwz => ?_)
             have hbA : Below w3x.heap.size w3x w4x := by rw [hwz]; exact (Below.refl w3x.heap.size w3x).alloc (Nat.le_refl _) _
             have hwo : w.heap.size + 2 ≤ w3x.heap.size := hRs.lt
             have dDP : gD ≠ w3x.heap.size := by have := hrD.lt; omega
             have dPS : w3x.heap.size ≠ gS := by have := hrS.lt; omega
             have dPT : w3x.heap.size ≠ gT := by have := hT.lt; omega
             replace hx0 := keep_cell hbA hx0
             replace hx1 := keep_cell hbA hx1
             replace hRs := hRs.below hbA
             replace hrD := hrD.below hbA
             replace hrS := hrS.below hbA
             replace hT := hT.below hbA
             replace hw := keep_below hbA hw
             have hownP : w4x.ownsRow (w.heap.size + 2) 3 1 (.slice (some ⟨w3x.heap.size, 0, none⟩) 0 0) 0 (i64s []) := by rw [hwz]; exact own_empty w3x (w.heap.size + 2) w3x.heap.size rfl hwo
             have hbP : w.heap.size + 2 ≤ w3x.heap.size := hwo
             clear hwo
             generalize w3x.heap.size = gP at hownP hbP dDP dPS dPT ⊢
             clear hHeld hbA hwz
             have hHeld := hHa
             clear hHa
             rotate_left 1
             refine AllReadyH.cons (i := 1) (o := ?_) ?_ (fun K9 hK9 => ?_) ?_
             rotate_left 1
             · simp only [List.getElem?_toArray, List.getElem?_cons_zero, List.getElem?_cons_succ]; rfl
             go_simp
             clear hHeld
             refine hK9.out _ _ ⟨keep_cell ((Below.refl w3x.heap.size w3x).alloc (Nat.le_refl _) _) hx0, keep_cell ((Below.refl w3x.heap.size w3x).alloc (Nat.le_refl _) _) hx1, keep_below_alloc hw _⟩ (fun hHeld => ?_)
             clear hK9 K9
             (try simp only [Act.put, List.setIfInBounds_toArray, List.set_cons_zero, List.set_cons_succ])
             refine wpAnyH_name hHeld (fun w4x hHa hwz => ?_)
             have hbA : Below w3x.heap.size w3x w4x := by rw [hwz]; exact (Below.refl w3x.heap.size w3x).alloc (Nat.le_refl _) _
             have hwo : w.heap.size + 2 ≤ w3x.heap.size := hRs.lt
             have dDW : gD ≠ w3x.heap.size := by have := hrD.lt; omega
             have dSW : gS ≠ w3x.heap.size := by have := hrS.lt; omega
             have dTW : gT ≠ w3x.heap.size := by have := hT.lt; omega
             replace hx0 := keep_cell hbA hx0
             replace hx1 := keep_cell hbA hx1
             replace hRs := hRs.below hbA
             replace hrD := hrD.below hbA
             replace hrS := hrS.below hbA
             replace hT := hT.below hbA
             replace hw := keep_below hbA hw
             have hownW : w4x.ownsRow (w.heap.size + 2) 3 1 (.slice (some ⟨w3x.heap.size, 0, none⟩) 0 0) 0 (i64s []) := by rw [hwz]; exact own_empty w3x (w.heap.size + 2) w3x.heap.size rfl hwo
             have hbW : w.heap.size + 2 ≤ w3x.heap.size := hwo
             clear hwo
             generalize w3x.heap.size = gW at hownW hbW dDW dSW dTW ⊢
             clear hHeld hbA hwz
             have hHeld := hHa
             clear hHa
             rotate_left 1
             exact AllReadyH.nil)
        all_goals
          first
          | (refine wpAnyH_ready (rs := [7]) (by kernel_rfl) (by simp) ?_
             refine AllReadyH.cons (i := 7) (o := ?_) ?_ (fun K9 hK9 => ?_) ?_
             rotate_left 1
             · simp only [List.getElem?_toArray, List.getElem?_cons_zero, List.getElem?_cons_succ]; rfl
             go_simp
             clear hHeld
             refine hK9.out _ _ ⟨keep_cell ((Below.refl w4x.heap.size w4x).alloc (Nat.le_refl _) _) hx0, keep_cell ((Below.refl w4x.heap.size w4x).alloc (Nat.le_refl _) _) hx1, keep_below_alloc hw _⟩ (fun hHeld => ?_)
             clear hK9 K9
             (try simp only [Act.put, List.setIfInBounds_toArray, List.set_cons_zero, List.set_cons_succ])
             refine wpAnyH_name hHeld (fun w5x hHa hwz => ?_)
             have hbA : Below w4x.heap.size w4x w5x := by rw [hwz]; exact (Below.refl w4x.heap.size w4x).alloc (Nat.le_refl _) _
             have hwo : w.heap.size + 2 ≤ w4x.heap.size := hRs.lt
             have dPT : gP ≠ w4x.heap.size := by have := (show gP < w4x.heap.size from (hownP.lt gP rfl).2); omega
             have dTW : w4x.heap.size ≠ gW := by have := (show gW < w4x.heap.size from (hownW.lt gW rfl).2); omega
             have dDT : gD ≠ w4x.heap.size := by have := hrD.lt; omega
             have dST : gS ≠ w4x.heap.size := by have := hrS.lt; omega
             replace hx0 := keep_cell hbA hx0
             replace hx1 := keep_cell hbA hx1
             replace hRs := hRs.below hbA
             replace hownP := own_below hownP hbA
             replace hownW := own_below hownW hbA
             replace hrD := hrD.below hbA
             replace hrS := hrS.below hbA
             replace hw := keep_below hbA hw
             have hT : BlkT w5x w4x.heap.size (.slice none 0 0) (.slice none 0 0) := by rw [hwz]; exact BlkT.new w4x _ _ rfl
             have hbT : w.heap.size + 2 ≤ w4x.heap.size := hwo
             clear hwo
             generalize w4x.heap.size = gT at hT hbT dPT dTW dDT dST ⊢
             clear hHeld hbA hwz
             have hHeld := hHa
             clear hHa
             rotate_left 1
             exact AllReadyH.nil)
          | (refine wpAnyH_ready (rs := [6]) (by kernel_rfl) (by simp) ?_
             refine AllReadyH.cons (i := 6) (o := ?_) ?_ (fun K9 hK9 => ?_) ?_
             rotate_left 1
             · simp only [List.getElem?_toArray, List.getElem?_cons_zero, List.getElem?_cons_succ]; rfl
             go_simp
             refine (HSu.out _ (h.below hw) (k.below hw)).mono ?_
             rintro e1 w5x ⟨AS, cS, rfl, hoS, hb⟩
             obtain ⟨gS, rfl, hgS, hrS⟩ := hoS.pos HSL1.out
             clear hoS
             have dPS : gP ≠ gS := by have := (show gP < w4x.heap.size from (hownP.lt gP rfl).2); omega
             have dSW : gS ≠ gW := by have := (show gW < w4x.heap.size from (hownW.lt gW rfl).2); omega
             have dDS : gD ≠ gS := by have := hrD.lt; omega
             have dST : gS ≠ gT := by have := hT.lt; omega
             have hbS : w.heap.size + 2 ≤ gS := Nat.le_trans hRs.lt hgS
             replace hx0 := keep_cell hb hx0
             replace hx1 := keep_cell hb hx1
             replace hRs := hRs.below hb
             replace hownP := own_below hownP hb
             replace hownW := own_below hownW hb
             replace hrD := hrD.below hb
             replace hT := hT.below hb
             replace hw := keep_below hb hw
             clear hHeld
             go_wp2_with fail
             refine hK9.out _ _ ⟨hx0, hx1, hw⟩ (fun hHeld => ?_)
             clear hK9 K9 hb
             (try simp only [Act.put, List.setIfInBounds_toArray, List.set_cons_zero, List.set_cons_succ])
             rotate_left 1
             exact AllReadyH.nil)
          | (refine wpAnyH_ready (rs := [1]) (by kernel_rfl) (by simp) ?_
             refine AllReadyH.cons (i := 1) (o := ?_) ?_ (fun K9 hK9 => ?_) ?_
             rotate_left 1
             · simp only [List.getElem?_toArray, List.getElem?_cons_zero, List.getElem?_cons_succ]; rfl
             go_simp
             clear hHeld
             refine hK9.out _ _ ⟨keep_cell ((Below.refl w4x.heap.size w4x).alloc (Nat.le_refl _) _) hx0, keep_cell ((Below.refl w4x.heap.size w4x).alloc (Nat.le_refl _) _) hx1, keep_below_alloc hw _⟩ (fun hHeld => ?_)
             clear hK9 K9
             (try simp only [Act.put, List.setIfInBounds_toArray, List.set_cons_zero, List.set_cons_succ])
             refine wpAnyH_name hHeld (fun w5x hHa hwz => ?_)
             have hbA : Below w4x.heap.size w4x w5x := by rw [hwz]; exact (Below.refl w4x.heap.size w4x).alloc (Nat.le_refl _) _
             have hwo : w.heap.size + 2 ≤ w4x.heap.size := hRs.lt
             have dPW : gP ≠ w4x.heap.size := by have := (show gP < w4x.heap.size from (hownP.lt gP rfl).2); omega
             have dDW : gD ≠ w4x.heap.size := by have := hrD.lt; omega
             have dSW : gS ≠ w4x.heap.size := by have := hrS.lt; omega
             have dTW : gT ≠ w4x.heap.size := by have := hT.lt; omega
             replace hx0 := keep_cell hbA hx0
             replace hx1 := keep_cell hbA hx1
             replace hRs := hRs.below hbA
             replace hownP := own_below hownP hbA
             replace hrD := hrD.below hbA
             replace hrS := hrS.below hbA
             replace hT := hT.below hbA
             replace hw := keep_below hbA hw
             have hownW : w5x.ownsRow (w.heap.size + 2) 3 1 (.slice (some ⟨w4x.heap.size, 0, none⟩) 0 0) 0 (i64s []) := by rw [hwz]; exact own_empty w4x (w.heap.size + 2) w4x.heap.size rfl hwo
             have hbW : w.heap.size + 2 ≤ w4x.heap.size := hwo
             clear hwo
             generalize w4x.heap.size = gW at hownW hbW dPW dDW dSW dTW ⊢
             clear hHeld hbA hwz
             have hHeld := hHa
             clear hHa
             refine wpAnyH_take (i := 2) (oi := ?_) (v := ?_) ?_ (by kernel_rfl) (by kernel_rfl) (by kernel_rfl) ?_ (Or.inl ⟨?_, ?_⟩) (by assumption) ?_
             rotate_left 2
             · simp only [List.getElem?_toArray, List.getElem?_cons_zero, List.getElem?_cons_succ]; rfl
             · exact fun _ _ _ h => h
             · rfl
             · intro wq hSw
               obtain ⟨hx0, hx1, hw⟩ := hSw
               go_simp
               (try with_reducible rfl)
             (try simp only [Act.put, List.setIfInBounds_toArray, List.set_cons_zero, List.set_cons_succ])
             rotate_left 1
             exact AllReadyH.nil)
          | (refine wpAnyH_ready (rs := [0]) (by kernel_rfl) (by simp) ?_
             refine AllReadyH.cons (i := 0) (o := ?_) ?_ (fun K9 hK9 => ?_) ?_
             rotate_left 1
             · simp only [List.getElem?_toArray, List.getElem?_cons_zero]; rfl
             go_simp
             clear hHeld
             refine hK9.out _ _ ⟨keep_cell ((Below.refl w4x.heap.size w4x).alloc (Nat.le_refl _) _) hx0, keep_cell ((Below.refl w4x.heap.size w4x).alloc (Nat.le_refl _) _) hx1, keep_below_alloc hw _⟩ (fun hHeld => ?_)
             clear hK9 K9
             (try simp only [Act.put, List.setIfInBounds_toArray, List.set_cons_zero, List.set_cons_succ])
             refine wpAnyH_name hHeld (fun w5x hHa hwz => ?_)
             have hbA : Below w4x.heap.size w4x w5x := by rw [hwz]; exact (Below.refl w4x.heap.size w4x).alloc (Nat.le_refl _) _
             have hwo : w.heap.size + 2 ≤ w4x.heap.size := hRs.lt
             have dPW : w4x.heap.size ≠ gW := by have := (show gW < w4x.heap.size from (hownW.lt gW rfl).2); omega
             have dDP : gD ≠ w4x.heap.size := by have := hrD.lt; omega
             have dPS : w4x.heap.size ≠ gS := by have := hrS.lt; omega
             have dPT : w4x.heap.size ≠ gT := by have := hT.lt; omega
             replace hx0 := keep_cell hbA hx0
             replace hx1 := keep_cell hbA hx1
             replace hRs := hRs.below hbA
             replace hownW := own_below hownW hbA
             replace hrD := hrD.below hbA
             replace hrS := hrS.below hbA
             replace hT := hT.below hbA
             replace hw := keep_below hbA hw
             have hownP : w5x.ownsRow (w.heap.size + 2) 3 1 (.slice (some ⟨w4x.heap.size, 0, none⟩) 0 0) 0 (i64s []) := by rw [hwz]; exact own_empty w4x (w.heap.size + 2) w4x.heap.size rfl hwo
             have hbP : w.heap.size + 2 ≤ w4x.heap.size := hwo
             clear hwo
             generalize w4x.heap.size = gP at hownP hbP dPW dDP dPS dPT ⊢
             clear hHeld hbA hwz
             have hHeld := hHa
             clear hHa
             refine wpAnyH_take (i := 2) (oi := ?_) (v := ?_) ?_ (by kernel_rfl) (by kernel_rfl) (by kernel_rfl) ?_ (Or.inl ⟨?_, ?_⟩) (by assumption) ?_
             rotate_left 2
             · simp only [List.getElem?_toArray, List.getElem?_cons_zero, List.getElem?_cons_succ]; rfl
             · exact fun _ _ _ h => h
             · rfl
             · intro wq hSw
               obtain ⟨hx0, hx1, hw⟩ := hSw
               go_simp
               (try with_reducible rfl)
             (try simp only [Act.put, List.setIfInBounds_toArray, List.set_cons_zero, List.set_cons_succ])
             rotate_left 1
             exact AllReadyH.nil)
        all_goals
          first
          | (refine wpAnyH_ready (rs := [8]) (by kernel_rfl) (by simp) ?_
             refine AllReadyH.cons (i := 8) (o := ?_) ?_ (fun K9 hK9 => ?_) ?_
             rotate_left 1
             · simp only [List.getElem?_toArray, List.getElem?_cons_zero, List.getElem?_cons_succ]; rfl
             have tt0 := hT.c0
             have tt1 := hT.c1
             have tf0 := hT.free 0
             have tf1 := hT.free 1
             go_simp
             clear hHeld
             refine hK9.out _ _ ⟨cell_far (g := gT) (cell_far (g := gT) hx0 (by simp; omega) 0) (by simp; omega) 1, cell_far (g := gT) (cell_far (g := gT) hx1 (by simp; omega) 0) (by simp; omega) 1, Below.setCell' (p := ⟨gT, 1, none⟩) (by simp; omega) (Below.setCell' (p := ⟨gT, 0, none⟩) (by simp; omega) hw _) _⟩ (fun hHeld => ?_)
             clear hK9 K9
             (try simp only [Act.put, List.setIfInBounds_toArray, List.set_cons_zero, List.set_cons_succ])
             refine wpAnyH_take (i := 9) (oi := ?_) (v := ?_) ?_ (by kernel_rfl) (by kernel_rfl) (by kernel_rfl) ?_ (Or.inl ⟨?_, ?_⟩) (by assumption) ?_
             rotate_left 2
             · simp only [List.getElem?_toArray, List.getElem?_cons_zero, List.getElem?_cons_succ]; rfl
             · exact fun _ _ _ h => h
             · rfl
             · intro wq hSw
               obtain ⟨hx0, hx1, hw⟩ := hSw
               go_simp
               (try with_reducible rfl)
             (try simp only [Act.put, List.setIfInBounds_toArray, List.set_cons_zero, List.set_cons_succ])
             refine wpAnyH_take (i := 10) (oi := ?_) (v := ?_) ?_ (by kernel_rfl) (by kernel_rfl) (by kernel_rfl) ?_ (Or.inl ⟨?_, ?_⟩) (by assumption) ?_
             rotate_left 2
             · simp only [List.getElem?_toArray, List.getElem?_cons_zero, List.getElem?_cons_succ]; rfl
             · exact fun _ _ _ h => h
             · rfl
             · intro wq hSw
               obtain ⟨hx0, hx1, hw⟩ := hSw
               go_simp
               (try with_reducible rfl)
             (try simp only [Act.put, List.setIfInBounds_toArray, List.set_cons_zero, List.set_cons_succ])
             rotate_left 1
             exact AllReadyH.nil)
        all_goals
          clear hHeld
          refine wpAnyH_done (by kernel_rfl) ?_ _
          go_wp2_with fail
          go_meet
          go_split_ands
          exact ⟨_, rfl, _, _, _, _, _, _, _, rfl, rfl, rfl, dPW, dPT, dDP, dPS, dTW, dDW, dSW, dDT, dST, dDS, hbP, hbW, hbT, own_far (own_far hownP (by simp [Value.ownBlock]; omega)) (by simp [Value.ownBlock]; omega), own_far (own_far hownW (by simp [Value.ownBlock]; omega)) (by simp [Value.ownBlock]; omega), (hT.set0 _).set1 _, (hrD.far (by omega) _ _).far (by omega) _ _, (hrS.far (by omega) _ _).far (by omega) _ _, (hRs.far (by omega) _ _).far (by omega) _ _, cell_far (cell_far hx0 (by simp; omega) 0) (by simp; omega) 1, cell_far (cell_far hx1 (by simp; omega) 0) (by simp; omega) 1, Below.setCell' (by simp; omega) (Below.setCell' (by simp; omega) hw _) _⟩
      case rest =>
        clear hRs hx0 hx1 hw
        obtain ⟨wx, rfl, gP, gW, gT, gD, gS, cD, cS, rfl, rfl, rfl, dPW, dPT, dDP, dPS, dTW, dDW, dSW, dDT, dST, dDS, hbP, hbW, hbT, hownP, hownW, hT, hrD, hrS, hRs, hx0, hx1, hw⟩ := hcut
        obtain ⟨F, hF⟩ : ∃ F : List Nat, F = [gT, gD, gS, w.heap.size, w.heap.size + 1] := ⟨_, rfl⟩
        have mT : gT ∈ F := by rw [hF]; simp
        have mD : gD ∈ F := by rw [hF]; simp
        have mS : gS ∈ F := by rw [hF]; simp
        have m0 : w.heap.size ∈ F := by rw [hF]; simp
        have m1 : w.heap.size + 1 ∈ F := by rw [hF]; simp
        have hzx := hRs.lt
        have hlT := hT.lt
        have hlD := hrD.lt
        have hlS := hrS.lt
        have hlP : gP < _ := (hownP.lt gP rfl).2
        have hlW : gW < _ := (hownW.lt gW rfl).2
        have hTri : Tri (wx.alloc (.cells #[] 3)) (w.heap.size + 2) gT F (.slice (some ⟨gP, 0, none⟩) 0 0) (.slice (some ⟨gW, 0, none⟩) 0 0) (.slice (some ⟨wx.heap.size, 0, none⟩) 0 0) 0 0 0 [] [] [] := by
          refine ⟨⟨hT.alloc _, hownP.alloc _, hownW.alloc _, ?_, ?_, ?_⟩, own_empty wx (w.heap.size + 2) wx.heap.size rfl (by omega), ?_, ?_, ?_, ?_, ?_, ?_, ?_⟩
          · simp [Value.ownBlock]; omega
          · simp [Value.ownBlock]; omega
          · simp [Value.ownBlock]; omega
          · intro g hg; rw [hF] at hg; simp at hg; simp [Value.ownBlock]; omega
          · intro g hg; rw [hF] at hg; simp at hg; simp [Value.ownBlock]; omega
          · intro g hg; rw [hF] at hg; simp at hg; simp [Value.ownBlock]; omega
          · intro g hg; rw [hF] at hg; simp at hg; simp; omega
          · simp [Value.ownBlock]; omega
          · simp [Value.ownBlock]; omega
          · simp [Value.ownBlock]; omega
        have hTle : w.heap.size ≤ gT := by omega
        have d0T : w.heap.size ≠ gT := by omega
        have d1T : w.heap.size + 1 ≠ gT := by omega
        have hbA : Below wx.heap.size wx (wx.alloc (.cells #[] 3)) := (Below.refl _ _).alloc (Nat.le_refl _) _
        replace hrD := hrD.below hbA
        replace hrS := hrS.below hbA
        replace hRs := hRs.below hbA
        replace hx0 := keep_cell hbA hx0
        replace hx1 := keep_cell hbA hx1
        replace hw := keep_below hbA hw
        clear hF hbA hT hownP hownW hzx hlT hlD hlS hlP hlW dPW dPT dDP dPS dTW dDW dSW dDS hbP hbW hbT
        rw [HDL.out, HSL.out]
        go_wp2
        go_loopw [9, 10, 11, 12] (fun u i _ _ wr => ∃ (i9 : Nat) (va vb : Value), i9 ≤ xs.length ∧ i = .int .i64 (i9 : Int) ∧ Tri wr (w.heap.size + 2) gT F va vb u (PF i9).length (WF i9).length i9 (PF i9) (WF i9) (AA i9) ∧ Row wr gD DP ∧ Row wr gS SU ∧ BlkT wr (w.heap.size + 1) (.slice none 0 0) (.slice none 0 0) ∧ wr.cell? ⟨w.heap.size, 0, none⟩ = some (.slice A xs.length c) ∧ wr.cell? ⟨w.heap.size, 1, none⟩ = some (.slice B ys.length e) ∧ Below w.heap.size w wr) (fun _ i _ _ _ => xs.length - (intOf i).toNat)
        case atStart => exact ⟨0, _, _, Nat.zero_le _, rfl, by rw [HP00.out, HW00.out, HA0.out]; exact hTri, hrD, hrS, hRs, hx0, hx1, hw⟩
        case round =>
          clear hTri hrD hrS hRs hx0 hx1 hw
          obtain ⟨i9, va, vb, hi9, rfl, hTr, hrD, hrS, hRs, hx0, hx1, hw⟩ := hrel
          have hdl := HDL.out
          have hsl := HSL.out
          have hpe := HPe.out i9
          have hwf : (WF i9).length ≤ i9 := by have := HWl.out i9; omega
          by_cases hlt : i9 < xs.length
          · have i0' : (0 : Int) ≤ (i9 : Int) := by omega
            have i1 : (i9 : Int) < (xs.length : Int) := by omega
            have hcD := hrD.cell (j := i9) (by omega)
            have hcS := hrS.cell (j := i9) (by omega)
            obtain ⟨A9, c9, rfl⟩ := own_slice hTr.two.own0
            obtain ⟨Au0, cu0, rfl⟩ := own_slice hTr.own2
            have t0 := hTr.two.blk.c0
            have hwz := hw.size
            have hwzb := hRs.lt
            go_upto_region 9 with (at_builtin; refine wpList_append_own_at _ rfl _ _ 22 rfl (w.heap.size + 2) 3 i0 (.int .i64 0) 1 8 Try.underlying22 hi hz0 hz1 hz2 rfl (by decide) _ _ _ rfl (hTr.own2.alloc _) ⟨wr.heap.size, 0, none⟩ 1 1 [.int .i64 ((PF i9).length : Int)] rfl rfl (cell_one_new _ _ _) (by simp [Value.oneCell']) (by unfold maxLen; omega) (by omega) (by simp; omega) ?_; intro vz wz hownz hgz _ hatz; obtain ⟨Avz, cvz, rfl⟩ := own_slice hownz)
            have hAT := HPl.out i9
            have hTz : Tri wz (w.heap.size + 2) gT F (.slice A9 (PF i9).length c9) vb (.slice Avz (i9 + 1) cvz) (PF i9).length (WF i9).length (i9 + 1) (PF i9) (WF i9) (AA (i9 + 1)) := by
              refine hTr.put2 hgz hatz ?_
              rw [HAs.out, ← hAT, i64s_app]; exact hownz
            clear hAT
            replace hw := Below.grown (hw.alloc hw.size _) hgz (hw.alloc hw.size _).size (fun g e => hTr.row2 (U := w) (by omega) g e)
            replace hrD := hrD.of_block (hTr.still2 hgz mD (hTr.fx2 _ mD))
            replace hrS := hrS.of_block (hTr.still2 hgz mS (hTr.fx2 _ mS))
            replace hRs := hRs.of_block (hTr.still2 hgz m1 (hTr.fx2 _ m1))
            replace hx0 := (World.cell?_of_block (hTr.still2 hgz m0 (hTr.fx2 _ m0))).trans hx0
            replace hx1 := (World.cell?_of_block (hTr.still2 hgz m0 (hTr.fx2 _ m0))).trans hx1
            clear hTr hgz hatz hownz t0 hwz hwzb hcD hcS
            have hcD := hrD.cell (j := i9) (by omega)
            have hcS := hrS.cell (j := i9) (by omega)
            by_cases hkd : nth DP i9 ≤ d9
            · have hkp : KP i9 = true := by rw [HKp.out]; exact decide_eq_true hkd
              have i3 : ¬ d9 < nth DP i9 := by omega
              have hWt := HWt.out i9
              have hyl := HYN.out
              obtain ⟨bB, oB, hBe, hcB⟩ := (k.below hw).at_ (j := i9) (by omega)
              have i2 : (i9 : Int) < (ys.length : Int) := by omega
              clear hyl
              have i6 : (i9 : Int) < (SU.length : Int) := by omega
              have i7 : (i9 : Int) < (DP.length : Int) := by omega
              rw [hBe] at hx1
              by_cases h0 : i9 = 0
              · have hPR : Hid (PR i9 = -1) := by rw [h0]; exact HP0
                have i4 : ¬ (0 : Int) < (i9 : Int) := by omega
                clear h0
                by_cases hdd : nth DP i9 = d9
                · have hWT : Hid (WT i9 = nth SU i9) := by rw [hWt, if_pos hdd]; exact Lib.hid rfl
                  have i5 : (nth DP i9 == d9) = true := by rw [beq_iff_eq]; exact hdd
                  clear hWt hkd
                  go_upto_region 10 with (fail)
                  go_quiet (fail)
                  have hbq : Below wz.heap.size wz (wz.drewN nq) := Below.drewN' (Below.refl _ _) nq
                  replace hTz := hTz.below hbq
                  replace hrD := hrD.below hbq
                  replace hrS := hrS.below hbq
                  replace hRs := hRs.below hbq
                  replace hw := keep_below hbq hw
                  replace hx0 := keep_cell hbq hx0
                  replace hx1 := keep_cell hbq hx1
                  replace hcB := keep_cell hbq hcB
                  replace hcD := keep_cell hbq hcD
                  replace hcS := keep_cell hbq hcS
                  clear hbq
                  generalize wz.drewN nq = wy at *
                  obtain ⟨A1, c1, rfl⟩ := own_slice hTz.two.own1
                  have t0 := hTz.two.blk.c0
                  have t1 := hTz.two.blk.c1
                  have hwz4 := hw.size
                  have hwz4b := hRs.lt
                  go_upto_region 16 with (at_builtin; refine wpList_append_own_at _ rfl _ _ 22 rfl (w.heap.size + 2) 3 i0 (.int .i64 0) 1 8 Try.underlying22 hi hz0 hz1 hz2 rfl (by decide) _ _ _ rfl (hTz.two.own0.alloc _) ⟨wy.heap.size, 0, none⟩ 1 1 [.int .i64 (-1)] rfl rfl (cell_one_new _ _ _) (by simp [Value.oneCell']) (by unfold maxLen; omega) (by omega) (by simp; omega) ?_; intro v5 w5 hown5 hg5 _ hat5; obtain ⟨Av5, cv5, rfl⟩ := own_slice hown5; have a5c0 := (hTz.two.blk0 hg5).c0; have a5c1 := (hTz.two.blk0 hg5).c1; have a5f := (hTz.two.blk0 hg5).free 0)
                  replace hw := below_put (j := 0) (v' := .slice Av5 ((PF i9).length + 1) cv5) hw hg5 (hTz.two.row0 (by omega)) hTle
                  replace hrD := hrD.of_block (hTz.still (v' := .slice Av5 ((PF i9).length + 1) cv5) (j := 0) hg5 mD (hTz.fx0 _ mD) dDT)
                  replace hrS := hrS.of_block (hTz.still (v' := .slice Av5 ((PF i9).length + 1) cv5) (j := 0) hg5 mS (hTz.fx0 _ mS) dST)
                  replace hRs := hRs.of_block (hTz.still (v' := .slice Av5 ((PF i9).length + 1) cv5) (j := 0) hg5 m1 (hTz.fx0 _ m1) d1T)
                  replace hx0 := (World.cell?_of_block (hTz.still (v' := .slice Av5 ((PF i9).length + 1) cv5) (j := 0) hg5 m0 (hTz.fx0 _ m0) d0T)).trans hx0
                  replace hx1 := (World.cell?_of_block (hTz.still (v' := .slice Av5 ((PF i9).length + 1) cv5) (j := 0) hg5 m0 (hTz.fx0 _ m0) d0T)).trans hx1
                  replace hown5 : w5.ownsRow (w.heap.size + 2) 3 1 (.slice Av5 ((PF i9).length + 1) cv5) ((PF i9).length + 1) (i64s (PF (i9 + 1))) := by rw [HPy.out _ hkp, hPR.out, i64s_app]; exact hown5
                  have h4 := hTz.put0 hg5 hat5 hown5
                  clear hTz hg5 hat5 hown5 t0 t1 a5c0 a5c1 a5f
                  generalize w5.setCell ⟨gT, 0, none⟩ (.slice Av5 ((PF i9).length + 1) cv5) = w6 at *
                  have t0 := h4.two.blk.c0
                  have t1 := h4.two.blk.c1
                  have hwz6 := hw.size
                  have hwz6b := hRs.lt
                  go_wp2_with (at_builtin; refine wpList_append_own_at _ rfl _ _ 22 rfl (w.heap.size + 2) 3 i0 (.int .i64 0) 1 8 Try.underlying22 hi hz0 hz1 hz2 rfl (by decide) _ _ _ rfl (h4.two.own1.alloc _) ⟨w6.heap.size, 0, none⟩ 1 1 [.int .i64 (nth SU i9)] rfl rfl (cell_one_new _ _ _) (by simp [Value.oneCell']) (by unfold maxLen; omega) (by omega) (by simp; omega) ?_; intro v7 w7 hown7 hg7 _ hat7; obtain ⟨Av7, cv7, rfl⟩ := own_slice hown7; have a7c0 := (h4.two.blk1 hg7).c0; have a7c1 := (h4.two.blk1 hg7).c1; have a7f := (h4.two.blk1 hg7).free 1)
                  have hz0 := (World.cell?_of_block (h4.still2 hg7 m0 (h4.fx1 _ m0))).trans hx0
                  have hz1 := (World.cell?_of_block (h4.still2 hg7 m0 (h4.fx1 _ m0))).trans hx1
                  replace hw := below_put (j := 1) (v' := .slice Av7 ((WF i9).length + 1) cv7) hw hg7 (h4.two.row1 (by omega)) hTle
                  replace hrD := hrD.of_block (h4.still (v' := .slice Av7 ((WF i9).length + 1) cv7) (j := 1) hg7 mD (h4.fx1 _ mD) dDT)
                  replace hrS := hrS.of_block (h4.still (v' := .slice Av7 ((WF i9).length + 1) cv7) (j := 1) hg7 mS (h4.fx1 _ mS) dST)
                  replace hRs := hRs.of_block (h4.still (v' := .slice Av7 ((WF i9).length + 1) cv7) (j := 1) hg7 m1 (h4.fx1 _ m1) d1T)
                  replace hx0 := (World.cell?_of_block (h4.still (v' := .slice Av7 ((WF i9).length + 1) cv7) (j := 1) hg7 m0 (h4.fx1 _ m0) d0T)).trans hx0
                  replace hx1 := (World.cell?_of_block (h4.still (v' := .slice Av7 ((WF i9).length + 1) cv7) (j := 1) hg7 m0 (h4.fx1 _ m0) d0T)).trans hx1
                  replace hown7 : w7.ownsRow (w.heap.size + 2) 3 1 (.slice Av7 ((WF i9).length + 1) cv7) ((WF i9).length + 1) (i64s (WF (i9 + 1))) := by rw [HWy.out _ hkp, hWT.out, i64s_app]; exact hown7
                  have h5 := h4.put1 hg7 hat7 hown7
                  have hl1 : (PF i9).length + 1 = (PF (i9 + 1)).length := by rw [HPy.out _ hkp]; simp
                  have hl2 : (WF i9).length + 1 = (WF (i9 + 1)).length := by rw [HWy.out _ hkp]; simp
                  have HL1 := Lib.hid hl1
                  have HL2 := Lib.hid hl2
                  clear h4 hg7 hat7 hown7 t0 t1 a7c0 a7c1 a7f hl1 hl2
                  generalize w7.setCell ⟨gT, 1, none⟩ (.slice Av7 ((WF i9).length + 1) cv7) = w8 at *
                  go_wp2
                  go_roundw
                  case rel => exact ⟨i9 + 1, by omega, by omega, ⟨_, _, by rw [← HL1.out, ← HL2.out]; exact h5⟩, hrD, hrS, hRs, hz0, hz1, hw⟩
                  case measure => simp [intOf]; omega
                · have hWT : Hid (WT i9 = nth ys i9) := by rw [hWt, if_neg hdd]; exact Lib.hid rfl
                  have i5 : (nth DP i9 == d9) = false := by rw [beq_eq_false_iff_ne]; exact hdd
                  clear hWt hkd
                  go_upto_region 10 with (fail)
                  go_quiet (fail)
                  have hbq : Below wz.heap.size wz (wz.drewN nq) := Below.drewN' (Below.refl _ _) nq
                  replace hTz := hTz.below hbq
                  replace hrD := hrD.below hbq
                  replace hrS := hrS.below hbq
                  replace hRs := hRs.below hbq
                  replace hw := keep_below hbq hw
                  replace hx0 := keep_cell hbq hx0
                  replace hx1 := keep_cell hbq hx1
                  replace hcB := keep_cell hbq hcB
                  replace hcD := keep_cell hbq hcD
                  replace hcS := keep_cell hbq hcS
                  clear hbq
                  generalize wz.drewN nq = wy at *
                  obtain ⟨A1, c1, rfl⟩ := own_slice hTz.two.own1
                  have t0 := hTz.two.blk.c0
                  have t1 := hTz.two.blk.c1
                  have hwz4 := hw.size
                  have hwz4b := hRs.lt
                  go_upto_region 16 with (at_builtin; refine wpList_append_own_at _ rfl _ _ 22 rfl (w.heap.size + 2) 3 i0 (.int .i64 0) 1 8 Try.underlying22 hi hz0 hz1 hz2 rfl (by decide) _ _ _ rfl (hTz.two.own0.alloc _) ⟨wy.heap.size, 0, none⟩ 1 1 [.int .i64 (-1)] rfl rfl (cell_one_new _ _ _) (by simp [Value.oneCell']) (by unfold maxLen; omega) (by omega) (by simp; omega) ?_; intro v5 w5 hown5 hg5 _ hat5; obtain ⟨Av5, cv5, rfl⟩ := own_slice hown5; have a5c0 := (hTz.two.blk0 hg5).c0; have a5c1 := (hTz.two.blk0 hg5).c1; have a5f := (hTz.two.blk0 hg5).free 0)
                  replace hw := below_put (j := 0) (v' := .slice Av5 ((PF i9).length + 1) cv5) hw hg5 (hTz.two.row0 (by omega)) hTle
                  replace hrD := hrD.of_block (hTz.still (v' := .slice Av5 ((PF i9).length + 1) cv5) (j := 0) hg5 mD (hTz.fx0 _ mD) dDT)
                  replace hrS := hrS.of_block (hTz.still (v' := .slice Av5 ((PF i9).length + 1) cv5) (j := 0) hg5 mS (hTz.fx0 _ mS) dST)
                  replace hRs := hRs.of_block (hTz.still (v' := .slice Av5 ((PF i9).length + 1) cv5) (j := 0) hg5 m1 (hTz.fx0 _ m1) d1T)
                  replace hx0 := (World.cell?_of_block (hTz.still (v' := .slice Av5 ((PF i9).length + 1) cv5) (j := 0) hg5 m0 (hTz.fx0 _ m0) d0T)).trans hx0
                  replace hx1 := (World.cell?_of_block (hTz.still (v' := .slice Av5 ((PF i9).length + 1) cv5) (j := 0) hg5 m0 (hTz.fx0 _ m0) d0T)).trans hx1
                  replace hown5 : w5.ownsRow (w.heap.size + 2) 3 1 (.slice Av5 ((PF i9).length + 1) cv5) ((PF i9).length + 1) (i64s (PF (i9 + 1))) := by rw [HPy.out _ hkp, hPR.out, i64s_app]; exact hown5
                  have h4 := hTz.put0 hg5 hat5 hown5
                  clear hTz hg5 hat5 hown5 t0 t1 a5c0 a5c1 a5f
                  generalize w5.setCell ⟨gT, 0, none⟩ (.slice Av5 ((PF i9).length + 1) cv5) = w6 at *
                  have t0 := h4.two.blk.c0
                  have t1 := h4.two.blk.c1
                  have hwz6 := hw.size
                  have hwz6b := hRs.lt
                  go_wp2_with (at_builtin; refine wpList_append_own_at _ rfl _ _ 22 rfl (w.heap.size + 2) 3 i0 (.int .i64 0) 1 8 Try.underlying22 hi hz0 hz1 hz2 rfl (by decide) _ _ _ rfl (h4.two.own1.alloc _) ⟨w6.heap.size, 0, none⟩ 1 1 [.int .i64 (nth ys i9)] rfl rfl (cell_one_new _ _ _) (by simp [Value.oneCell']) (by unfold maxLen; omega) (by omega) (by simp; omega) ?_; intro v7 w7 hown7 hg7 _ hat7; obtain ⟨Av7, cv7, rfl⟩ := own_slice hown7; have a7c0 := (h4.two.blk1 hg7).c0; have a7c1 := (h4.two.blk1 hg7).c1; have a7f := (h4.two.blk1 hg7).free 1)
                  have hz0 := (World.cell?_of_block (h4.still2 hg7 m0 (h4.fx1 _ m0))).trans hx0
                  have hz1 := (World.cell?_of_block (h4.still2 hg7 m0 (h4.fx1 _ m0))).trans hx1
                  replace hw := below_put (j := 1) (v' := .slice Av7 ((WF i9).length + 1) cv7) hw hg7 (h4.two.row1 (by omega)) hTle
                  replace hrD := hrD.of_block (h4.still (v' := .slice Av7 ((WF i9).length + 1) cv7) (j := 1) hg7 mD (h4.fx1 _ mD) dDT)
                  replace hrS := hrS.of_block (h4.still (v' := .slice Av7 ((WF i9).length + 1) cv7) (j := 1) hg7 mS (h4.fx1 _ mS) dST)
                  replace hRs := hRs.of_block (h4.still (v' := .slice Av7 ((WF i9).length + 1) cv7) (j := 1) hg7 m1 (h4.fx1 _ m1) d1T)
                  replace hx0 := (World.cell?_of_block (h4.still (v' := .slice Av7 ((WF i9).length + 1) cv7) (j := 1) hg7 m0 (h4.fx1 _ m0) d0T)).trans hx0
                  replace hx1 := (World.cell?_of_block (h4.still (v' := .slice Av7 ((WF i9).length + 1) cv7) (j := 1) hg7 m0 (h4.fx1 _ m0) d0T)).trans hx1
                  replace hown7 : w7.ownsRow (w.heap.size + 2) 3 1 (.slice Av7 ((WF i9).length + 1) cv7) ((WF i9).length + 1) (i64s (WF (i9 + 1))) := by rw [HWy.out _ hkp, hWT.out, i64s_app]; exact hown7
                  have h5 := h4.put1 hg7 hat7 hown7
                  have hl1 : (PF i9).length + 1 = (PF (i9 + 1)).length := by rw [HPy.out _ hkp]; simp
                  have hl2 : (WF i9).length + 1 = (WF (i9 + 1)).length := by rw [HWy.out _ hkp]; simp
                  have HL1 := Lib.hid hl1
                  have HL2 := Lib.hid hl2
                  clear h4 hg7 hat7 hown7 t0 t1 a7c0 a7c1 a7f hl1 hl2
                  generalize w7.setCell ⟨gT, 1, none⟩ (.slice Av7 ((WF i9).length + 1) cv7) = w8 at *
                  go_wp2
                  go_roundw
                  case rel => exact ⟨i9 + 1, by omega, by omega, ⟨_, _, by rw [← HL1.out, ← HL2.out]; exact h5⟩, hrD, hrS, hRs, hz0, hz1, hw⟩
                  case measure => simp [intOf]; omega
              · obtain ⟨p, hp, hpk⟩ := HU.out i9 (by omega) hlt
                obtain ⟨bA, oA, hAe, hcA⟩ := (h.below hw).at_ (j := i9) hlt
                rw [hAe] at hx0
                rw [hp] at hcA
                have hPR1 := HPr.out i9 p (by omega) hlt hp hpk hkp
                have hPR : Hid (PR i9 = AT p) := Lib.hid hPR1.2
                clear hPR1
                have i4 : (0 : Int) < (i9 : Int) := by omega
                have hAl := HAl.out (i9 + 1)
                obtain ⟨Ax, cx, hve, hOx, -⟩ := own_nil hTz.own2
                obtain ⟨gU, hgU, -, hrU⟩ := hOx.pos (by omega)
                have hcU := hrU.cell (j := p) (by omega)
                rw [HAn.out _ _ (by omega)] at hcU
                rw [hgU, hAl] at hve
                injection hve with hve1 hve2 hve3
                subst hve1 hve3
                have j0 : (0 : Int) ≤ (p : Int) := by omega
                have j1 : (p : Int) < (i9 : Int) + 1 := by omega
                have j2 : (p : Int) < ((i9 + 1 : Nat) : Int) := by omega
                clear h0 hOx hrU hAl hp hve2 hgU
                generalize AT p = pq at *
                by_cases hdd : nth DP i9 = d9
                · have hWT : Hid (WT i9 = nth SU i9) := by rw [hWt, if_pos hdd]; exact Lib.hid rfl
                  have i5 : (nth DP i9 == d9) = true := by rw [beq_iff_eq]; exact hdd
                  clear hWt hkd
                  go_upto_region 10 with (fail)
                  go_quiet (fail)
                  have hbq : Below wz.heap.size wz (wz.drewN nq) := Below.drewN' (Below.refl _ _) nq
                  replace hTz := hTz.below hbq
                  replace hrD := hrD.below hbq
                  replace hrS := hrS.below hbq
                  replace hRs := hRs.below hbq
                  replace hw := keep_below hbq hw
                  replace hx0 := keep_cell hbq hx0
                  replace hx1 := keep_cell hbq hx1
                  replace hcB := keep_cell hbq hcB
                  replace hcD := keep_cell hbq hcD
                  replace hcS := keep_cell hbq hcS
                  replace hcA := keep_cell hbq hcA
                  replace hcU := keep_cell hbq hcU
                  clear hbq
                  generalize wz.drewN nq = wy at *
                  obtain ⟨A1, c1, rfl⟩ := own_slice hTz.two.own1
                  have t0 := hTz.two.blk.c0
                  have t1 := hTz.two.blk.c1
                  have hwz4 := hw.size
                  have hwz4b := hRs.lt
                  go_upto_region 16 with (at_builtin; refine wpList_append_own_at _ rfl _ _ 22 rfl (w.heap.size + 2) 3 i0 (.int .i64 0) 1 8 Try.underlying22 hi hz0 hz1 hz2 rfl (by decide) _ _ _ rfl (hTz.two.own0.alloc _) ⟨wy.heap.size, 0, none⟩ 1 1 [.int .i64 pq] rfl rfl (cell_one_new _ _ _) (by simp [Value.oneCell']) (by unfold maxLen; omega) (by omega) (by simp; omega) ?_; intro v5 w5 hown5 hg5 _ hat5; obtain ⟨Av5, cv5, rfl⟩ := own_slice hown5; have a5c0 := (hTz.two.blk0 hg5).c0; have a5c1 := (hTz.two.blk0 hg5).c1; have a5f := (hTz.two.blk0 hg5).free 0)
                  replace hw := below_put (j := 0) (v' := .slice Av5 ((PF i9).length + 1) cv5) hw hg5 (hTz.two.row0 (by omega)) hTle
                  replace hrD := hrD.of_block (hTz.still (v' := .slice Av5 ((PF i9).length + 1) cv5) (j := 0) hg5 mD (hTz.fx0 _ mD) dDT)
                  replace hrS := hrS.of_block (hTz.still (v' := .slice Av5 ((PF i9).length + 1) cv5) (j := 0) hg5 mS (hTz.fx0 _ mS) dST)
                  replace hRs := hRs.of_block (hTz.still (v' := .slice Av5 ((PF i9).length + 1) cv5) (j := 0) hg5 m1 (hTz.fx0 _ m1) d1T)
                  replace hx0 := (World.cell?_of_block (hTz.still (v' := .slice Av5 ((PF i9).length + 1) cv5) (j := 0) hg5 m0 (hTz.fx0 _ m0) d0T)).trans hx0
                  replace hx1 := (World.cell?_of_block (hTz.still (v' := .slice Av5 ((PF i9).length + 1) cv5) (j := 0) hg5 m0 (hTz.fx0 _ m0) d0T)).trans hx1
                  replace hown5 : w5.ownsRow (w.heap.size + 2) 3 1 (.slice Av5 ((PF i9).length + 1) cv5) ((PF i9).length + 1) (i64s (PF (i9 + 1))) := by rw [HPy.out _ hkp, hPR.out, i64s_app]; exact hown5
                  have h4 := hTz.put0 hg5 hat5 hown5
                  clear hTz hg5 hat5 hown5 t0 t1 a5c0 a5c1 a5f
                  generalize w5.setCell ⟨gT, 0, none⟩ (.slice Av5 ((PF i9).length + 1) cv5) = w6 at *
                  have t0 := h4.two.blk.c0
                  have t1 := h4.two.blk.c1
                  have hwz6 := hw.size
                  have hwz6b := hRs.lt
                  go_wp2_with (at_builtin; refine wpList_append_own_at _ rfl _ _ 22 rfl (w.heap.size + 2) 3 i0 (.int .i64 0) 1 8 Try.underlying22 hi hz0 hz1 hz2 rfl (by decide) _ _ _ rfl (h4.two.own1.alloc _) ⟨w6.heap.size, 0, none⟩ 1 1 [.int .i64 (nth SU i9)] rfl rfl (cell_one_new _ _ _) (by simp [Value.oneCell']) (by unfold maxLen; omega) (by omega) (by simp; omega) ?_; intro v7 w7 hown7 hg7 _ hat7; obtain ⟨Av7, cv7, rfl⟩ := own_slice hown7; have a7c0 := (h4.two.blk1 hg7).c0; have a7c1 := (h4.two.blk1 hg7).c1; have a7f := (h4.two.blk1 hg7).free 1)
                  have hz0 := (World.cell?_of_block (h4.still2 hg7 m0 (h4.fx1 _ m0))).trans hx0
                  have hz1 := (World.cell?_of_block (h4.still2 hg7 m0 (h4.fx1 _ m0))).trans hx1
                  replace hw := below_put (j := 1) (v' := .slice Av7 ((WF i9).length + 1) cv7) hw hg7 (h4.two.row1 (by omega)) hTle
                  replace hrD := hrD.of_block (h4.still (v' := .slice Av7 ((WF i9).length + 1) cv7) (j := 1) hg7 mD (h4.fx1 _ mD) dDT)
                  replace hrS := hrS.of_block (h4.still (v' := .slice Av7 ((WF i9).length + 1) cv7) (j := 1) hg7 mS (h4.fx1 _ mS) dST)
                  replace hRs := hRs.of_block (h4.still (v' := .slice Av7 ((WF i9).length + 1) cv7) (j := 1) hg7 m1 (h4.fx1 _ m1) d1T)
                  replace hx0 := (World.cell?_of_block (h4.still (v' := .slice Av7 ((WF i9).length + 1) cv7) (j := 1) hg7 m0 (h4.fx1 _ m0) d0T)).trans hx0
                  replace hx1 := (World.cell?_of_block (h4.still (v' := .slice Av7 ((WF i9).length + 1) cv7) (j := 1) hg7 m0 (h4.fx1 _ m0) d0T)).trans hx1
                  replace hown7 : w7.ownsRow (w.heap.size + 2) 3 1 (.slice Av7 ((WF i9).length + 1) cv7) ((WF i9).length + 1) (i64s (WF (i9 + 1))) := by rw [HWy.out _ hkp, hWT.out, i64s_app]; exact hown7
                  have h5 := h4.put1 hg7 hat7 hown7
                  have hl1 : (PF i9).length + 1 = (PF (i9 + 1)).length := by rw [HPy.out _ hkp]; simp
                  have hl2 : (WF i9).length + 1 = (WF (i9 + 1)).length := by rw [HWy.out _ hkp]; simp
                  have HL1 := Lib.hid hl1
                  have HL2 := Lib.hid hl2
                  clear h4 hg7 hat7 hown7 t0 t1 a7c0 a7c1 a7f hl1 hl2
                  generalize w7.setCell ⟨gT, 1, none⟩ (.slice Av7 ((WF i9).length + 1) cv7) = w8 at *
                  go_wp2
                  go_roundw
                  case rel => exact ⟨i9 + 1, by omega, by omega, ⟨_, _, by rw [← HL1.out, ← HL2.out]; exact h5⟩, hrD, hrS, hRs, hz0, hz1, hw⟩
                  case measure => simp [intOf]; omega
                · have hWT : Hid (WT i9 = nth ys i9) := by rw [hWt, if_neg hdd]; exact Lib.hid rfl
                  have i5 : (nth DP i9 == d9) = false := by rw [beq_eq_false_iff_ne]; exact hdd
                  clear hWt hkd
                  go_upto_region 10 with (fail)
                  go_quiet (fail)
                  have hbq : Below wz.heap.size wz (wz.drewN nq) := Below.drewN' (Below.refl _ _) nq
                  replace hTz := hTz.below hbq
                  replace hrD := hrD.below hbq
                  replace hrS := hrS.below hbq
                  replace hRs := hRs.below hbq
                  replace hw := keep_below hbq hw
                  replace hx0 := keep_cell hbq hx0
                  replace hx1 := keep_cell hbq hx1
                  replace hcB := keep_cell hbq hcB
                  replace hcD := keep_cell hbq hcD
                  replace hcS := keep_cell hbq hcS
                  replace hcA := keep_cell hbq hcA
                  replace hcU := keep_cell hbq hcU
                  clear hbq
                  generalize wz.drewN nq = wy at *
                  obtain ⟨A1, c1, rfl⟩ := own_slice hTz.two.own1
                  have t0 := hTz.two.blk.c0
                  have t1 := hTz.two.blk.c1
                  have hwz4 := hw.size
                  have hwz4b := hRs.lt
                  go_upto_region 16 with (at_builtin; refine wpList_append_own_at _ rfl _ _ 22 rfl (w.heap.size + 2) 3 i0 (.int .i64 0) 1 8 Try.underlying22 hi hz0 hz1 hz2 rfl (by decide) _ _ _ rfl (hTz.two.own0.alloc _) ⟨wy.heap.size, 0, none⟩ 1 1 [.int .i64 pq] rfl rfl (cell_one_new _ _ _) (by simp [Value.oneCell']) (by unfold maxLen; omega) (by omega) (by simp; omega) ?_; intro v5 w5 hown5 hg5 _ hat5; obtain ⟨Av5, cv5, rfl⟩ := own_slice hown5; have a5c0 := (hTz.two.blk0 hg5).c0; have a5c1 := (hTz.two.blk0 hg5).c1; have a5f := (hTz.two.blk0 hg5).free 0)
                  replace hw := below_put (j := 0) (v' := .slice Av5 ((PF i9).length + 1) cv5) hw hg5 (hTz.two.row0 (by omega)) hTle
                  replace hrD := hrD.of_block (hTz.still (v' := .slice Av5 ((PF i9).length + 1) cv5) (j := 0) hg5 mD (hTz.fx0 _ mD) dDT)
                  replace hrS := hrS.of_block (hTz.still (v' := .slice Av5 ((PF i9).length + 1) cv5) (j := 0) hg5 mS (hTz.fx0 _ mS) dST)
                  replace hRs := hRs.of_block (hTz.still (v' := .slice Av5 ((PF i9).length + 1) cv5) (j := 0) hg5 m1 (hTz.fx0 _ m1) d1T)
                  replace hx0 := (World.cell?_of_block (hTz.still (v' := .slice Av5 ((PF i9).length + 1) cv5) (j := 0) hg5 m0 (hTz.fx0 _ m0) d0T)).trans hx0
                  replace hx1 := (World.cell?_of_block (hTz.still (v' := .slice Av5 ((PF i9).length + 1) cv5) (j := 0) hg5 m0 (hTz.fx0 _ m0) d0T)).trans hx1
                  replace hown5 : w5.ownsRow (w.heap.size + 2) 3 1 (.slice Av5 ((PF i9).length + 1) cv5) ((PF i9).length + 1) (i64s (PF (i9 + 1))) := by rw [HPy.out _ hkp, hPR.out, i64s_app]; exact hown5
                  have h4 := hTz.put0 hg5 hat5 hown5
                  clear hTz hg5 hat5 hown5 t0 t1 a5c0 a5c1 a5f
                  generalize w5.setCell ⟨gT, 0, none⟩ (.slice Av5 ((PF i9).length + 1) cv5) = w6 at *
                  have t0 := h4.two.blk.c0
                  have t1 := h4.two.blk.c1
                  have hwz6 := hw.size
                  have hwz6b := hRs.lt
                  go_wp2_with (at_builtin; refine wpList_append_own_at _ rfl _ _ 22 rfl (w.heap.size + 2) 3 i0 (.int .i64 0) 1 8 Try.underlying22 hi hz0 hz1 hz2 rfl (by decide) _ _ _ rfl (h4.two.own1.alloc _) ⟨w6.heap.size, 0, none⟩ 1 1 [.int .i64 (nth ys i9)] rfl rfl (cell_one_new _ _ _) (by simp [Value.oneCell']) (by unfold maxLen; omega) (by omega) (by simp; omega) ?_; intro v7 w7 hown7 hg7 _ hat7; obtain ⟨Av7, cv7, rfl⟩ := own_slice hown7; have a7c0 := (h4.two.blk1 hg7).c0; have a7c1 := (h4.two.blk1 hg7).c1; have a7f := (h4.two.blk1 hg7).free 1)
                  have hz0 := (World.cell?_of_block (h4.still2 hg7 m0 (h4.fx1 _ m0))).trans hx0
                  have hz1 := (World.cell?_of_block (h4.still2 hg7 m0 (h4.fx1 _ m0))).trans hx1
                  replace hw := below_put (j := 1) (v' := .slice Av7 ((WF i9).length + 1) cv7) hw hg7 (h4.two.row1 (by omega)) hTle
                  replace hrD := hrD.of_block (h4.still (v' := .slice Av7 ((WF i9).length + 1) cv7) (j := 1) hg7 mD (h4.fx1 _ mD) dDT)
                  replace hrS := hrS.of_block (h4.still (v' := .slice Av7 ((WF i9).length + 1) cv7) (j := 1) hg7 mS (h4.fx1 _ mS) dST)
                  replace hRs := hRs.of_block (h4.still (v' := .slice Av7 ((WF i9).length + 1) cv7) (j := 1) hg7 m1 (h4.fx1 _ m1) d1T)
                  replace hx0 := (World.cell?_of_block (h4.still (v' := .slice Av7 ((WF i9).length + 1) cv7) (j := 1) hg7 m0 (h4.fx1 _ m0) d0T)).trans hx0
                  replace hx1 := (World.cell?_of_block (h4.still (v' := .slice Av7 ((WF i9).length + 1) cv7) (j := 1) hg7 m0 (h4.fx1 _ m0) d0T)).trans hx1
                  replace hown7 : w7.ownsRow (w.heap.size + 2) 3 1 (.slice Av7 ((WF i9).length + 1) cv7) ((WF i9).length + 1) (i64s (WF (i9 + 1))) := by rw [HWy.out _ hkp, hWT.out, i64s_app]; exact hown7
                  have h5 := h4.put1 hg7 hat7 hown7
                  have hl1 : (PF i9).length + 1 = (PF (i9 + 1)).length := by rw [HPy.out _ hkp]; simp
                  have hl2 : (WF i9).length + 1 = (WF (i9 + 1)).length := by rw [HWy.out _ hkp]; simp
                  have HL1 := Lib.hid hl1
                  have HL2 := Lib.hid hl2
                  clear h4 hg7 hat7 hown7 t0 t1 a7c0 a7c1 a7f hl1 hl2
                  generalize w7.setCell ⟨gT, 1, none⟩ (.slice Av7 ((WF i9).length + 1) cv7) = w8 at *
                  go_wp2
                  go_roundw
                  case rel => exact ⟨i9 + 1, by omega, by omega, ⟨_, _, by rw [← HL1.out, ← HL2.out]; exact h5⟩, hrD, hrS, hRs, hz0, hz1, hw⟩
                  case measure => simp [intOf]; omega
            · have hkp : KP i9 = false := by rw [HKp.out]; exact decide_eq_false hkd
              have i3 : d9 < nth DP i9 := by omega
              have i7 : (i9 : Int) < (DP.length : Int) := by omega
              have hn1 := HPn.out _ hkp
              have hn2 := HWn.out _ hkp
              rw [← hn1, ← hn2] at hTz
              clear hkp hkd hn1 hn2
              go_wp2
              go_roundw
              case rel => exact ⟨i9 + 1, _, _, by omega, by go_num, hTz, hrD, hrS, hRs, hx0, hx1, hw⟩
              case measure => simp [intOf]; omega
          · have hie : i9 = xs.length := by omega
            subst hie
            obtain ⟨A1, c1, A2, c2, rfl, rfl, hO1, hO2, hap, -, -⟩ := hTr.two.forms
            have hbl := hTr.two.blk
            have t0 := hbl.c0
            have t1 := hbl.c1
            have hG := HGd.out wr A1 A2 c1 c2 hO1.ints hO2.ints
            clear hTr hdl hsl hpe hwf hlt
            go_wp2_with fail
            refine hG.mono ?_
            rintro e5 w5 ⟨rfl, hb5⟩
            replace hRs := hRs.below hb5
            replace hw := keep_below hb5 hw
            replace hO1 := hO1.below hb5
            replace hO2 := hO2.below hb5
            replace hbl := hbl.below hb5
            clear hb5 t0 t1 hG hx0 hx1
            have t0 := hbl.c0
            have t1 := hbl.c1
            cases r with
            | false =>
              have hr0 := hRs.c0
              have hr1 := hRs.c1
              have hf0 := hRs.free 0
              have hf1 := hRs.free 1
              clear t0 t1
              go_wp2
              refine bodyPost_ret (v := .tuple #[.agg #[.slice none 0 0, .slice none 0 0], .bool false]) (by simp (maxDischargeDepth := 9) [results, Try.results21, go_sem, *]) rfl ⟨none, 0, none, 0, rfl, .inl ⟨rfl, rfl⟩, .inl ⟨rfl, rfl⟩, (fun _ _ e1 => by cases e1), ?_⟩
              (repeat (first | with_reducible exact Below.refl _ _ | with_reducible assumption | with_reducible refine Below.alloc' ?_ ?_ _ | with_reducible refine Below.setCell' ?_ ?_ _ | with_reducible refine Below.drewN' ?_ _ | with_reducible refine Below.drew ?_ | with_reducible refine Below.transA ?_ (by assumption) ?_ | omega | (focus (simp; done)) | (focus (simp; omega))))
            | true =>
              have hr0 := hRs.c0
              have hr1 := hRs.c1
              have hf0 := hRs.free 0
              have hf1 := hRs.free 1
              have hkb := ((KeptBut.refl2 w5 (w.heap.size + 1)).setg 0 (.slice A1 (PF xs.length).length c1)).setg 1 (.slice A2 (WF xs.length).length c2)
              have hO1' := hkb.own hO1 (by omega) (by omega)
              have hO2' := hkb.own hO2 (by omega) (by omega)
              have hzz : w.heap.size ≤ w.heap.size + 2 := by omega
              clear hkb hO1 hO2
              go_wp2
              refine bodyPost_ret (v := .tuple #[.agg #[.slice A1 (PF xs.length).length c1, .slice A2 (WF xs.length).length c2], .bool true]) (by simp (maxDischargeDepth := 9) [results, Try.results21, go_sem, *]) rfl ⟨A1, c1, A2, c2, rfl, hO1'.mono hzz, hO2'.mono hzz, hap, ?_⟩
              (repeat (first | with_reducible exact Below.refl _ _ | with_reducible assumption | with_reducible refine Below.alloc' ?_ ?_ _ | with_reducible refine Below.setCell' ?_ ?_ _ | with_reducible refine Below.drewN' ?_ _ | with_reducible refine Below.drew ?_ | with_reducible refine Below.transA ?_ (by assumption) ?_ | omega | (focus (simp; done)) | (focus (simp; omega))))
end Go.Proofs.Ytombfbmcplefgaa
