/- Contracts: stoppings. -/
import Derived.Test.YtombfbmcplefgaaAsc
import Derived.StillTailTactics
namespace Go.Proofs.Ytombfbmcplefgaa
open Go.ChangeShapes Go.WideShapes Go.ChangeAt Go.RowKit

/-- One node of the list is on the way to each end. -/
def onB (xs zs : List Int) : Bool := (List.range (endsL xs).length).all fun j => decide ((bothL zs (wayL xs (nth (endsL xs) j).toNat)).length = 1)
/-- A stopping of a valid tree. -/
def isStp (xs zs : List Int) : Bool := onB xs zs && (allIn zs 0 ((xs.length : Int) - 1) && riseB zs)
theorem onB_no {xs zs : List Int} {j : Nat} (hj : j < (endsL xs).length) (h : ¬ (bothL zs (wayL xs (nth (endsL xs) j).toNat)).length = 1) : onB xs zs = false := by
  rw [Bool.eq_false_iff]; intro ha
  exact h (of_decide_eq_true (List.all_eq_true.1 ha j (List.mem_range.2 hj)))
theorem onB_iff {xs zs : List Int} : onB xs zs = true ↔ ∀ j, j < (endsL xs).length → (bothL zs (wayL xs (nth (endsL xs) j).toNat)).length = 1 :=
  ⟨fun ha j hj => of_decide_eq_true (List.all_eq_true.1 ha j (List.mem_range.2 hj)), fun h => List.all_eq_true.2 fun j hj => decide_eq_true (h j (List.mem_range.1 hj))⟩
theorem stp_node {xs zs : List Int} (h : isStp xs zs = true) : ∀ j, j < zs.length → ∃ q : Nat, nth zs j = q ∧ q < xs.length := fun j hj => by
  have := allIn_iff.1 (Bool.and_eq_true_iff.1 (Bool.and_eq_true_iff.1 h).2).1 j hj
  exact ⟨(nth zs j).toNat, by omega, by omega⟩
theorem stp_rise {xs zs : List Int} (h : isStp xs zs = true) : riseB zs = true := (Bool.and_eq_true_iff.1 (Bool.and_eq_true_iff.1 h).2).2
theorem stp_len {xs zs : List Int} (h : isStp xs zs = true) : zs.length ≤ xs.length :=
  rise_len (stp_rise h) fun j hj => by obtain ⟨q, h1, h2⟩ := stp_node h j hj; omega
theorem stp_on {xs zs : List Int} (h : isStp xs zs = true) : ∀ j, j < (endsL xs).length → (bothL zs (wayL xs (nth (endsL xs) j).toNat)).length = 1 := onB_iff.1 (Bool.and_eq_true_iff.1 h).1

set_option maxHeartbeats 400000 in
theorem l3On_any {xs ys : List Int} (hg : good xs ys = true) (A B P : Option Addr) (c m e cz x : Nat) (zs : List Int) (w : World) (h : IntS w A xs) (z : IntS w P zs) (hx : x < xs.length) (hz : zs.length ≤ 1048576) :
    Calls Try.prog 96 #[.agg #[.slice A xs.length c, .slice B m e], .slice P zs.length cz, .int .i64 x] w (RetI w (bothL zs (wayL xs x))) := by
  have hgl := good_len hg
  have hwl := way_len xs x
  have HW := Lib.hid (fun W (h : IntS W A xs) => l2Way_any hg A B c m e x W h hx)
  have HB := Lib.hid (fun W (R : Option Addr) (cr : Nat) (z : IntS W P zs) (r : IntS W R (wayL xs x)) => l2Both_any P R cz cr zs (wayL xs x) W z r hz (by omega))
  generalize bothL zs (wayL xs x) = O at *
  generalize wayL xs x = K at *
  have n1 := hgl.1
  clear hg hgl hwl
  go_enter Try.func96, Try.ntmps96
  go_wp2_with fail
  refine (HW.out _ (h.alloc _)).mono ?_
  rintro e1 w1 ⟨A1, c1, rfl, ho, hb1⟩
  have hw := below_alloc hb1
  go_wp2_with fail
  refine (HB.out _ _ _ (z.below hw) ho.ints).mono ?_
  rintro e1 w2 ⟨A2, c2, rfl, ho2, hb2⟩
  go_wp2
  go_ret
  exact ⟨A2, c2, rfl, ho2.mono hw.size, keep_below hb2 hw⟩

set_option maxHeartbeats 2000000 in
set_option maxRecDepth 100000 in
theorem l3Stop_good {xs ys : List Int} (hg : good xs ys = true) (A B P : Option Addr) (c e cz : Nat) (zs : List Int) (w : World) (h : IntS w A xs) (z : IntS w P zs) (hz : zs.length ≤ 1048576) :
    Calls Try.prog 143 #[.agg #[.slice A xs.length c, .slice B ys.length e], .slice P zs.length cz] w fun e1 w' => e1 = .returned (.bool (isStp xs zs)) ∧ Below w.heap.size w w' := by
  have hgl := good_len hg
  have HO := Lib.hid (fun W (h : IntS W A xs) (z : IntS W P zs) (x : Nat) (hx : x < xs.length) => l3On_any hg A B P c ys.length e cz x zs W h z hx hz)
  have HE := Lib.hid (fun W (h : IntS W A xs) => l2Ends_any A B c ys.length e xs W h (by omega) (good_iff.1 hg).2.1 (good_root hg))
  have HR := Lib.hid (fun W (z : IntS W P zs) => l1Rising_any P cz zs 0 ((xs.length : Int) - 1) W z (by omega))
  have hep := ends_pos hg
  have hel := ends_len xs
  have HEM : Hid (∀ j, j < (endsL xs).length → ∃ y : Nat, nth (endsL xs) j = y ∧ y < xs.length) := fun j hj => by obtain ⟨y, h1, h2, _⟩ := ends_mem hj; exact ⟨y, h1, h2⟩
  have HL : Hid (∀ x : Nat, (bothL zs (wayL xs x)).length ≤ 1048576) := fun x => by have := bothL_len zs (wayL xs x); omega
  generalize hr : isStp xs zs = r
  have HV := Lib.hid hr
  have HNo : Hid (∀ j y : Nat, j < (endsL xs).length → nth (endsL xs) j = y → ¬ (bothL zs (wayL xs y)).length = 1 → r = false) := fun j y hj hy hn => by
    rw [← hr]; unfold isStp; rw [onB_no hj (by rw [hy]; exact hn)]; rfl
  have HYes : Hid ((∀ j y : Nat, j < (endsL xs).length → nth (endsL xs) j = y → (bothL zs (wayL xs y)).length = 1) → r = (allIn zs 0 ((xs.length : Int) - 1) && riseB zs)) := fun ha => by
    rw [← hr]; unfold isStp; rw [onB_iff.2 fun j hj => by obtain ⟨y, h1, h2⟩ := HEM.out j hj; rw [h1]; exact ha j y hj h1]; rfl
  clear hr HV hg
  obtain ⟨n, e1⟩ : ∃ n, xs.length = n := ⟨_, rfl⟩
  have e2 : ys.length = n := by rw [hgl.2.2]; exact e1
  simp only [e1, e2] at HO HE HR HEM HYes hgl hel ⊢
  obtain ⟨g1, g2, _⟩ := hgl
  clear e1 e2
  generalize endsL xs = E at *
  go_enter Try.func143, Try.ntmps143
  go_wp2_with fail
  refine (HE.out _ (h.alloc _)).mono ?_
  rintro e1 w1 ⟨A1, c1, rfl, ho, hb1⟩
  have hx0 : w1.cell? ⟨w.heap.size, 0, none⟩ = some (.slice A n c) := keep_cell hb1 (by simp)
  have hx1 : w1.cell? ⟨w.heap.size, 1, none⟩ = some (.slice B n e) := keep_cell hb1 (by simp)
  have hw : Below w.heap.size w w1 := below_alloc hb1
  obtain ⟨gE, rfl, hgE, hE⟩ := ho.pos hep
  clear ho HE hgE hb1
  go_wp2
  go_loopw [6] (fun i wr => ∃ j : Nat, j ≤ E.length ∧ i = .int .i64 (j : Int) ∧ Hid (∀ q y : Nat, q < j → nth E q = y → (bothL zs (wayL xs y)).length = 1) ∧ Row wr gE E ∧ wr.cell? ⟨w.heap.size, 0, none⟩ = some (.slice A n c) ∧ wr.cell? ⟨w.heap.size, 1, none⟩ = some (.slice B n e) ∧ Below w.heap.size w wr) (fun i _ => E.length - (intOf i).toNat)
  case atStart => exact ⟨0, Nat.zero_le _, rfl, fun j y hj => by omega, hE, hx0, hx1, hw⟩
  case round =>
    clear hx0 hx1 hw hE
    obtain ⟨j, hj, rfl, HA, hE, hx0, hx1, hw⟩ := hrel
    by_cases hlt : j < E.length
    · obtain ⟨y, hy, hyn⟩ := HEM.out j hlt
      have hcE := hE.cell hlt
      rw [hy] at hcE
      have hlt' : (j : Int) < E.length := by omega
      have HQ := Lib.hid (fun W (h : IntS W A xs) (z : IntS W P zs) => HO.out W h z y hyn)
      have hn1 := Lib.hid (HNo.out j y hlt hy)
      have HA' : Hid ((bothL zs (wayL xs y)).length = 1 → ∀ q y : Nat, q < j + 1 → nth E q = y → (bothL zs (wayL xs y)).length = 1) := fun h1 q y' hq hy' => by
        by_cases e : q = j
        · subst e; rw [hy] at hy'; have : y = y' := by omega
          subst this; exact h1
        · exact HA.out q y' (by omega) hy'
      have hbl := HL.out y
      clear hy
      generalize bothL zs (wayL xs y) = O at *
      go_wp2
      go_still_tail 6, (by kernel_rfl)
      change wpList _ _ _ _ _ wr.drew
      go_wp2_with fail
      refine (HQ.out _ (h.below hw.drew) (z.below hw.drew)).mono ?_
      rintro e1 w2 ⟨A2, c2, rfl, ho2, hb2⟩
      replace hE := hE.below (w' := w2) ⟨hb2.os, hb2.tape, hb2.output, hb2.size, hb2.block⟩
      replace hx0 := keep_cell hb2 hx0
      replace hx1 := keep_cell hb2 hx1
      replace hw := keep_below hb2 hw.drew
      clear hb2 ho2 HQ
      by_cases h1 : O.length = 1
      · have HA2 := Lib.hid (HA'.out h1)
        have hd : ((O.length : Int) != 1) = false := by rw [bne_eq_false_iff_eq]; omega
        clear h1 HA' hn1 HA
        go_wp2
        go_roundw
        case rel => exact ⟨j + 1, by omega, by go_num, HA2, hE, hx0, hx1, hw⟩
        case measure => simp [intOf]; omega
      · have hr : r = false := hn1.out h1
        subst hr
        have hd : ((O.length : Int) != 1) = true := by rw [bne_iff_ne]; omega
        clear h1 HA' hn1 HA HNo HYes
        go_wp2
        go_ret
        exact ⟨rfl, hw⟩
    · have hr := HYes.out (fun q y hq hy => HA.out q y (by omega) hy)
      subst hr
      clear HNo HYes HA HO HEM HL
      go_wp2_with fail
      refine (HR.out _ (z.below hw)).mono ?_
      rintro e1 w2 ⟨rfl, hb2⟩
      go_wp2
      go_ret
      exact ⟨rfl, keep_below hb2 hw⟩

theorem allWithin_b2 (A : Option Addr) (c : Nat) (zs : List Int) (lo hi : Int) (w : World) (h : IntS w A zs) (hn : zs.length ≤ 1048576) :
    Calls Try.prog 137 #[.slice A zs.length c, .int .i64 lo, .int .i64 hi] w fun e w' => e = .returned (.bool (allIn zs lo hi)) ∧ Below w.heap.size w w' :=
  (allWithin_any A c zs lo hi w h (by unfold maxLen; omega)).mono fun _ _ ⟨he, hw⟩ => ⟨he, by rw [← hw]; exact Below.refl _ _⟩
set_option maxHeartbeats 2000000 in
set_option maxRecDepth 100000 in
theorem isStopping_good {xs ys : List Int} (hg : good xs ys = true) (A B P : Option Addr) (c m e cz : Nat) (zs : List Int) (w : World) (h : IntS w A xs) (z : IntS w P zs) (hz : zs.length ≤ 1048576) :
    Calls Try.prog 97 #[.agg #[.slice A xs.length c, .slice B m e], .slice P zs.length cz] w fun e1 w' => e1 = .returned (.bool (isStp xs zs)) ∧ Below w.heap.size w w' := by
  have hgl := good_len hg
  have HR := Lib.hid (fun W (z : IntS W P zs) => rising_any P cz zs W z (by omega))
  have HI := Lib.hid (fun W (z : IntS W P zs) => allWithin_b2 P cz zs 0 ((xs.length : Int) - 1) W z hz)
  have n1 := hgl.1
  have n2 := hgl.2.1
  obtain ⟨r1, q1⟩ : ∃ r, riseB zs = r := ⟨_, rfl⟩
  rw [q1] at HR
  cases r1
  case false =>
    rw [show isStp xs zs = false from by unfold isStp; rw [q1]; simp]
    clear q1 hg hgl
    go_enter Try.func97, Try.ntmps97
    go_wp2_with fail
    refine (HR.out _ (z.alloc _)).mono ?_
    rintro e1 w1 ⟨rfl, hb1⟩
    go_wp2
    go_ret
    exact ⟨rfl, below_alloc hb1⟩
  case true =>
  obtain ⟨r2, q2⟩ : ∃ r, allIn zs 0 ((xs.length : Int) - 1) = r := ⟨_, rfl⟩
  rw [q2] at HI
  cases r2
  case false =>
    rw [show isStp xs zs = false from by unfold isStp; rw [q2]; simp]
    clear q1 q2 hg hgl
    go_enter Try.func97, Try.ntmps97
    go_wp2_with fail
    refine (HR.out _ (z.alloc _)).mono ?_
    rintro e1 w1 ⟨rfl, hb1⟩
    have hx0 : w1.cell? ⟨w.heap.size, 0, none⟩ = some (.slice A xs.length c) := keep_cell hb1 (by simp)
    have hx1 : w1.cell? ⟨w.heap.size, 1, none⟩ = some (.slice B m e) := keep_cell hb1 (by simp)
    have hw : Below w.heap.size w w1 := below_alloc hb1
    clear hb1
    go_wp2_with fail
    refine (HI.out _ (z.below hw)).mono ?_
    rintro e1 w2 ⟨rfl, hb2⟩
    go_wp2
    go_ret
    exact ⟨rfl, keep_below hb2 hw⟩
  case true =>
  have HWy := Lib.hid (fun W (h : IntS W A xs) (x : Nat) (hx : x < xs.length) => way_any hg A B c m e x W h hx)
  have HB := Lib.hid (fun W (R : Option Addr) (cr x : Nat) (hx : x < xs.length) (r : IntS W R (wayL xs x)) (z : IntS W P zs) => both_any R P cr cz (wayL xs x) zs W r z (by have := way_len xs x; omega) hz)
  have HE := Lib.hid (fun W (h : IntS W A xs) => ends_any A B c m e xs W h (by omega) (good_iff.1 hg).2.1 (good_root hg))
  have hep := ends_pos hg
  have hel := ends_len xs
  have HEM : Hid (∀ j, j < (endsL xs).length → ∃ y : Nat, nth (endsL xs) j = y ∧ y < xs.length) := fun j hj => by obtain ⟨y, h1, h2, _⟩ := ends_mem hj; exact ⟨y, h1, h2⟩
  have HC : Hid (∀ x : Nat, x < xs.length → bothL (wayL xs x) zs = bothL zs (wayL xs x)) := fun x hx => both_comm (asc_way (good_upL hg) x hx) (asc_rise.1 q1)
  have HL : Hid (∀ x : Nat, (bothL zs (wayL xs x)).length ≤ 1048576) := fun x => by have := bothL_len zs (wayL xs x); omega
  generalize hr : isStp xs zs = r
  have HNo : Hid (∀ j y : Nat, j < (endsL xs).length → nth (endsL xs) j = y → ¬ (bothL zs (wayL xs y)).length = 1 → r = false) := fun j y hj hy hn => by
    rw [← hr]; unfold isStp; rw [onB_no hj (by rw [hy]; exact hn)]; rfl
  have HYes : Hid ((∀ j y : Nat, j < (endsL xs).length → nth (endsL xs) j = y → (bothL zs (wayL xs y)).length = 1) → r = true) := fun ha => by
    rw [← hr]; unfold isStp; rw [onB_iff.2 fun j hj => by obtain ⟨y, h1, h2⟩ := HEM.out j hj; rw [h1]; exact ha j y hj h1, q1, q2]; rfl
  clear hr hg q1 q2 hgl
  generalize xs.length = n at *
  generalize endsL xs = E at *
  go_enter Try.func97, Try.ntmps97
  go_wp2_with fail
  refine (HR.out _ (z.alloc _)).mono ?_
  rintro e1 w1 ⟨rfl, hb1⟩
  have hx0 : w1.cell? ⟨w.heap.size, 0, none⟩ = some (.slice A n c) := keep_cell hb1 (by simp)
  have hx1 : w1.cell? ⟨w.heap.size, 1, none⟩ = some (.slice B m e) := keep_cell hb1 (by simp)
  have hw : Below w.heap.size w w1 := below_alloc hb1
  clear hb1
  go_wp2_with fail
  refine (HI.out _ (z.below hw)).mono ?_
  rintro e1 w2 ⟨rfl, hb2⟩
  replace hx0 := keep_cell hb2 hx0
  replace hx1 := keep_cell hb2 hx1
  replace hw := keep_below hb2 hw
  clear hb2
  go_wp2_with fail
  refine (HE.out _ (h.below hw)).mono ?_
  rintro e1 w3 ⟨A1, c1, rfl, ho, hb2⟩
  replace hx0 := keep_cell hb2 hx0
  replace hx1 := keep_cell hb2 hx1
  replace hw := keep_below hb2 hw
  obtain ⟨gE, rfl, hgE, hE⟩ := ho.pos hep
  clear ho HE hgE hb2
  go_wp2
  go_loopw [22] (fun i wr => ∃ j : Nat, j ≤ E.length ∧ i = .int .i64 (j : Int) ∧ Hid (∀ q y : Nat, q < j → nth E q = y → (bothL zs (wayL xs y)).length = 1) ∧ Row wr gE E ∧ wr.cell? ⟨w.heap.size, 0, none⟩ = some (.slice A n c) ∧ wr.cell? ⟨w.heap.size, 1, none⟩ = some (.slice B m e) ∧ Below w.heap.size w wr) (fun i _ => E.length - (intOf i).toNat)
  case atStart => exact ⟨0, Nat.zero_le _, rfl, fun j y hj => by omega, hE, hx0, hx1, hw⟩
  case round =>
    clear hx0 hx1 hw hE
    obtain ⟨j, hj, rfl, HA, hE, hx0, hx1, hw⟩ := hrel
    by_cases hlt : j < E.length
    · obtain ⟨y, hy, hyn⟩ := HEM.out j hlt
      have hcE := hE.cell hlt
      rw [hy] at hcE
      have hn1 := Lib.hid (HNo.out j y hlt hy)
      have HA' : Hid ((bothL zs (wayL xs y)).length = 1 → ∀ q y : Nat, q < j + 1 → nth E q = y → (bothL zs (wayL xs y)).length = 1) := fun h1 q y' hq hy' => by
        by_cases e : q = j
        · subst e; rw [hy] at hy'; have : y = y' := by omega
          subst this; exact h1
        · exact HA.out q y' (by omega) hy'
      have hbl := HL.out y
      have HQ := Lib.hid (fun W (h : IntS W A xs) => HWy.out W h y hyn)
      have HQ2 := fun W (R : Option Addr) (cr : Nat) (r : IntS W R (wayL xs y)) (z : IntS W P zs) => HB.out W R cr y hyn r z
      rw [HC.out y hyn] at HQ2
      replace HQ2 := Lib.hid HQ2
      clear hy
      generalize bothL zs (wayL xs y) = O at *
      generalize wayL xs y = K at *
      go_wp2_with fail
      refine (HQ.out _ (h.below hw)).mono ?_
      rintro e1 w4 ⟨A3, c3, rfl, ho3, hb2⟩
      replace hE := hE.below hb2
      replace hx0 := keep_cell hb2 hx0
      replace hx1 := keep_cell hb2 hx1
      replace hw := keep_below hb2 hw
      clear hb2 HQ
      go_wp2_with fail
      refine (HQ2.out _ _ _ ho3.ints (z.below hw)).mono ?_
      rintro e1 w5 ⟨A4, c4, rfl, ho4, hb2⟩
      replace hE := hE.below hb2
      replace hx0 := keep_cell hb2 hx0
      replace hx1 := keep_cell hb2 hx1
      replace hw := keep_below hb2 hw
      clear hb2 HQ2 ho3 ho4
      by_cases h1 : O.length = 1
      · have HA2 := Lib.hid (HA'.out h1)
        have hd : ((O.length : Int) != 1) = false := by rw [bne_eq_false_iff_eq]; omega
        clear h1 HA' hn1 HA
        go_wp2
        go_roundw
        case rel => exact ⟨j + 1, by omega, by go_num, HA2, hE, hx0, hx1, hw⟩
        case measure => simp [intOf]; omega
      · have hr : r = false := hn1.out h1
        subst hr
        have hd : ((O.length : Int) != 1) = true := by rw [bne_iff_ne]; omega
        clear h1 HA' hn1 HA HNo HYes
        go_wp2
        go_ret
        exact ⟨rfl, hw⟩
    · have hr := HYes.out (fun q y hq hy => HA.out q y (by omega) hy)
      subst hr
      clear HNo HYes HA HB HWy HEM HL HC
      go_wp2
      go_ret
      exact ⟨rfl, hw⟩
end Go.Proofs.Ytombfbmcplefgaa
