/- Contracts: what makes a tree (the reference's). -/
import Derived.Test.YtfpokpgkkjibfaaDoorTree5
namespace Go.Proofs.YtfpokpgkkjibfaaDoor
open Go.ChangeShapes Go.WideShapes Go.ChangeAt Go.RowKit

theorem kids_noKid {xs : List Int} (hu : UpOk xs xs.length) (h0 : nth xs 0 = -1) (q : Nat) : ((pick (isKid xs q) xs.length).length = 0) ↔ noKid xs xs.length q = true := by
  unfold pick noKid
  rw [List.length_map, List.length_eq_zero_iff, List.filter_eq_nil_iff, List.all_eq_true]
  constructor
  · intro h y hy
    have := h y hy
    simp [isKid] at this
    simp only [bne_iff_ne, ne_eq]
    intro e
    have hy' := List.mem_range.1 hy
    by_cases e0 : y = 0
    · subst e0; omega
    · have := of_decide_eq_true (hu y (by omega) hy')
      exact (by assumption : q < y → ¬ nth xs y = ↑q) (by omega) e
  · intro h y hy
    have := h y hy
    simp only [bne_iff_ne, ne_eq] at this
    simp [isKid, this]

set_option maxHeartbeats 1000000 in
theorem l2Good_head (A B : Option Addr) (c e : Nat) (xs ys : List Int) (w : World) (hn : xs.length ≤ 1048576) (hm : ys.length ≤ 1048576) (hh : ¬ ((1 ≤ xs.length ∧ xs.length ≤ 24) ∧ ys.length = xs.length)) :
    Calls Tryd.prog 63 #[.agg #[.slice A xs.length c, .slice B ys.length e]] w fun e' w' => e' = .returned (.bool false) ∧ Below w.heap.size w w' := by
  by_cases h1 : 1 ≤ xs.length ∧ xs.length ≤ 24
  · have hd : ((ys.length : Int) != (xs.length : Int)) = true := by simp; omega
    clear hh
    go_enter Tryd.func63, Tryd.ntmps63
    go_wp2_with (go_at_call 50; refine (l1In_yes _ _ _ _ (by omega) (by omega)).mono ?_; rintro e w' ⟨rfl, rfl⟩)
    go_ret
    exact ⟨rfl, by (repeat (first | with_reducible exact Below.refl _ _ | with_reducible assumption | with_reducible refine Below.alloc' ?_ ?_ _ | with_reducible refine Below.setCell' ?_ ?_ _ | with_reducible refine Below.drewN' ?_ _ | with_reducible refine Below.drew ?_ | with_reducible refine Below.transA ?_ (by assumption) ?_ | omega | (focus (simp; done)) | (focus (simp; omega))))⟩
  · clear hh
    go_enter Tryd.func63, Tryd.ntmps63
    go_wp2_with (go_at_call 50; refine (l1In_no _ _ _ _ (by omega)).mono ?_; rintro e w' ⟨rfl, rfl⟩)
    go_ret
    exact ⟨rfl, by (repeat (first | with_reducible exact Below.refl _ _ | with_reducible assumption | with_reducible refine Below.alloc' ?_ ?_ _ | with_reducible refine Below.setCell' ?_ ?_ _ | with_reducible refine Below.drewN' ?_ _ | with_reducible refine Below.drew ?_ | with_reducible refine Below.transA ?_ (by assumption) ?_ | omega | (focus (simp; done)) | (focus (simp; omega))))⟩

set_option maxHeartbeats 4000000 in
set_option maxRecDepth 100000 in
theorem l2Good_body (A B : Option Addr) (c e : Nat) (xs ys : List Int) (w : World) (h : IntS w A xs) (k : IntS w B ys) (hx : Bd xs) (hy : Bd ys) (hh : (1 ≤ xs.length ∧ xs.length ≤ 24) ∧ ys.length = xs.length) :
    Calls Tryd.prog 63 #[.agg #[.slice A xs.length c, .slice B ys.length e]] w fun e' w' => e' = .returned (.bool (good xs ys)) ∧ Below w.heap.size w w' := by
  obtain ⟨h1, h2⟩ := id hh
  obtain ⟨n, hn'⟩ : ∃ n, n = xs.length := ⟨_, rfl⟩
  have HN : Hid (n = xs.length) := hn'
  rw [h2, ← hn']
  rw [← hn'] at h1
  obtain ⟨h10, h11⟩ := h1
  have HH := Lib.hid hh
  have HY : Hid (ys.length = n) := by rw [hn']; exact h2
  clear hh h2 hn'
  generalize hg : good xs ys = r
  have HG := Lib.hid hg
  clear hg
  go_enter Tryd.func63, Tryd.ntmps63
  go_wp2_with (go_at_call 50; refine (l1In_yes _ _ _ _ (by omega) (by omega)).mono ?_; rintro e w' ⟨rfl, rfl⟩)
  go_loopw [4] (fun i wr => ∃ j : Nat, j ≤ n ∧ i = .int .i64 j ∧ UpOk xs j ∧ Hid (0 < j → nth xs 0 = -1) ∧ wr = w.alloc (.cells #[.slice A n c, .slice B n e] 34)) (fun i _ => n - (intOf i).toNat)
  case atStart => exact ⟨0, by omega, rfl, fun x h1 h2 => by omega, fun h => by omega, rfl⟩
  case round =>
    obtain ⟨j, hjn, rfl, hup, H0, rfl⟩ := hrel
    by_cases hlt : j < n
    · obtain ⟨b, o, rfl, hc⟩ := h.at_ (j := j) (by rw [← HN.out]; exact hlt)
      have hb : b < w.heap.size := World.block_lt_of_cell? w _ hc
      have hbx := hx j
      by_cases hj0 : j = 0
      · subst hj0
        rw [Nat.add_zero] at hc
        by_cases hr0 : nth xs 0 = -1
        · rw [hr0] at hc
          have H0' : Hid (0 < 0 + 1 → nth xs 0 = -1) := fun _ => hr0
          have hup1 : UpOk xs (0 + 1) := fun x h1 h2 => by omega
          clear hup H0 hr0 hbx
          go_wp2
          go_roundw
          case rel => exact ⟨0 + 1, by omega, by go_num, hup1, H0', by trivial⟩
          case measure => simp [intOf]; omega
        · have hr : r = false := by rw [← HG.out]; exact good_no fun hG => hr0 hG.1.2.2
          subst hr
          have hd : (nth xs 0 != -1) = true := by simpa using hr0
          clear hr0 hup H0
          go_wp2
          go_ret
          exact ⟨rfl, by (repeat (first | with_reducible exact Below.refl _ _ | with_reducible assumption | with_reducible refine Below.alloc' ?_ ?_ _ | with_reducible refine Below.setCell' ?_ ?_ _ | with_reducible refine Below.drewN' ?_ _ | with_reducible refine Below.drew ?_ | with_reducible refine Below.transA ?_ (by assumption) ?_ | omega | (focus (simp; done)) | (focus (simp; omega))))⟩
      · have hjb : ((j : Int) == 0) = false := by simp; omega
        have hjp : (0 : Int) < (j : Int) := by omega
        cases hu : upOk xs j
        · have hr : r = false := by rw [← HG.out]; exact good_no fun hG => by rw [hG.2.1 j (by omega) (by rw [← HN.out]; exact hlt)] at hu; cases hu
          subst hr
          have hnu : ¬ (0 ≤ nth xs j ∧ nth xs j ≤ (j : Int) - 1) := of_decide_eq_false hu
          clear hu hup H0
          go_wp2_with (go_at_call 50; refine (l1In_no _ _ _ _ (by omega)).mono ?_; rintro e w' ⟨rfl, rfl⟩)
          go_ret
          exact ⟨rfl, by (repeat (first | with_reducible exact Below.refl _ _ | with_reducible assumption | with_reducible refine Below.alloc' ?_ ?_ _ | with_reducible refine Below.setCell' ?_ ?_ _ | with_reducible refine Below.drewN' ?_ _ | with_reducible refine Below.drew ?_ | with_reducible refine Below.transA ?_ (by assumption) ?_ | omega | (focus (simp; done)) | (focus (simp; omega))))⟩
        · have hyu := of_decide_eq_true hu
          have hup' := hup.succ hu
          have H0' : Hid (0 < j + 1 → nth xs 0 = -1) := fun _ => H0.out (by omega)
          clear hu hup H0
          go_wp2_with (go_at_call 50; refine (l1In_yes _ _ _ _ (by omega) (by omega)).mono ?_; rintro e w' ⟨rfl, rfl⟩)
          go_roundw
          case rel => exact ⟨j + 1, by omega, by go_num, hup', H0', by trivial⟩
          case measure => simp [intOf]; omega
    · have hjn' : j = n := by omega
      subst hjn'
      have HUp : UpOk xs xs.length := by rw [← HN.out]; exact hup
      have HR : Hid (nth xs 0 = -1) := H0.out (by omega)
      have HK := Lib.hid (fun q => kids_noKid HUp HR.out q)
      clear hup H0
      go_wp2
      go_loopw [5, 6] (fun i _ wr => ∃ q : Nat, q ≤ j ∧ i = .int .i64 q ∧ WtOk xs ys q ∧ wr.cell? ⟨w.heap.size, 0, none⟩ = some (.slice A j c) ∧ wr.cell? ⟨w.heap.size, 1, none⟩ = some (.slice B j e) ∧ Below w.heap.size w wr) (fun i _ _ => j - (intOf i).toNat)
      case atStart => exact ⟨0, by omega, rfl, fun x h2 => by omega, by simp, by simp, by (repeat (first | with_reducible exact Below.refl _ _ | with_reducible assumption | with_reducible refine Below.alloc' ?_ ?_ _ | with_reducible refine Below.setCell' ?_ ?_ _ | with_reducible refine Below.drewN' ?_ _ | with_reducible refine Below.drew ?_ | with_reducible refine Below.transA ?_ (by assumption) ?_ | omega | (focus (simp; done)) | (focus (simp; omega))))⟩
      case round =>
        obtain ⟨q, hq, rfl, hwt, hx0, hx1, hb1⟩ := hrel
        by_cases hlt : q < j
        · have HKc := fun W (hW : IntS W A xs) => l2Kids_any A B c j e q xs W hW (by rw [← HN.out]; omega) (by rw [← HN.out]; exact hlt)
          rw [← HN.out] at HKc
          have HKc' := Lib.hid HKc
          have hpl := HK.out q
          rw [← HN.out] at hpl
          have hwq : wtOk xs ys q = if noKid xs j q then decide (1 ≤ nth ys q ∧ nth ys q ≤ 20) else nth ys q == 0 := by unfold wtOk; rw [HN.out]
          have hbad : wtOk xs ys q = false → r = false := fun hf => by
            rw [← HG.out]; exact good_no fun hG => by rw [hG.2.2 q (by rw [← HN.out]; exact hlt)] at hf; cases hf
          have hby := hy q
          have hpn := pick_len (isKid xs q) j
          clear HKc
          generalize pick (isKid xs q) j = P at *
          go_wp2_with fail
          refine (HKc'.out _ (h.below hb1)).mono ?_
          rintro e1 w1 ⟨A1, c1, rfl, hO, hb2⟩
          have hx0' := keep_cell hb2 hx0
          have hx1' := keep_cell hb2 hx1
          have hb3 := keep_below hb2 hb1
          obtain ⟨b, o, rfl, hc⟩ := (k.below hb3).at_ (j := q) (by rw [HY.out]; exact hlt)
          clear hO hb2 hx0 hx1 hb1 HKc'
          cases hk : noKid xs j q
          · have hpz : ((P.length : Int) == 0) = false := by rw [hk] at hpl; simp at hpl ⊢; omega
            rw [hk, if_neg (by simp)] at hwq
            by_cases hz : nth ys q = 0
            · have hwt' := hwt.succ (k := q) (by rw [hwq]; simpa using hz)
              rw [hz] at hc
              clear hwt hwq hbad hk hz hby hpl
              go_wp2
              go_roundw
              case rel => exact ⟨q + 1, by omega, by go_num, hwt', hx0', hx1', hb3⟩
              case measure => simp [intOf]; omega
            · have hr : r = false := hbad (by rw [hwq]; simpa using hz)
              subst hr
              have hzb : (nth ys q != 0) = true := by simpa using hz
              clear hwt hwq hbad hk hz hby hpl
              go_wp2
              go_ret
              exact ⟨rfl, hb3⟩
          · have hpz : ((P.length : Int) == 0) = true := by rw [hk] at hpl; simp at hpl ⊢; omega
            rw [hk, if_pos rfl] at hwq
            by_cases hz : 1 ≤ nth ys q ∧ nth ys q ≤ 20
            · have hwt' := hwt.succ (k := q) (by rw [hwq]; simpa using hz)
              clear hwt hwq hbad hk hby hpl
              go_wp2_with (go_at_call 50; refine (l1In_yes _ _ _ _ (by omega) (by omega)).mono ?_; rintro e w' ⟨rfl, rfl⟩)
              go_roundw
              case rel => exact ⟨q + 1, by omega, by go_num, hwt', hx0', hx1', hb3⟩
              case measure => simp [intOf]; omega
            · have hr : r = false := hbad (by rw [hwq]; exact decide_eq_false hz)
              subst hr
              clear hwt hwq hbad hk hby hpl
              go_wp2_with (go_at_call 50; refine (l1In_no _ _ _ _ (by omega)).mono ?_; rintro e w' ⟨rfl, rfl⟩)
              go_ret
              exact ⟨rfl, hb3⟩
        · have hqj : q = j := by omega
          subst hqj
          have hr : r = true := by
            rw [← HG.out]; exact good_yes ⟨⟨HH.out.1, HH.out.2, HR.out⟩, HUp, by rw [← HN.out]; exact hwt⟩
          subst hr
          clear hwt
          go_wp2
          go_ret
          exact ⟨rfl, hb1⟩

theorem l2Good_any (A B : Option Addr) (c e : Nat) (xs ys : List Int) (w : World) (h : IntS w A xs) (k : IntS w B ys) (hx : Bd xs) (hy : Bd ys) (hn : xs.length ≤ 1048576) (hm : ys.length ≤ 1048576) :
    Calls Tryd.prog 63 #[.agg #[.slice A xs.length c, .slice B ys.length e]] w fun e' w' => e' = .returned (.bool (good xs ys)) ∧ Below w.heap.size w w' := by
  by_cases hh : (1 ≤ xs.length ∧ xs.length ≤ 24) ∧ ys.length = xs.length
  · exact l2Good_body A B c e xs ys w h k hx hy hh
  · rw [good_no fun hG => hh ⟨hG.1.1, hG.1.2.1⟩]
    exact l2Good_head A B c e xs ys w hn hm hh
end Go.Proofs.YtfpokpgkkjibfaaDoor
