/- Contracts: the process of the means of pays. -/
import Derived.Test.YtkbjocndkopjiaaMeans
namespace Go.Proofs.Ytkbjocndkopjiaa
open Go.ChangeShapes Go.WideShapes Go.ChangeAt Go.RowKit

def oneB (L : List (Int × Int)) : Bool := L.all fun q => q.2 == 1
def fstL (L : List (Int × Int)) (k : Nat) : List Int := (L.take k).map Prod.fst
def frPick : Bool → List Int → List Int
  | true, M => M
  | false, _ => []
theorem fstL_succ {L : List (Int × Int)} {k : Nat} (h : k < L.length) : fstL L (k + 1) = fstL L k ++ [(nthp L k).1] := by
  unfold fstL
  rw [List.take_succ_eq_append_getElem h, List.map_append]
  have e : nthp L k = L[k] := by unfold nthp; rw [List.getD_eq_getElem?_getD, List.getElem?_eq_getElem h]; rfl
  rw [e]; rfl
theorem fstL_len {L : List (Int × Int)} {k : Nat} (h : k ≤ L.length) : (fstL L k).length = k := by simp [fstL]; omega
theorem oneB_no {L : List (Int × Int)} {j : Nat} (h : j < L.length) (hb : (nthp L j).2 ≠ 1) : oneB L = false := by
  unfold oneB; rw [List.all_eq_false]; exact ⟨_, nthp_mem h, by simpa using hb⟩
theorem oneB_yes {L : List (Int × Int)} (h : ∀ j, j < L.length → (nthp L j).2 = 1) : oneB L = true := by
  unfold oneB; rw [List.all_eq_true]; intro q hq
  obtain ⟨j, hj, e⟩ := List.getElem_of_mem hq
  have := h j hj
  have e2 : nthp L j = q := by unfold nthp; rw [List.getD_eq_getElem?_getD, List.getElem?_eq_getElem hj]; exact e
  rw [e2] at this; simp [this]
noncomputable def frOk (xs ys ps : List Int) : Bool := mnsOk xs ys ps && oneB (mnsK xs ys ps xs.length)
noncomputable def frR (xs ys ps : List Int) : List Int := frPick (frOk xs ys ps) (fstL (mnsK xs ys ps xs.length) (mnsK xs ys ps xs.length).length)
theorem frOk_no {xs ys ps : List Int} (h : mnsOk xs ys ps = false) : frOk xs ys ps = false := by unfold frOk; rw [h]; rfl
theorem frOk_yes {xs ys ps : List Int} (h : mnsOk xs ys ps = true) : frOk xs ys ps = oneB (mnsK xs ys ps xs.length) := by unfold frOk; rw [h]; rfl
theorem frR_no {xs ys ps : List Int} (h : mnsOk xs ys ps = false) : frR xs ys ps = [] := by unfold frR; rw [frOk_no h]; rfl
theorem frR_yes {xs ys ps : List Int} (h : mnsOk xs ys ps = true) : frR xs ys ps = frPick (oneB (mnsK xs ys ps xs.length)) (fstL (mnsK xs ys ps xs.length) (mnsK xs ys ps xs.length).length) := by unfold frR; rw [frOk_yes h]
theorem frR_len (xs ys ps : List Int) (hn : xs.length ≤ 1048576) : (frR xs ys ps).length ≤ 2000000 := by
  unfold frR
  cases frOk xs ys ps with
  | false => simp [frPick]
  | true =>
    show (fstL _ _).length ≤ 2000000
    rw [fstL_len (Nat.le_refl _)]
    have := mnsK_len xs ys ps xs.length; omega
set_option maxHeartbeats 2000000 in
set_option maxRecDepth 100000 in
theorem specFairProcess_any (A B : Option Addr) (c e : Nat) (xs ys : List Int) (P : Option Addr) (cp : Nat) (ps : List Int) (w : World) (h : IntS w A xs) (k : IntS w B ys) (zp : IntS w P ps) (_hx : Bd xs) (_hy : Bd ys) (_bp : Bd ps) (hn : xs.length ≤ 1048576) (hm : ys.length ≤ 1048576) (lp : ps.length ≤ 1048576) :
    Calls Try.prog 13 #[.agg #[.slice A xs.length c, .slice B ys.length e], .slice P ps.length cp] w (RetIB w (frR xs ys ps) (frOk xs ys ps)) := by
  obtain ⟨r1, q1⟩ : ∃ r, (good xs ys && payB xs ps) = r := ⟨_, rfl⟩
  cases r1
  case false =>
    have hO : mnsOk xs ys ps = false := by unfold mnsOk ; simp [q1]
    have hV_frR := frR_no hO
    have hV_frOk := frOk_no hO
    rw [hV_frR]
    rw [hV_frOk]
    (try rw [hO])
    clear hO hV_frR hV_frOk
    have HG1 := Lib.hid (fun W (h : IntS W A xs) (k : IntS W B ys) (zp : IntS W P ps) => l2Pays_any A B P c e cp xs ys ps W h k zp _hx _hy hn hm lp)
    rw [q1] at HG1
    clear q1 _hx _hy _bp
    go_enter Try.func13, Try.ntmps13
    go_wp2_with fail
    refine (HG1.out _ ((h.alloc _).alloc _) ((k.alloc _).alloc _) ((zp.alloc _).alloc _)).mono ?_
    rintro e1 w1 ⟨rfl, hb⟩
    have hx0 : w1.cell? ⟨w.heap.size, 0, none⟩ = some (.slice A xs.length c) := keep_cell hb (by simp)
    have hx1 : w1.cell? ⟨w.heap.size, 1, none⟩ = some (.slice B ys.length e) := keep_cell hb (by simp)
    have hown := own_below (own_empty _ (w.heap.size + 1) (w.heap.size + 1) (by simp) (by simp)) hb
    have hw : Below w.heap.size w w1 := below_alloc (below_alloc (hb))
    clear hb
    obtain ⟨A', c', hv, hO⟩ := own_form (xs := []) hown
    cases hv
    clear hown
    go_wp2
    go_ret2
    exact ⟨_, _, rfl, hO.mono (by omega), hw⟩
  case true =>
    have hO : mnsOk xs ys ps = true := by unfold mnsOk ; simp [q1]
    have hV_frR := frR_yes hO
    have hV_frOk := frOk_yes hO
    rw [hV_frR]
    rw [hV_frOk]
    (try rw [hO])
    clear hO hV_frR hV_frOk
    have HG1 := Lib.hid (fun W (h : IntS W A xs) (k : IntS W B ys) (zp : IntS W P ps) => l2Pays_any A B P c e cp xs ys ps W h k zp _hx _hy hn hm lp)
    rw [q1] at HG1
    have hgl := good_len (Bool.and_eq_true_iff.1 q1).1
    have HD := Lib.hid (fun W (h : IntS W A xs) (k : IntS W B ys) (zp : IntS W P ps) => l2Means_good (Bool.and_eq_true_iff.1 q1).1 A B P c e cp ps W h k zp (Bool.and_eq_true_iff.1 q1).2)
    have hLl := mnsK_len xs ys ps xs.length
    have hL1 : 1 ≤ (mnsK xs ys ps xs.length).length := by rw [hLl]; exact hgl.1
    have hL2 : (mnsK xs ys ps xs.length).length ≤ 24 := by rw [hLl]; exact hgl.2.1
    clear hgl hLl
    generalize mnsK xs ys ps xs.length = L at *
    generalize hg : oneB L = r at *
    have HG := Lib.hid hg
    have HFS := Lib.hid (fun k (h : k < L.length) => fstL_succ h)
    have HFL := Lib.hid (fun k (h : k ≤ L.length) => fstL_len h)
    clear hg
    clear q1 _hx _hy _bp
    go_enter Try.func13, Try.ntmps13
    go_wp2_with fail
    refine (HG1.out _ ((h.alloc _).alloc _) ((k.alloc _).alloc _) ((zp.alloc _).alloc _)).mono ?_
    rintro e1 w1 ⟨rfl, hb⟩
    have hx0 : w1.cell? ⟨w.heap.size, 0, none⟩ = some (.slice A xs.length c) := keep_cell hb (by simp)
    have hx1 : w1.cell? ⟨w.heap.size, 1, none⟩ = some (.slice B ys.length e) := keep_cell hb (by simp)
    have hown := own_below (own_empty _ (w.heap.size + 1) (w.heap.size + 1) (by simp) (by simp)) hb
    have hw : Below w.heap.size w w1 := below_alloc (below_alloc (hb))
    clear hb
    clear HG1
    obtain ⟨i0, hi, hz0, hz1, hz2⟩ := info_parts info_int
    have hs1 := (hown.lt (w.heap.size + 1) rfl).2
    go_wp2_with fail
    refine (HD.out _ (h.below hw) (k.below hw) (zp.below hw)).mono ?_
    rintro e1 w9 ⟨A1, c1, rfl, ho, hb1⟩
    obtain ⟨gL, rfl, hgL, hrL⟩ := ho.pos hL1
    replace hown := own_below hown hb1
    replace hw := keep_below hb1 hw
    clear ho hb1 hx0 hx1
    go_wp2
    go_loopw [6, 8] (fun v i wr => ∃ j : Nat, j ≤ L.length ∧ i = .int .i64 j ∧ wr.ownsRow (w.heap.size + 1) 3 1 v (fstL L j).length (i64s (fstL L j)) ∧ v.ownBlock ≠ some gL ∧ Hid (∀ q, q < j → (nthp L q).2 = 1) ∧ Row2 wr gL L ∧ Below w.heap.size w wr) (fun _ i _ => L.length - (intOf i).toNat)
    case atStart => exact ⟨0, by omega, rfl, hown, by simp [Value.ownBlock]; omega, fun q hq => by omega, hrL, hw⟩
    case round =>
      clear hown hrL hw
      obtain ⟨j, hj, rfl, hown, hne, HA, hrL, hw⟩ := hrel
      by_cases hlt : j < L.length
      · have hc0 := hrL.cell0 hlt
        have hc1 := hrL.cell1 hlt
        have i1 : (j : Int) < L.length := by omega
        have HMJ := Lib.hid (HFL.out j hj)
        have hfs := HFS.out j hlt
        have HZ : (nthp L j).2 = 1 → Hid (∀ q, q < j + 1 → (nthp L q).2 = 1) := fun hz i hi => by
          by_cases e : i = j
          · subst e; exact hz
          · exact HA.out i (by omega)
        have HN := Lib.hid (fun (hz : (nthp L j).2 ≠ 1) => oneB_no hlt hz)
        generalize (nthp L j).1 = a at *
        generalize (nthp L j).2 = b at *
        have HPX : Hid ((fstL L (j + 1)).length = (fstL L j).length + 1 ∧ i64s (fstL L (j + 1)) = i64s (fstL L j) ++ [Value.int .i64 a]) := by
          rw [hfs]; exact ⟨by simp, by simp [i64s]⟩
        have hlen : (fstL L j).length ≤ 24 := by rw [HMJ.out]; omega
        clear hfs
        generalize fstL L j = FX at *
        by_cases h1 : b = 1
        · have HA' := HZ h1
          have d1 : (b != 1) = false := by rw [h1]; rfl
          clear HZ HN h1
          have hwz := hw.size
          go_wp2_with (at_builtin; (refine wpList_append_own_at _ rfl _ _ 22 rfl (w.heap.size + 1) 3 i0 (.int .i64 0) 1 8 Try.underlying22 hi hz0 hz1 hz2 rfl (by decide) _ _ _ rfl (hown.alloc _) ⟨wr.heap.size, 0, none⟩ 1 1 [.int .i64 (a)] rfl rfl (cell_one_new _ _ _) (by simp [Value.oneCell']) (by unfold maxLen; omega) (by omega) (by simp; omega) ?_); intro v' w1 hown1 hgrow _ hat)
          have hb3 : Below w.heap.size w w1 := Below.grown (hw.alloc hw.size _) hgrow (by have := hw.size; simp at *; omega) (fun g hg => by have := (hown.lt g hg).1; omega)
          have hrL1 := (hrL.alloc _).grown hgrow (fun h => hne (by exact h))
          have hlL := hrL.lt
          have hne1 : v'.ownBlock ≠ some gL := by
            rcases hat with e | e
            · rw [e]; exact hne
            · rw [e]; intro h'; injection h' with h'; simp at h' hlL; omega
          rw [← HPX.out.1, ← HPX.out.2] at hown1
          clear hown hgrow hrL hw HPX hne hat
          go_wp2
          go_roundw
          case rel => exact ⟨j + 1, by omega, by go_num, hown1, hne1, HA', hrL1, hb3⟩
          case measure => simp only [intOf]; omega
        · have hr' : r = false := by rw [← HG.out]; exact HN.out h1
          subst hr'
          have d1 : (b != 1) = true := bne_iff_ne.2 h1
          clear HZ HN hown hne
          go_wp2
          go_ret2
          exact ⟨_, _, rfl, .inr ⟨_, rfl, hw.size, ⟨#[], heap_alloc_new _ _, [], rfl⟩⟩, keep_below_alloc hw _⟩
      · have hr' : r = true := by rw [← HG.out]; exact oneB_yes fun q hq => HA.out q (by omega)
        subst hr'
        have hkn : j = L.length := by omega
        rw [hkn] at hown
        obtain ⟨A', c', rfl, hO⟩ := own_form hown
        have i3 : ¬ ((j : Int) < L.length) := by omega
        clear hkn hown
        go_wp2
        go_ret2
        exact ⟨A', c', rfl, hO.mono (by omega), hw⟩
set_option maxHeartbeats 2000000 in
set_option maxRecDepth 100000 in
theorem implFairProcess_any (A B : Option Addr) (c e : Nat) (xs ys : List Int) (P : Option Addr) (cp : Nat) (ps : List Int) (w : World) (h : IntS w A xs) (k : IntS w B ys) (zp : IntS w P ps) (_hx : Bd xs) (_hy : Bd ys) (_bp : Bd ps) (hn : xs.length ≤ 1048576) (hm : ys.length ≤ 1048576) (lp : ps.length ≤ 1048576) :
    Calls Try.prog 16 #[.agg #[.slice A xs.length c, .slice B ys.length e], .slice P ps.length cp] w (RetIB w (frR xs ys ps) (frOk xs ys ps)) := by
  obtain ⟨r1, q1⟩ : ∃ r, (good xs ys) = r := ⟨_, rfl⟩
  cases r1
  case false =>
    have hO : mnsOk xs ys ps = false := by unfold mnsOk ; simp [q1]
    have hV_frR := frR_no hO
    have hV_frOk := frOk_no hO
    rw [hV_frR]
    rw [hV_frOk]
    (try rw [hO])
    clear hO hV_frR hV_frOk
    have HG1 := Lib.hid (fun W (h : IntS W A xs) (k : IntS W B ys) => isTree_any A B c e xs ys W h k _hx _hy hn hm)
    rw [q1] at HG1
    clear q1 _hx _hy _bp
    go_enter Try.func16, Try.ntmps16
    go_wp2_with fail
    refine (HG1.out _ (h.alloc _) (k.alloc _)).mono ?_
    rintro e1 w1 ⟨rfl, hb⟩
    have hx0 : w1.cell? ⟨w.heap.size, 0, none⟩ = some (.slice A xs.length c) := keep_cell hb (by simp)
    have hx1 : w1.cell? ⟨w.heap.size, 1, none⟩ = some (.slice B ys.length e) := keep_cell hb (by simp)
    have hw : Below w.heap.size w w1 := below_alloc (hb)
    clear hb
    go_wp2
    go_ret2
    exact ⟨none, 0, rfl, .inl ⟨rfl, rfl⟩, hw⟩
  case true =>
    obtain ⟨r2, q2⟩ : ∃ r, (payB xs ps) = r := ⟨_, rfl⟩
    cases r2
    case false =>
      have hO : mnsOk xs ys ps = false := by unfold mnsOk ; simp [q1, q2]
      have hV_frR := frR_no hO
      have hV_frOk := frOk_no hO
      rw [hV_frR]
      rw [hV_frOk]
      (try rw [hO])
      clear hO hV_frR hV_frOk
      have HG1 := Lib.hid (fun W (h : IntS W A xs) (k : IntS W B ys) => isTree_any A B c e xs ys W h k _hx _hy hn hm)
      rw [q1] at HG1
      have HG2 := Lib.hid (fun W (h : IntS W A xs) (zp : IntS W P ps) => arePays_good q1 A B P c ys.length e cp ps W h zp lp)
      rw [q2] at HG2
      clear q1 q2 _hx _hy _bp
      go_enter Try.func16, Try.ntmps16
      go_wp2_with fail
      refine (HG1.out _ (h.alloc _) (k.alloc _)).mono ?_
      rintro e1 w1 ⟨rfl, hb⟩
      have hx0 : w1.cell? ⟨w.heap.size, 0, none⟩ = some (.slice A xs.length c) := keep_cell hb (by simp)
      have hx1 : w1.cell? ⟨w.heap.size, 1, none⟩ = some (.slice B ys.length e) := keep_cell hb (by simp)
      have hw : Below w.heap.size w w1 := below_alloc (hb)
      clear hb
      go_wp2_with fail
      refine (HG2.out _ (h.below hw) (zp.below hw)).mono ?_
      rintro e1 w2 ⟨rfl, hb⟩
      replace hx0 := keep_cell hb hx0
      replace hx1 := keep_cell hb hx1
      replace hw := keep_below hb hw
      clear hb
      go_wp2
      go_ret2
      exact ⟨none, 0, rfl, .inl ⟨rfl, rfl⟩, hw⟩
    case true =>
      have hO : mnsOk xs ys ps = true := by unfold mnsOk ; simp [q1, q2]
      have hV_frR := frR_yes hO
      have hV_frOk := frOk_yes hO
      rw [hV_frR]
      rw [hV_frOk]
      (try rw [hO])
      clear hO hV_frR hV_frOk
      have HG1 := Lib.hid (fun W (h : IntS W A xs) (k : IntS W B ys) => isTree_any A B c e xs ys W h k _hx _hy hn hm)
      rw [q1] at HG1
      have HG2 := Lib.hid (fun W (h : IntS W A xs) (zp : IntS W P ps) => arePays_good q1 A B P c ys.length e cp ps W h zp lp)
      rw [q2] at HG2
      have hgl := good_len q1
      have HD := Lib.hid (fun W (h : IntS W A xs) (k : IntS W B ys) (zp : IntS W P ps) => means_good q1 A B P c e cp ps W h k zp q2)
      have hLl := mnsK_len xs ys ps xs.length
      have hL1 : 1 ≤ (mnsK xs ys ps xs.length).length := by rw [hLl]; exact hgl.1
      have hL2 : (mnsK xs ys ps xs.length).length ≤ 24 := by rw [hLl]; exact hgl.2.1
      clear hgl hLl
      generalize mnsK xs ys ps xs.length = L at *
      generalize hg : oneB L = r at *
      have HG := Lib.hid hg
      have HFS := Lib.hid (fun k (h : k < L.length) => fstL_succ h)
      have HFL := Lib.hid (fun k (h : k ≤ L.length) => fstL_len h)
      clear hg
      clear q1 q2 _hx _hy _bp
      go_enter Try.func16, Try.ntmps16
      go_wp2_with fail
      refine (HG1.out _ (h.alloc _) (k.alloc _)).mono ?_
      rintro e1 w1 ⟨rfl, hb⟩
      have hx0 : w1.cell? ⟨w.heap.size, 0, none⟩ = some (.slice A xs.length c) := keep_cell hb (by simp)
      have hx1 : w1.cell? ⟨w.heap.size, 1, none⟩ = some (.slice B ys.length e) := keep_cell hb (by simp)
      have hw : Below w.heap.size w w1 := below_alloc (hb)
      clear hb
      go_wp2_with fail
      refine (HG2.out _ (h.below hw) (zp.below hw)).mono ?_
      rintro e1 w2 ⟨rfl, hb⟩
      replace hx0 := keep_cell hb hx0
      replace hx1 := keep_cell hb hx1
      replace hw := keep_below hb hw
      clear hb
      clear HG1 HG2
      obtain ⟨i0, hi, hz0, hz1, hz2⟩ := info_parts info_int
      have hsW := World.block_lt_of_cell? _ _ hx0
      replace hsW : w.heap.size < w2.heap.size := hsW
      have hown := own_empty w2 (w.heap.size + 1) w2.heap.size rfl hsW
      go_wp2_with fail
      refine (HD.out _ ((h.below hw).alloc _) ((k.below hw).alloc _) ((zp.below hw).alloc _)).mono ?_
      rintro e1 w9 ⟨A1, c1, rfl, ho, hb1⟩
      obtain ⟨gL, rfl, hgL, hrL⟩ := ho.pos hL1
      replace hown := own_below hown hb1
      replace hw := keep_below hb1 (keep_below_alloc hw _)
      simp only [World.size_alloc] at hgL
      clear ho hb1 hx0 hx1
      go_wp2
      go_loopw [6, 23] (fun v i wr => ∃ j : Nat, j ≤ L.length ∧ i = .int .i64 j ∧ wr.ownsRow (w.heap.size + 1) 3 1 v (fstL L j).length (i64s (fstL L j)) ∧ v.ownBlock ≠ some gL ∧ Hid (∀ q, q < j → (nthp L q).2 = 1) ∧ Row2 wr gL L ∧ Below w.heap.size w wr) (fun _ i _ => L.length - (intOf i).toNat)
      case atStart => exact ⟨0, by omega, rfl, hown, by simp [Value.ownBlock]; omega, fun q hq => by omega, hrL, hw⟩
      case round =>
        clear hown hrL hw
        obtain ⟨j, hj, rfl, hown, hne, HA, hrL, hw⟩ := hrel
        by_cases hlt : j < L.length
        · have hc0 := hrL.cell0 hlt
          have hc1 := hrL.cell1 hlt
          have i1 : (j : Int) < L.length := by omega
          have HMJ := Lib.hid (HFL.out j hj)
          have hfs := HFS.out j hlt
          have HZ : (nthp L j).2 = 1 → Hid (∀ q, q < j + 1 → (nthp L q).2 = 1) := fun hz i hi => by
            by_cases e : i = j
            · subst e; exact hz
            · exact HA.out i (by omega)
          have HN := Lib.hid (fun (hz : (nthp L j).2 ≠ 1) => oneB_no hlt hz)
          generalize (nthp L j).1 = a at *
          generalize (nthp L j).2 = b at *
          have HPX : Hid ((fstL L (j + 1)).length = (fstL L j).length + 1 ∧ i64s (fstL L (j + 1)) = i64s (fstL L j) ++ [Value.int .i64 a]) := by
            rw [hfs]; exact ⟨by simp, by simp [i64s]⟩
          have hlen : (fstL L j).length ≤ 24 := by rw [HMJ.out]; omega
          clear hfs
          generalize fstL L j = FX at *
          by_cases h1 : b = 1
          · have HA' := HZ h1
            have d1 : (b != 1) = false := by rw [h1]; rfl
            clear HZ HN h1
            have hwz := hw.size
            have hsz3 : (wr.alloc (.cells #[.int .i64 a, .int .i64 b] 43)).heap.size = wr.heap.size + 1 := by simp
            replace hown := hown.alloc (.cells #[.int .i64 a, .int .i64 b] 43)
            replace hrL := hrL.alloc (.cells #[.int .i64 a, .int .i64 b] 43)
            replace hw := hw.alloc hw.size (.cells #[.int .i64 a, .int .i64 b] 43)
            have hcn := cell_one_new (wr.alloc (.cells #[.int .i64 a, .int .i64 b] 43)) (.int .i64 a) 3
            rw [hsz3] at hcn
            go_wp2_with (at_builtin; (refine wpList_append_own_at _ rfl _ _ 22 rfl (w.heap.size + 1) 3 i0 (.int .i64 0) 1 8 Try.underlying22 hi hz0 hz1 hz2 rfl (by decide) _ _ _ rfl (hown.alloc _) ⟨wr.heap.size + 1, 0, none⟩ 1 1 [.int .i64 (a)] rfl rfl hcn (by simp [Value.oneCell']) (by unfold maxLen; omega) (by omega) (by simp; omega) ?_); intro v' w1 hown1 hgrow _ hat)
            have hb3 : Below w.heap.size w w1 := Below.grown (hw.alloc hw.size _) hgrow (by have := hw.size; simp at *; omega) (fun g hg => by have := (hown.lt g hg).1; omega)
            have hrL1 := (hrL.alloc _).grown hgrow (fun h => hne (by exact h))
            have hlL := hrL.lt
            have hne1 : v'.ownBlock ≠ some gL := by
              rcases hat with e | e
              · rw [e]; exact hne
              · rw [e]; intro h'; injection h' with h'; simp at h' hlL; omega
            rw [← HPX.out.1, ← HPX.out.2] at hown1
            clear hown hgrow hrL hw HPX hne hat
            go_wp2
            go_roundw
            case rel => exact ⟨j + 1, by omega, by go_num, hown1, hne1, HA', hrL1, hb3⟩
            case measure => simp only [intOf]; omega
          · have hr' : r = false := by rw [← HG.out]; exact HN.out h1
            subst hr'
            have d1 : (b != 1) = true := bne_iff_ne.2 h1
            clear HZ HN hown hne
            go_wp2
            go_ret2
            exact ⟨none, 0, rfl, .inl ⟨rfl, rfl⟩, hw.alloc hw.size _⟩
        · have hr' : r = true := by rw [← HG.out]; exact oneB_yes fun q hq => HA.out q (by omega)
          subst hr'
          have hkn : j = L.length := by omega
          rw [hkn] at hown
          obtain ⟨A', c', rfl, hO⟩ := own_form hown
          have i3 : ¬ ((j : Int) < L.length) := by omega
          clear hkn hown
          go_wp2
          go_ret2
          exact ⟨A', c', rfl, hO.mono (by omega), hw⟩
end Go.Proofs.Ytkbjocndkopjiaa
