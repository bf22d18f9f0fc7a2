/- Contracts: the ends that are not in an event; its pays. -/
import Derived.Test.YtdjfjlmbaehppaaHigh
import Derived.Test.YtdjfjlmbaehppaaEvent
namespace Go.Proofs.Ytdjfjlmbaehppaa
open Go.ChangeShapes Go.WideShapes Go.ChangeAt Go.RowKit

def filK (f : Int → Bool) (E : List Int) (k : Nat) : List Int := (E.take k).filter f
theorem filK_zero (f : Int → Bool) (E : List Int) : filK f E 0 = [] := rfl
theorem filK_all (f : Int → Bool) (E : List Int) : filK f E E.length = E.filter f := by simp [filK]
theorem filK_yes {f : Int → Bool} {a : List Int} {k : Nat} (h : k < a.length) (hb : f (nth a k) = true) : filK f a (k + 1) = filK f a k ++ [nth a k] := by
  have e : nth a k = a[k] := by simp [nth, List.getD, h]
  unfold filK
  rw [List.take_succ_eq_append_getElem h, List.filter_append, ← e]
  simp [hb]
theorem filK_no {f : Int → Bool} {a : List Int} {k : Nat} (h : k < a.length) (hb : f (nth a k) = false) : filK f a (k + 1) = filK f a k := by
  have e : nth a k = a[k] := by simp [nth, List.getD, h]
  unfold filK
  rw [List.take_succ_eq_append_getElem h, List.filter_append, ← e]
  simp [hb]
theorem filK_len (f : Int → Bool) (a : List Int) (k : Nat) : (filK f a k).length ≤ k := by
  unfold filK
  exact Nat.le_trans (List.length_filter_le _ _) (List.length_take_le _ _)
noncomputable def evOk (xs ys ps : List Int) : Bool := good xs ys && isEv xs ps
def othL (xs ps : List Int) : List Int := filK (fun v => !hasB ps v) (endsL xs) (endsL xs).length
noncomputable def othR (xs ys ps : List Int) : List Int := if evOk xs ys ps then othL xs ps else []
theorem othR_no {xs ys ps : List Int} (h : evOk xs ys ps = false) : othR xs ys ps = [] := by unfold othR; rw [h]; rfl
theorem othR_yes {xs ys ps : List Int} (h : evOk xs ys ps = true) : othR xs ys ps = othL xs ps := by unfold othR; rw [h]; rfl
theorem othR_len (xs ys ps : List Int) (hn : xs.length ≤ 1048576) : (othR xs ys ps).length ≤ 2000000 := by
  unfold othR; split
  · unfold othL; have := filK_len (fun v => !hasB ps v) (endsL xs) (endsL xs).length; have := ends_len xs; omega
  · simp
def indE (ps : List Int) (v : Int) : Int := if hasB ps v then 1 else 0
def indcL (xs ps : List Int) : List Int := mapI (indE ps) (endsL xs) (endsL xs).length
noncomputable def indcR (xs ys ps : List Int) : List Int := if evOk xs ys ps then indcL xs ps else []
theorem indcR_no {xs ys ps : List Int} (h : evOk xs ys ps = false) : indcR xs ys ps = [] := by unfold indcR; rw [h]; rfl
theorem indcR_yes {xs ys ps : List Int} (h : evOk xs ys ps = true) : indcR xs ys ps = indcL xs ps := by unfold indcR; rw [h]; rfl
theorem indcR_len (xs ys ps : List Int) (hn : xs.length ≤ 1048576) : (indcR xs ys ps).length ≤ 2000000 := by
  unfold indcR; split
  · unfold indcL; rw [mapI_len _ _ (Nat.le_refl _)]; have := ends_len xs; omega
  · simp
set_option maxHeartbeats 1000000 in
set_option maxRecDepth 100000 in
theorem specOtherEnds_any (A B : Option Addr) (c e : Nat) (xs ys : List Int) (P : Option Addr) (cp : Nat) (ps : List Int) (w : World) (h : IntS w A xs) (k : IntS w B ys) (zp : IntS w P ps) (_hx : Bd xs) (_hy : Bd ys) (_bp : Bd ps) (hn : xs.length ≤ 1048576) (hm : ys.length ≤ 1048576) (lp : ps.length ≤ 1048576) :
    Calls Try.prog 16 #[.agg #[.slice A xs.length c, .slice B ys.length e], .slice P ps.length cp] w (RetIB w (othR xs ys ps) (evOk xs ys ps)) := by
  obtain ⟨r1, q1⟩ : ∃ r, (good xs ys && isEv xs ps) = r := ⟨_, rfl⟩
  cases r1
  case false =>
    have hO : evOk xs ys ps = false := by unfold evOk ; simp [q1]
    have hV_othR := othR_no hO
    rw [hV_othR]
    rw [hO]
    clear hO hV_othR
    have HG1 := Lib.hid (fun W (h : IntS W A xs) (k : IntS W B ys) (zp : IntS W P ps) => l2Event_any A B P c e cp xs ys ps W h k zp _hx _hy hn hm lp)
    rw [q1] at HG1
    clear q1 _hx _hy _bp
    go_enter Try.func16, Try.ntmps16
    go_wp2_with fail
    refine (HG1.out _ ((h.alloc _).alloc _) ((k.alloc _).alloc _) ((zp.alloc _).alloc _)).mono ?_
    rintro e1 w1 ⟨rfl, hb⟩
    have hx0 : w1.cell? ⟨w.heap.size, 0, none⟩ = some (.slice A xs.length c) := keep_cell hb (by simp)
    have hx1 : w1.cell? ⟨w.heap.size, 1, none⟩ = some (.slice B ys.length e) := keep_cell hb (by simp)
    have hown := own_below (own_empty _ (w.heap.size + 1) (w.heap.size + 1) (by simp) (by simp)) hb
    have hw : Below w.heap.size w w1 := below_alloc (below_alloc (hb))
    clear hb
    obtain ⟨A', c', hv, hO⟩ := own_form (xs := []) hown
    cases hv
    clear hown
    go_wp2
    go_ret2
    exact ⟨_, _, rfl, hO.mono (by omega), hw⟩
  case true =>
    have hO : evOk xs ys ps = true := by unfold evOk ; simp [q1]
    have hV_othR := othR_yes hO
    rw [hV_othR]
    rw [hO]
    clear hO hV_othR
    have HG1 := Lib.hid (fun W (h : IntS W A xs) (k : IntS W B ys) (zp : IntS W P ps) => l2Event_any A B P c e cp xs ys ps W h k zp _hx _hy hn hm lp)
    rw [q1] at HG1
    have hgl := good_len (Bool.and_eq_true_iff.1 q1).1
    have HE := Lib.hid (fun W (h : IntS W A xs) => l2Ends_any A B c ys.length e xs W h (by omega) (good_iff.1 (Bool.and_eq_true_iff.1 q1).1).2.1 (good_root (Bool.and_eq_true_iff.1 q1).1))
    have HH := Lib.hid (fun W (v : Int) (z : IntS W P ps) => l1Has_any P cp ps v W z (by omega))
    have hel := ends_len xs
    have hep := ends_pos (Bool.and_eq_true_iff.1 q1).1
    obtain ⟨n, e1⟩ : ∃ n, xs.length = n := ⟨_, rfl⟩
    have e2 : ys.length = n := by rw [hgl.2.2]; exact e1
    simp only [e1, e2] at HG1 HE hn hm hgl hel ⊢
    have HN := Lib.hid e1.symm
    obtain ⟨hgl1, hgl2, _⟩ := hgl
    clear e1 e2
    unfold othL
    have HY := Lib.hid (fun i (h : i < (endsL xs).length) (hb : hasB ps (nth (endsL xs) i) = false) => filK_yes (f := fun v => !hasB ps v) h (by rw [hb]; rfl))
    have HNo := Lib.hid (fun i (h : i < (endsL xs).length) (hb : hasB ps (nth (endsL xs) i) = true) => filK_no (f := fun v => !hasB ps v) h (by rw [hb]; rfl))
    have HKL := Lib.hid (fun k => filK_len (fun v => !hasB ps v) (endsL xs) k)
    have HZ : Hid (filK (fun v => !hasB ps v) (endsL xs) 0 = []) := rfl
    generalize filK (fun v => !hasB ps v) (endsL xs) = F at *
    generalize endsL xs = E at *
    clear q1 _hx _hy _bp
    go_enter Try.func16, Try.ntmps16
    go_wp2_with fail
    refine (HG1.out _ ((h.alloc _).alloc _) ((k.alloc _).alloc _) ((zp.alloc _).alloc _)).mono ?_
    rintro e1 w1 ⟨rfl, hb⟩
    have hx0 : w1.cell? ⟨w.heap.size, 0, none⟩ = some (.slice A n c) := keep_cell hb (by simp)
    have hx1 : w1.cell? ⟨w.heap.size, 1, none⟩ = some (.slice B n e) := keep_cell hb (by simp)
    have hown := own_below (own_empty _ (w.heap.size + 1) (w.heap.size + 1) (by simp) (by simp)) hb
    have hw : Below w.heap.size w w1 := below_alloc (below_alloc (hb))
    clear hb
    clear HG1
    obtain ⟨i0, hi, hz0, hz1, hz2⟩ := info_parts info_int
    have hs1 := (hown.lt (w.heap.size + 1) rfl).2
    go_wp2_with fail
    refine (HE.out _ (h.below hw)).mono ?_
    rintro e1 w2 ⟨A1, c1, rfl, ho, hb2⟩
    replace hown := own_below hown hb2
    replace hw := keep_below hb2 hw
    clear hb2 hx0 hx1
    obtain ⟨gE, rfl, hgE, hE⟩ := ho.pos hep
    have hgE' : w.heap.size + 1 < gE := by omega
    clear ho HE hgE hs1
    go_wp2
    go_loopw [6, 8] (fun v i wr => ∃ j : Nat, j ≤ E.length ∧ i = .int .i64 j ∧ wr.ownsRow (w.heap.size + 1) 3 1 v (F j).length (i64s (F j)) ∧ v.ownBlock ≠ some gE ∧ Row wr gE E ∧ Below w.heap.size w wr) (fun _ i _ => E.length - (intOf i).toNat)
    case atStart => exact ⟨0, by omega, rfl, by rw [HZ.out]; exact hown, by simp [Value.ownBlock]; omega, hE, hw⟩
    case round =>
      clear hown hE hw
      obtain ⟨j, hj, rfl, hown, hne, hE, hw⟩ := hrel
      have hlen := HKL.out j
      by_cases hlt : j < E.length
      · have hcE := hE.cell hlt
        have hlt' : (j : Int) < E.length := by omega
        have hyF := HY.out j hlt
        have hnF := HNo.out j hlt
        have HQ := Lib.hid (fun W (z : IntS W P ps) => HH.out W (nth E j) z)
        have hgl := hE.lt
        have hsz := hw.size
        generalize nth E j = y at *
        generalize hasB ps y = r at *
        cases r
        case true =>
          have hF := hnF rfl
          rw [← hF] at hown
          clear hF
          clear hyF hnF
          go_wp2_with fail
          refine (HQ.out _ (zp.below hw)).mono ?_
          rintro e1 w8 ⟨rfl, rfl⟩
          go_wp2
          go_roundw
          case rel => exact ⟨j + 1, by omega, by go_num, hown, hne, hE, hw⟩
          case measure => simp only [intOf]; omega
        case false =>
          have hF := hyF rfl
          have HPX : Hid (i64s (F (j + 1)) = i64s (F j) ++ [Value.int .i64 (y)] ∧ (F (j + 1)).length = (F j).length + 1) := by rw [hF]; exact ⟨i64s_app _ _, by simp⟩
          clear hF
          generalize F j = L at *
          clear hyF hnF
          go_wp2_with fail
          refine (HQ.out _ (zp.below hw)).mono ?_
          rintro e1 w8 ⟨rfl, rfl⟩
          go_wp2_with (at_builtin; (refine wpList_append_own_at _ rfl _ _ 22 rfl (w.heap.size + 1) 3 i0 (.int .i64 0) 1 8 Try.underlying22 hi hz0 hz1 hz2 rfl (by decide) _ _ _ rfl (hown.alloc _) ⟨wr.heap.size, 0, none⟩ 1 1 [.int .i64 (y)] rfl rfl (cell_one_new _ _ _) (by simp [Value.oneCell']) (by unfold maxLen; omega) (by omega) (by simp; omega) ?_); intro v' w1 hown1 hgrow _ hat)
          have hrow1 := (hE.alloc (.cells #[.int .i64 (y)] 3)).grown hgrow (fun e => hne e.symm)
          have hb3 : Below w.heap.size w w1 := Below.grown (hw.alloc hw.size _) hgrow (by simp; omega) (fun g hg => by have := (hown.lt g hg).1; omega)
          have hne1 : v'.ownBlock ≠ some gE := by
            rcases hat with e | e
            · rw [e]; exact hne
            · rw [e]; simp; omega
          rw [← HPX.out.1, ← HPX.out.2] at hown1
          clear hown hgrow hE hw HPX hne hat
          go_wp2
          go_roundw
          case rel => exact ⟨j + 1, by omega, by go_num, hown1, hne1, hrow1, hb3⟩
          case measure => simp only [intOf]; omega
      · have hkn : j = E.length := by omega
        rw [hkn] at hown
        obtain ⟨A', c', rfl, hO⟩ := own_form hown
        clear hkn hown HY HNo HKL
        go_wp2
        go_ret2
        exact ⟨A', c', rfl, hO.mono (by omega), hw⟩
set_option maxHeartbeats 1000000 in
set_option maxRecDepth 100000 in
theorem implOtherEnds_any (A B : Option Addr) (c e : Nat) (xs ys : List Int) (P : Option Addr) (cp : Nat) (ps : List Int) (w : World) (h : IntS w A xs) (k : IntS w B ys) (zp : IntS w P ps) (_hx : Bd xs) (_hy : Bd ys) (_bp : Bd ps) (hn : xs.length ≤ 1048576) (hm : ys.length ≤ 1048576) (lp : ps.length ≤ 1048576) :
    Calls Try.prog 19 #[.agg #[.slice A xs.length c, .slice B ys.length e], .slice P ps.length cp] w (RetIB w (othR xs ys ps) (evOk xs ys ps)) := by
  obtain ⟨r1, q1⟩ : ∃ r, (good xs ys) = r := ⟨_, rfl⟩
  cases r1
  case false =>
    have hO : evOk xs ys ps = false := by unfold evOk ; simp [q1]
    have hV_othR := othR_no hO
    rw [hV_othR]
    rw [hO]
    clear hO hV_othR
    have HG1 := Lib.hid (fun W (h : IntS W A xs) (k : IntS W B ys) => isTree_any A B c e xs ys W h k _hx _hy hn hm)
    rw [q1] at HG1
    clear q1 _hx _hy _bp
    go_enter Try.func19, Try.ntmps19
    go_wp2_with fail
    refine (HG1.out _ (h.alloc _) (k.alloc _)).mono ?_
    rintro e1 w1 ⟨rfl, hb⟩
    have hx0 : w1.cell? ⟨w.heap.size, 0, none⟩ = some (.slice A xs.length c) := keep_cell hb (by simp)
    have hx1 : w1.cell? ⟨w.heap.size, 1, none⟩ = some (.slice B ys.length e) := keep_cell hb (by simp)
    have hw : Below w.heap.size w w1 := below_alloc (hb)
    clear hb
    go_wp2
    go_ret2
    exact ⟨none, 0, rfl, .inl ⟨rfl, rfl⟩, hw⟩
  case true =>
    obtain ⟨r2, q2⟩ : ∃ r, (isEv xs ps) = r := ⟨_, rfl⟩
    cases r2
    case false =>
      have hO : evOk xs ys ps = false := by unfold evOk ; simp [q1, q2]
      have hV_othR := othR_no hO
      rw [hV_othR]
      rw [hO]
      clear hO hV_othR
      have HG1 := Lib.hid (fun W (h : IntS W A xs) (k : IntS W B ys) => isTree_any A B c e xs ys W h k _hx _hy hn hm)
      rw [q1] at HG1
      have HG2 := Lib.hid (fun W (h : IntS W A xs) (zp : IntS W P ps) => isEvent_good q1 A B P c ys.length e cp ps W h zp lp)
      rw [q2] at HG2
      clear q1 q2 _hx _hy _bp
      go_enter Try.func19, Try.ntmps19
      go_wp2_with fail
      refine (HG1.out _ (h.alloc _) (k.alloc _)).mono ?_
      rintro e1 w1 ⟨rfl, hb⟩
      have hx0 : w1.cell? ⟨w.heap.size, 0, none⟩ = some (.slice A xs.length c) := keep_cell hb (by simp)
      have hx1 : w1.cell? ⟨w.heap.size, 1, none⟩ = some (.slice B ys.length e) := keep_cell hb (by simp)
      have hw : Below w.heap.size w w1 := below_alloc (hb)
      clear hb
      go_wp2_with fail
      refine (HG2.out _ (h.below hw) (zp.below hw)).mono ?_
      rintro e1 w2 ⟨rfl, hb⟩
      replace hx0 := keep_cell hb hx0
      replace hx1 := keep_cell hb hx1
      replace hw := keep_below hb hw
      clear hb
      go_wp2
      go_ret2
      exact ⟨none, 0, rfl, .inl ⟨rfl, rfl⟩, hw⟩
    case true =>
      have hO : evOk xs ys ps = true := by unfold evOk ; simp [q1, q2]
      have hV_othR := othR_yes hO
      rw [hV_othR]
      rw [hO]
      clear hO hV_othR
      have HG1 := Lib.hid (fun W (h : IntS W A xs) (k : IntS W B ys) => isTree_any A B c e xs ys W h k _hx _hy hn hm)
      rw [q1] at HG1
      have HG2 := Lib.hid (fun W (h : IntS W A xs) (zp : IntS W P ps) => isEvent_good q1 A B P c ys.length e cp ps W h zp lp)
      rw [q2] at HG2
      have hgl := good_len q1
      have HE := Lib.hid (fun W (h : IntS W A xs) => ends_any A B c ys.length e xs W h (by omega) (good_iff.1 q1).2.1 (good_root q1))
      have HH := Lib.hid (fun W (v : Int) (z : IntS W P ps) => contains_any P cp ps v W z (by omega))
      have hel := ends_len xs
      have hep := ends_pos q1
      obtain ⟨n, e1⟩ : ∃ n, xs.length = n := ⟨_, rfl⟩
      have e2 : ys.length = n := by rw [hgl.2.2]; exact e1
      simp only [e1, e2] at HG1 HG2 HE hn hm hgl hel ⊢
      have HN := Lib.hid e1.symm
      obtain ⟨hgl1, hgl2, _⟩ := hgl
      clear e1 e2
      unfold othL
      have HY := Lib.hid (fun i (h : i < (endsL xs).length) (hb : hasB ps (nth (endsL xs) i) = false) => filK_yes (f := fun v => !hasB ps v) h (by rw [hb]; rfl))
      have HNo := Lib.hid (fun i (h : i < (endsL xs).length) (hb : hasB ps (nth (endsL xs) i) = true) => filK_no (f := fun v => !hasB ps v) h (by rw [hb]; rfl))
      have HKL := Lib.hid (fun k => filK_len (fun v => !hasB ps v) (endsL xs) k)
      have HZ : Hid (filK (fun v => !hasB ps v) (endsL xs) 0 = []) := rfl
      generalize filK (fun v => !hasB ps v) (endsL xs) = F at *
      generalize endsL xs = E at *
      clear q1 q2 _hx _hy _bp
      go_enter Try.func19, Try.ntmps19
      go_wp2_with fail
      refine (HG1.out _ (h.alloc _) (k.alloc _)).mono ?_
      rintro e1 w1 ⟨rfl, hb⟩
      have hx0 : w1.cell? ⟨w.heap.size, 0, none⟩ = some (.slice A n c) := keep_cell hb (by simp)
      have hx1 : w1.cell? ⟨w.heap.size, 1, none⟩ = some (.slice B n e) := keep_cell hb (by simp)
      have hw : Below w.heap.size w w1 := below_alloc (hb)
      clear hb
      go_wp2_with fail
      refine (HG2.out _ (h.below hw) (zp.below hw)).mono ?_
      rintro e1 w2 ⟨rfl, hb⟩
      replace hx0 := keep_cell hb hx0
      replace hx1 := keep_cell hb hx1
      replace hw := keep_below hb hw
      clear hb
      clear HG1 HG2
      obtain ⟨i0, hi, hz0, hz1, hz2⟩ := info_parts info_int
      have hsW := World.block_lt_of_cell? _ _ hx0
      replace hsW : w.heap.size < w2.heap.size := hsW
      have hown := own_empty w2 (w.heap.size + 1) w2.heap.size rfl hsW
      go_wp2_with fail
      refine (HE.out _ ((h.below hw).alloc _)).mono ?_
      rintro e1 w9 ⟨A1, c1, rfl, ho, hb2⟩
      replace hown := own_below hown hb2
      replace hw := keep_below hb2 (keep_below_alloc hw _)
      clear hb2 hx0 hx1
      obtain ⟨gE, rfl, hgE, hE⟩ := ho.pos hep
      have hgE' : w2.heap.size < gE := by simp at hgE; omega
      clear ho HE hgE
      go_wp2
      go_loopw [6, 22] (fun v i wr => ∃ j : Nat, j ≤ E.length ∧ i = .int .i64 j ∧ wr.ownsRow (w.heap.size + 1) 3 1 v (F j).length (i64s (F j)) ∧ v.ownBlock ≠ some gE ∧ Row wr gE E ∧ Below w.heap.size w wr) (fun _ i _ => E.length - (intOf i).toNat)
      case atStart => exact ⟨0, by omega, rfl, by rw [HZ.out]; exact hown, by simp [Value.ownBlock]; omega, hE, hw⟩
      case round =>
        clear hown hE hw
        obtain ⟨j, hj, rfl, hown, hne, hE, hw⟩ := hrel
        have hlen := HKL.out j
        by_cases hlt : j < E.length
        · have hcE := hE.cell hlt
          have hlt' : (j : Int) < E.length := by omega
          have hyF := HY.out j hlt
          have hnF := HNo.out j hlt
          have HQ := Lib.hid (fun W (z : IntS W P ps) => HH.out W (nth E j) z)
          have hgl := hE.lt
          have hsz := hw.size
          generalize nth E j = y at *
          generalize hasB ps y = r at *
          cases r
          case true =>
            have hF := hnF rfl
            rw [← hF] at hown
            clear hF
            clear hyF hnF
            go_wp2_with fail
            refine (HQ.out _ (zp.below hw)).mono ?_
            rintro e1 w8 ⟨rfl, rfl⟩
            go_wp2
            go_roundw
            case rel => exact ⟨j + 1, by omega, by go_num, hown, hne, hE, hw⟩
            case measure => simp only [intOf]; omega
          case false =>
            have hF := hyF rfl
            have HPX : Hid (i64s (F (j + 1)) = i64s (F j) ++ [Value.int .i64 (y)] ∧ (F (j + 1)).length = (F j).length + 1) := by rw [hF]; exact ⟨i64s_app _ _, by simp⟩
            clear hF
            generalize F j = L at *
            clear hyF hnF
            go_wp2_with fail
            refine (HQ.out _ (zp.below hw)).mono ?_
            rintro e1 w8 ⟨rfl, rfl⟩
            go_wp2_with (at_builtin; (refine wpList_append_own_at _ rfl _ _ 22 rfl (w.heap.size + 1) 3 i0 (.int .i64 0) 1 8 Try.underlying22 hi hz0 hz1 hz2 rfl (by decide) _ _ _ rfl (hown.alloc _) ⟨wr.heap.size, 0, none⟩ 1 1 [.int .i64 (y)] rfl rfl (cell_one_new _ _ _) (by simp [Value.oneCell']) (by unfold maxLen; omega) (by omega) (by simp; omega) ?_); intro v' w1 hown1 hgrow _ hat)
            have hrow1 := (hE.alloc (.cells #[.int .i64 (y)] 3)).grown hgrow (fun e => hne e.symm)
            have hb3 : Below w.heap.size w w1 := Below.grown (hw.alloc hw.size _) hgrow (by simp; omega) (fun g hg => by have := (hown.lt g hg).1; omega)
            have hne1 : v'.ownBlock ≠ some gE := by
              rcases hat with e | e
              · rw [e]; exact hne
              · rw [e]; simp; omega
            rw [← HPX.out.1, ← HPX.out.2] at hown1
            clear hown hgrow hE hw HPX hne hat
            go_wp2
            go_roundw
            case rel => exact ⟨j + 1, by omega, by go_num, hown1, hne1, hrow1, hb3⟩
            case measure => simp only [intOf]; omega
        · have hkn : j = E.length := by omega
          rw [hkn] at hown
          obtain ⟨A', c', rfl, hO⟩ := own_form hown
          clear hkn hown HY HNo HKL
          go_wp2
          go_ret2
          exact ⟨A', c', rfl, hO.mono (by omega), hw⟩
set_option maxHeartbeats 1000000 in
set_option maxRecDepth 100000 in
theorem specIndicatorOf_any (A B : Option Addr) (c e : Nat) (xs ys : List Int) (P : Option Addr) (cp : Nat) (ps : List Int) (w : World) (h : IntS w A xs) (k : IntS w B ys) (zp : IntS w P ps) (_hx : Bd xs) (_hy : Bd ys) (_bp : Bd ps) (hn : xs.length ≤ 1048576) (hm : ys.length ≤ 1048576) (lp : ps.length ≤ 1048576) :
    Calls Try.prog 28 #[.agg #[.slice A xs.length c, .slice B ys.length e], .slice P ps.length cp] w (RetIB w (indcR xs ys ps) (evOk xs ys ps)) := by
  obtain ⟨r1, q1⟩ : ∃ r, (good xs ys && isEv xs ps) = r := ⟨_, rfl⟩
  cases r1
  case false =>
    have hO : evOk xs ys ps = false := by unfold evOk ; simp [q1]
    have hV_indcR := indcR_no hO
    rw [hV_indcR]
    rw [hO]
    clear hO hV_indcR
    have HG1 := Lib.hid (fun W (h : IntS W A xs) (k : IntS W B ys) (zp : IntS W P ps) => l2Event_any A B P c e cp xs ys ps W h k zp _hx _hy hn hm lp)
    rw [q1] at HG1
    clear q1 _hx _hy _bp
    go_enter Try.func28, Try.ntmps28
    go_wp2_with fail
    refine (HG1.out _ ((h.alloc _).alloc _) ((k.alloc _).alloc _) ((zp.alloc _).alloc _)).mono ?_
    rintro e1 w1 ⟨rfl, hb⟩
    have hx0 : w1.cell? ⟨w.heap.size, 0, none⟩ = some (.slice A xs.length c) := keep_cell hb (by simp)
    have hx1 : w1.cell? ⟨w.heap.size, 1, none⟩ = some (.slice B ys.length e) := keep_cell hb (by simp)
    have hown := own_below (own_empty _ (w.heap.size + 1) (w.heap.size + 1) (by simp) (by simp)) hb
    have hw : Below w.heap.size w w1 := below_alloc (below_alloc (hb))
    clear hb
    obtain ⟨A', c', hv, hO⟩ := own_form (xs := []) hown
    cases hv
    clear hown
    go_wp2
    go_ret2
    exact ⟨_, _, rfl, hO.mono (by omega), hw⟩
  case true =>
    have hO : evOk xs ys ps = true := by unfold evOk ; simp [q1]
    have hV_indcR := indcR_yes hO
    rw [hV_indcR]
    rw [hO]
    clear hO hV_indcR
    have HG1 := Lib.hid (fun W (h : IntS W A xs) (k : IntS W B ys) (zp : IntS W P ps) => l2Event_any A B P c e cp xs ys ps W h k zp _hx _hy hn hm lp)
    rw [q1] at HG1
    have hgl := good_len (Bool.and_eq_true_iff.1 q1).1
    have HE := Lib.hid (fun W (h : IntS W A xs) => l2Ends_any A B c ys.length e xs W h (by omega) (good_iff.1 (Bool.and_eq_true_iff.1 q1).1).2.1 (good_root (Bool.and_eq_true_iff.1 q1).1))
    have HH := Lib.hid (fun W (v : Int) (z : IntS W P ps) => l1Has_any P cp ps v W z (by omega))
    have hel := ends_len xs
    have hep := ends_pos (Bool.and_eq_true_iff.1 q1).1
    obtain ⟨n, e1⟩ : ∃ n, xs.length = n := ⟨_, rfl⟩
    have e2 : ys.length = n := by rw [hgl.2.2]; exact e1
    simp only [e1, e2] at HG1 HE hn hm hgl hel ⊢
    have HN := Lib.hid e1.symm
    obtain ⟨hgl1, hgl2, _⟩ := hgl
    clear e1 e2
    unfold indcL
    have HY := Lib.hid (fun i (h : i < (endsL xs).length) (hb : hasB ps (nth (endsL xs) i) = false) => (mapI_succ (indE ps) (endsL xs) h).trans (by unfold indE; rw [hb]; rfl : _ = mapI (indE ps) (endsL xs) i ++ [0]))
    have HNo := Lib.hid (fun i (h : i < (endsL xs).length) (hb : hasB ps (nth (endsL xs) i) = true) => (mapI_succ (indE ps) (endsL xs) h).trans (by unfold indE; rw [hb]; rfl : _ = mapI (indE ps) (endsL xs) i ++ [1]))
    have HKL : Hid (∀ k, (mapI (indE ps) (endsL xs) k).length ≤ k) := fun k => by unfold mapI; rw [List.length_map]; exact List.length_take_le _ _
    have HZ : Hid (mapI (indE ps) (endsL xs) 0 = []) := rfl
    generalize mapI (indE ps) (endsL xs) = F at *
    generalize endsL xs = E at *
    clear q1 _hx _hy _bp
    go_enter Try.func28, Try.ntmps28
    go_wp2_with fail
    refine (HG1.out _ ((h.alloc _).alloc _) ((k.alloc _).alloc _) ((zp.alloc _).alloc _)).mono ?_
    rintro e1 w1 ⟨rfl, hb⟩
    have hx0 : w1.cell? ⟨w.heap.size, 0, none⟩ = some (.slice A n c) := keep_cell hb (by simp)
    have hx1 : w1.cell? ⟨w.heap.size, 1, none⟩ = some (.slice B n e) := keep_cell hb (by simp)
    have hown := own_below (own_empty _ (w.heap.size + 1) (w.heap.size + 1) (by simp) (by simp)) hb
    have hw : Below w.heap.size w w1 := below_alloc (below_alloc (hb))
    clear hb
    clear HG1
    obtain ⟨i0, hi, hz0, hz1, hz2⟩ := info_parts info_int
    have hs1 := (hown.lt (w.heap.size + 1) rfl).2
    go_wp2_with fail
    refine (HE.out _ (h.below hw)).mono ?_
    rintro e1 w2 ⟨A1, c1, rfl, ho, hb2⟩
    replace hown := own_below hown hb2
    replace hw := keep_below hb2 hw
    clear hb2 hx0 hx1
    obtain ⟨gE, rfl, hgE, hE⟩ := ho.pos hep
    have hgE' : w.heap.size + 1 < gE := by omega
    clear ho HE hgE hs1
    go_wp2
    go_loopw [6, 8] (fun v i wr => ∃ j : Nat, j ≤ E.length ∧ i = .int .i64 j ∧ wr.ownsRow (w.heap.size + 1) 3 1 v (F j).length (i64s (F j)) ∧ v.ownBlock ≠ some gE ∧ Row wr gE E ∧ Below w.heap.size w wr) (fun _ i _ => E.length - (intOf i).toNat)
    case atStart => exact ⟨0, by omega, rfl, by rw [HZ.out]; exact hown, by simp [Value.ownBlock]; omega, hE, hw⟩
    case round =>
      clear hown hE hw
      obtain ⟨j, hj, rfl, hown, hne, hE, hw⟩ := hrel
      have hlen := HKL.out j
      by_cases hlt : j < E.length
      · have hcE := hE.cell hlt
        have hlt' : (j : Int) < E.length := by omega
        have hyF := HY.out j hlt
        have hnF := HNo.out j hlt
        have HQ := Lib.hid (fun W (z : IntS W P ps) => HH.out W (nth E j) z)
        have hgl := hE.lt
        have hsz := hw.size
        generalize nth E j = y at *
        generalize hasB ps y = r at *
        cases r
        case true =>
          have hF := hnF rfl
          have HPX : Hid (i64s (F (j + 1)) = i64s (F j) ++ [Value.int .i64 (1)] ∧ (F (j + 1)).length = (F j).length + 1) := by rw [hF]; exact ⟨i64s_app _ _, by simp⟩
          clear hF
          generalize F j = L at *
          clear hyF hnF
          go_wp2_with fail
          refine (HQ.out _ (zp.below hw)).mono ?_
          rintro e1 w8 ⟨rfl, rfl⟩
          go_wp2_with (at_builtin; (refine wpList_append_own_at _ rfl _ _ 22 rfl (w.heap.size + 1) 3 i0 (.int .i64 0) 1 8 Try.underlying22 hi hz0 hz1 hz2 rfl (by decide) _ _ _ rfl (hown.alloc _) ⟨wr.heap.size, 0, none⟩ 1 1 [.int .i64 (1)] rfl rfl (cell_one_new _ _ _) (by simp [Value.oneCell']) (by unfold maxLen; omega) (by omega) (by simp; omega) ?_); intro v' w1 hown1 hgrow _ hat)
          have hrow1 := (hE.alloc (.cells #[.int .i64 (1)] 3)).grown hgrow (fun e => hne e.symm)
          have hb3 : Below w.heap.size w w1 := Below.grown (hw.alloc hw.size _) hgrow (by simp; omega) (fun g hg => by have := (hown.lt g hg).1; omega)
          have hne1 : v'.ownBlock ≠ some gE := by
            rcases hat with e | e
            · rw [e]; exact hne
            · rw [e]; simp; omega
          rw [← HPX.out.1, ← HPX.out.2] at hown1
          clear hown hgrow hE hw HPX hne hat
          go_wp2
          go_roundw
          case rel => exact ⟨j + 1, by omega, by go_num, hown1, hne1, hrow1, hb3⟩
          case measure => simp only [intOf]; omega
        case false =>
          have hF := hyF rfl
          have HPX : Hid (i64s (F (j + 1)) = i64s (F j) ++ [Value.int .i64 (0)] ∧ (F (j + 1)).length = (F j).length + 1) := by rw [hF]; exact ⟨i64s_app _ _, by simp⟩
          clear hF
          generalize F j = L at *
          clear hyF hnF
          go_wp2_with fail
          refine (HQ.out _ (zp.below hw)).mono ?_
          rintro e1 w8 ⟨rfl, rfl⟩
          go_wp2_with (at_builtin; (refine wpList_append_own_at _ rfl _ _ 22 rfl (w.heap.size + 1) 3 i0 (.int .i64 0) 1 8 Try.underlying22 hi hz0 hz1 hz2 rfl (by decide) _ _ _ rfl (hown.alloc _) ⟨wr.heap.size, 0, none⟩ 1 1 [.int .i64 (0)] rfl rfl (cell_one_new _ _ _) (by simp [Value.oneCell']) (by unfold maxLen; omega) (by omega) (by simp; omega) ?_); intro v' w1 hown1 hgrow _ hat)
          have hrow1 := (hE.alloc (.cells #[.int .i64 (0)] 3)).grown hgrow (fun e => hne e.symm)
          have hb3 : Below w.heap.size w w1 := Below.grown (hw.alloc hw.size _) hgrow (by simp; omega) (fun g hg => by have := (hown.lt g hg).1; omega)
          have hne1 : v'.ownBlock ≠ some gE := by
            rcases hat with e | e
            · rw [e]; exact hne
            · rw [e]; simp; omega
          rw [← HPX.out.1, ← HPX.out.2] at hown1
          clear hown hgrow hE hw HPX hne hat
          go_wp2
          go_roundw
          case rel => exact ⟨j + 1, by omega, by go_num, hown1, hne1, hrow1, hb3⟩
          case measure => simp only [intOf]; omega
      · have hkn : j = E.length := by omega
        rw [hkn] at hown
        obtain ⟨A', c', rfl, hO⟩ := own_form hown
        clear hkn hown HY HNo HKL
        go_wp2
        go_ret2
        exact ⟨A', c', rfl, hO.mono (by omega), hw⟩
set_option maxHeartbeats 1000000 in
set_option maxRecDepth 100000 in
theorem implIndicatorOf_any (A B : Option Addr) (c e : Nat) (xs ys : List Int) (P : Option Addr) (cp : Nat) (ps : List Int) (w : World) (h : IntS w A xs) (k : IntS w B ys) (zp : IntS w P ps) (_hx : Bd xs) (_hy : Bd ys) (_bp : Bd ps) (hn : xs.length ≤ 1048576) (hm : ys.length ≤ 1048576) (lp : ps.length ≤ 1048576) :
    Calls Try.prog 29 #[.agg #[.slice A xs.length c, .slice B ys.length e], .slice P ps.length cp] w (RetIB w (indcR xs ys ps) (evOk xs ys ps)) := by
  obtain ⟨r1, q1⟩ : ∃ r, (good xs ys) = r := ⟨_, rfl⟩
  cases r1
  case false =>
    have hO : evOk xs ys ps = false := by unfold evOk ; simp [q1]
    have hV_indcR := indcR_no hO
    rw [hV_indcR]
    rw [hO]
    clear hO hV_indcR
    have HG1 := Lib.hid (fun W (h : IntS W A xs) (k : IntS W B ys) => isTree_any A B c e xs ys W h k _hx _hy hn hm)
    rw [q1] at HG1
    clear q1 _hx _hy _bp
    go_enter Try.func29, Try.ntmps29
    go_wp2_with fail
    refine (HG1.out _ (h.alloc _) (k.alloc _)).mono ?_
    rintro e1 w1 ⟨rfl, hb⟩
    have hx0 : w1.cell? ⟨w.heap.size, 0, none⟩ = some (.slice A xs.length c) := keep_cell hb (by simp)
    have hx1 : w1.cell? ⟨w.heap.size, 1, none⟩ = some (.slice B ys.length e) := keep_cell hb (by simp)
    have hw : Below w.heap.size w w1 := below_alloc (hb)
    clear hb
    go_wp2
    go_ret2
    exact ⟨none, 0, rfl, .inl ⟨rfl, rfl⟩, hw⟩
  case true =>
    obtain ⟨r2, q2⟩ : ∃ r, (isEv xs ps) = r := ⟨_, rfl⟩
    cases r2
    case false =>
      have hO : evOk xs ys ps = false := by unfold evOk ; simp [q1, q2]
      have hV_indcR := indcR_no hO
      rw [hV_indcR]
      rw [hO]
      clear hO hV_indcR
      have HG1 := Lib.hid (fun W (h : IntS W A xs) (k : IntS W B ys) => isTree_any A B c e xs ys W h k _hx _hy hn hm)
      rw [q1] at HG1
      have HG2 := Lib.hid (fun W (h : IntS W A xs) (zp : IntS W P ps) => isEvent_good q1 A B P c ys.length e cp ps W h zp lp)
      rw [q2] at HG2
      clear q1 q2 _hx _hy _bp
      go_enter Try.func29, Try.ntmps29
      go_wp2_with fail
      refine (HG1.out _ (h.alloc _) (k.alloc _)).mono ?_
      rintro e1 w1 ⟨rfl, hb⟩
      have hx0 : w1.cell? ⟨w.heap.size, 0, none⟩ = some (.slice A xs.length c) := keep_cell hb (by simp)
      have hx1 : w1.cell? ⟨w.heap.size, 1, none⟩ = some (.slice B ys.length e) := keep_cell hb (by simp)
      have hw : Below w.heap.size w w1 := below_alloc (hb)
      clear hb
      go_wp2_with fail
      refine (HG2.out _ (h.below hw) (zp.below hw)).mono ?_
      rintro e1 w2 ⟨rfl, hb⟩
      replace hx0 := keep_cell hb hx0
      replace hx1 := keep_cell hb hx1
      replace hw := keep_below hb hw
      clear hb
      go_wp2
      go_ret2
      exact ⟨none, 0, rfl, .inl ⟨rfl, rfl⟩, hw⟩
    case true =>
      have hO : evOk xs ys ps = true := by unfold evOk ; simp [q1, q2]
      have hV_indcR := indcR_yes hO
      rw [hV_indcR]
      rw [hO]
      clear hO hV_indcR
      have HG1 := Lib.hid (fun W (h : IntS W A xs) (k : IntS W B ys) => isTree_any A B c e xs ys W h k _hx _hy hn hm)
      rw [q1] at HG1
      have HG2 := Lib.hid (fun W (h : IntS W A xs) (zp : IntS W P ps) => isEvent_good q1 A B P c ys.length e cp ps W h zp lp)
      rw [q2] at HG2
      have hgl := good_len q1
      have HE := Lib.hid (fun W (h : IntS W A xs) => ends_any A B c ys.length e xs W h (by omega) (good_iff.1 q1).2.1 (good_root q1))
      have HH := Lib.hid (fun W (v : Int) (z : IntS W P ps) => contains_any P cp ps v W z (by omega))
      have hel := ends_len xs
      have hep := ends_pos q1
      obtain ⟨n, e1⟩ : ∃ n, xs.length = n := ⟨_, rfl⟩
      have e2 : ys.length = n := by rw [hgl.2.2]; exact e1
      simp only [e1, e2] at HG1 HG2 HE hn hm hgl hel ⊢
      have HN := Lib.hid e1.symm
      obtain ⟨hgl1, hgl2, _⟩ := hgl
      clear e1 e2
      unfold indcL
      have HY := Lib.hid (fun i (h : i < (endsL xs).length) (hb : hasB ps (nth (endsL xs) i) = false) => (mapI_succ (indE ps) (endsL xs) h).trans (by unfold indE; rw [hb]; rfl : _ = mapI (indE ps) (endsL xs) i ++ [0]))
      have HNo := Lib.hid (fun i (h : i < (endsL xs).length) (hb : hasB ps (nth (endsL xs) i) = true) => (mapI_succ (indE ps) (endsL xs) h).trans (by unfold indE; rw [hb]; rfl : _ = mapI (indE ps) (endsL xs) i ++ [1]))
      have HKL : Hid (∀ k, (mapI (indE ps) (endsL xs) k).length ≤ k) := fun k => by unfold mapI; rw [List.length_map]; exact List.length_take_le _ _
      have HZ : Hid (mapI (indE ps) (endsL xs) 0 = []) := rfl
      generalize mapI (indE ps) (endsL xs) = F at *
      generalize endsL xs = E at *
      clear q1 q2 _hx _hy _bp
      go_enter Try.func29, Try.ntmps29
      go_wp2_with fail
      refine (HG1.out _ (h.alloc _) (k.alloc _)).mono ?_
      rintro e1 w1 ⟨rfl, hb⟩
      have hx0 : w1.cell? ⟨w.heap.size, 0, none⟩ = some (.slice A n c) := keep_cell hb (by simp)
      have hx1 : w1.cell? ⟨w.heap.size, 1, none⟩ = some (.slice B n e) := keep_cell hb (by simp)
      have hw : Below w.heap.size w w1 := below_alloc (hb)
      clear hb
      go_wp2_with fail
      refine (HG2.out _ (h.below hw) (zp.below hw)).mono ?_
      rintro e1 w2 ⟨rfl, hb⟩
      replace hx0 := keep_cell hb hx0
      replace hx1 := keep_cell hb hx1
      replace hw := keep_below hb hw
      clear hb
      clear HG1 HG2
      obtain ⟨i0, hi, hz0, hz1, hz2⟩ := info_parts info_int
      have hsW := World.block_lt_of_cell? _ _ hx0
      replace hsW : w.heap.size < w2.heap.size := hsW
      have hown := own_empty w2 (w.heap.size + 1) w2.heap.size rfl hsW
      go_wp2_with fail
      refine (HE.out _ ((h.below hw).alloc _)).mono ?_
      rintro e1 w9 ⟨A1, c1, rfl, ho, hb2⟩
      replace hown := own_below hown hb2
      replace hw := keep_below hb2 (keep_below_alloc hw _)
      clear hb2 hx0 hx1
      obtain ⟨gE, rfl, hgE, hE⟩ := ho.pos hep
      have hgE' : w2.heap.size < gE := by simp at hgE; omega
      clear ho HE hgE
      go_wp2
      go_loopw [6, 23] (fun v i wr => ∃ j : Nat, j ≤ E.length ∧ i = .int .i64 j ∧ wr.ownsRow (w.heap.size + 1) 3 1 v (F j).length (i64s (F j)) ∧ v.ownBlock ≠ some gE ∧ Row wr gE E ∧ Below w.heap.size w wr) (fun _ i _ => E.length - (intOf i).toNat)
      case atStart => exact ⟨0, by omega, rfl, by rw [HZ.out]; exact hown, by simp [Value.ownBlock]; omega, hE, hw⟩
      case round =>
        clear hown hE hw
        obtain ⟨j, hj, rfl, hown, hne, hE, hw⟩ := hrel
        have hlen := HKL.out j
        by_cases hlt : j < E.length
        · have hcE := hE.cell hlt
          have hlt' : (j : Int) < E.length := by omega
          have hyF := HY.out j hlt
          have hnF := HNo.out j hlt
          have HQ := Lib.hid (fun W (z : IntS W P ps) => HH.out W (nth E j) z)
          have hgl := hE.lt
          have hsz := hw.size
          generalize nth E j = y at *
          generalize hasB ps y = r at *
          cases r
          case true =>
            have hF := hnF rfl
            have HPX : Hid (i64s (F (j + 1)) = i64s (F j) ++ [Value.int .i64 (1)] ∧ (F (j + 1)).length = (F j).length + 1) := by rw [hF]; exact ⟨i64s_app _ _, by simp⟩
            clear hF
            generalize F j = L at *
            clear hyF hnF
            go_wp2_with fail
            refine (HQ.out _ (zp.below hw)).mono ?_
            rintro e1 w8 ⟨rfl, rfl⟩
            go_wp2_with (at_builtin; (refine wpList_append_own_at _ rfl _ _ 22 rfl (w.heap.size + 1) 3 i0 (.int .i64 0) 1 8 Try.underlying22 hi hz0 hz1 hz2 rfl (by decide) _ _ _ rfl (hown.alloc _) ⟨wr.heap.size, 0, none⟩ 1 1 [.int .i64 (1)] rfl rfl (cell_one_new _ _ _) (by simp [Value.oneCell']) (by unfold maxLen; omega) (by omega) (by simp; omega) ?_); intro v' w1 hown1 hgrow _ hat)
            have hrow1 := (hE.alloc (.cells #[.int .i64 (1)] 3)).grown hgrow (fun e => hne e.symm)
            have hb3 : Below w.heap.size w w1 := Below.grown (hw.alloc hw.size _) hgrow (by simp; omega) (fun g hg => by have := (hown.lt g hg).1; omega)
            have hne1 : v'.ownBlock ≠ some gE := by
              rcases hat with e | e
              · rw [e]; exact hne
              · rw [e]; simp; omega
            rw [← HPX.out.1, ← HPX.out.2] at hown1
            clear hown hgrow hE hw HPX hne hat
            go_wp2
            go_roundw
            case rel => exact ⟨j + 1, by omega, by go_num, hown1, hne1, hrow1, hb3⟩
            case measure => simp only [intOf]; omega
          case false =>
            have hF := hyF rfl
            have HPX : Hid (i64s (F (j + 1)) = i64s (F j) ++ [Value.int .i64 (0)] ∧ (F (j + 1)).length = (F j).length + 1) := by rw [hF]; exact ⟨i64s_app _ _, by simp⟩
            clear hF
            generalize F j = L at *
            clear hyF hnF
            go_wp2_with fail
            refine (HQ.out _ (zp.below hw)).mono ?_
            rintro e1 w8 ⟨rfl, rfl⟩
            go_wp2_with (at_builtin; (refine wpList_append_own_at _ rfl _ _ 22 rfl (w.heap.size + 1) 3 i0 (.int .i64 0) 1 8 Try.underlying22 hi hz0 hz1 hz2 rfl (by decide) _ _ _ rfl (hown.alloc _) ⟨wr.heap.size, 0, none⟩ 1 1 [.int .i64 (0)] rfl rfl (cell_one_new _ _ _) (by simp [Value.oneCell']) (by unfold maxLen; omega) (by omega) (by simp; omega) ?_); intro v' w1 hown1 hgrow _ hat)
            have hrow1 := (hE.alloc (.cells #[.int .i64 (0)] 3)).grown hgrow (fun e => hne e.symm)
            have hb3 : Below w.heap.size w w1 := Below.grown (hw.alloc hw.size _) hgrow (by simp; omega) (fun g hg => by have := (hown.lt g hg).1; omega)
            have hne1 : v'.ownBlock ≠ some gE := by
              rcases hat with e | e
              · rw [e]; exact hne
              · rw [e]; simp; omega
            rw [← HPX.out.1, ← HPX.out.2] at hown1
            clear hown hgrow hE hw HPX hne hat
            go_wp2
            go_roundw
            case rel => exact ⟨j + 1, by omega, by go_num, hown1, hne1, hrow1, hb3⟩
            case measure => simp only [intOf]; omega
        · have hkn : j = E.length := by omega
          rw [hkn] at hown
          obtain ⟨A', c', rfl, hO⟩ := own_form hown
          clear hkn hown HY HNo HKL
          go_wp2
          go_ret2
          exact ⟨A', c', rfl, hO.mono (by omega), hw⟩
end Go.Proofs.Ytdjfjlmbaehppaa
