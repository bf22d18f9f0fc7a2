/- Contracts: FirstEntry. -/
import Derived.Test.YtombfbmcplefgaaPut
import Derived.Test.YtombfbmcplefgaaSProc
import Derived.Test.YtombfbmcplefgaaHigh
import Derived.StillTailTactics
import Derived.Deep.DeepCutAuto
namespace Go.Proofs.Ytombfbmcplefgaa
open Go.ChangeShapes Go.WideShapes Go.ChangeAt Go.RowKit

theorem own_row0 {w : World} {B g c n : Nat} {xs : List Int} (h : w.ownsRow B 3 1 (.slice (some ⟨g, 0, none⟩) n c) n (i64s xs)) : Row w g xs ∧ n ≤ c ∧ B ≤ g := by
  have hl : xs.length = n := by have := h.1; simpa [i64s] using this
  rcases h.2 with ⟨e, _⟩ | ⟨g', cap, cur, e, hg, hh, h1, h2, h3, h4⟩
  · simp at e
  · injection e with e1 _ e2
    injection e1 with e1
    injection e1 with e1
    subst e1 e2
    refine ⟨⟨cur, hh, cur.toList.drop (n * 1), by rw [← h4, List.take_append_drop]⟩, h1, hg⟩
theorem own_far {w : World} {B size n q k : Nat} {e : TypeId} {v u : Value} {xs : List Value} (h : w.ownsRow B e size v n xs) (hq : v.ownBlock ≠ some q) : (w.setCell ⟨q, k, none⟩ u).ownsRow B e size v n xs := by
  refine ⟨h.1, ?_⟩
  rcases h.2 with hn | ⟨g, cap, cur, rfl, hb, hgg, rest⟩
  · exact .inl hn
  · exact .inr ⟨g, cap, cur, rfl, hb, (Below.heap_setCell _ _ _ _ (fun e => hq (by simpa [Value.ownBlock] using e))).trans hgg, rest⟩
def feG (xs ps : List Int) (lv : Int) (k : Nat) (x : Nat) : Bool := decide (x < k) && feEn xs ps lv x
set_option maxHeartbeats 4000000 in
set_option maxRecDepth 100000 in
theorem specFirstEntry_any (A B : Option Addr) (c e : Nat) (xs ys : List Int) (P : Option Addr) (cp : Nat) (ps : List Int) (u9 : Int) (w : World) (h : IntS w A xs) (k : IntS w B ys) (zp : IntS w P ps) (_hx : Bd xs) (_hy : Bd ys) (_bp : Bd ps) (_hu9 : -9223372036854775808 ≤ u9 ∧ u9 ≤ 9223372036854775807) (hn : xs.length ≤ 1048576) (hm : ys.length ≤ 1048576) (lp : ps.length ≤ 1048576) :
    Calls Try.prog 12 #[.agg #[.slice A xs.length c, .slice B ys.length e], .slice P ps.length cp, .int .i64 u9] w (RetIB w (feR xs ys ps u9) (procOk xs ys ps)) := by
  obtain ⟨r1, q1⟩ : ∃ r, (good xs ys && isProc xs.length ps) = r := ⟨_, rfl⟩
  cases r1
  case false =>
    have hO : procOk xs ys ps = false := by unfold procOk ; simp [q1]
    have hV_feR := feR_no (lv := u9) hO
    rw [hV_feR]
    (try rw [hO])
    clear hO hV_feR
    have HG1 := Lib.hid (fun W (h : IntS W A xs) (k : IntS W B ys) (zp : IntS W P ps) => l3Good_any A B P c e cp xs ys ps W h k zp _hx _hy hn hm lp)
    rw [q1] at HG1
    clear q1 _hx _hy _bp
    go_enter Try.func12, Try.ntmps12
    go_wp2_with fail
    refine (HG1.out _ ((h.alloc _).alloc _) ((k.alloc _).alloc _) ((zp.alloc _).alloc _)).mono ?_
    rintro e1 w1 ⟨rfl, hb⟩
    have hx0 : w1.cell? ⟨w.heap.size, 0, none⟩ = some (.slice A xs.length c) := keep_cell hb (by simp)
    have hx1 : w1.cell? ⟨w.heap.size, 1, none⟩ = some (.slice B ys.length e) := keep_cell hb (by simp)
    have hown := own_below (own_empty _ (w.heap.size + 1) (w.heap.size + 1) (by simp) (by simp)) hb
    have hw : Below w.heap.size w w1 := below_alloc (below_alloc (hb))
    clear hb
    obtain ⟨A', c', hv, hO⟩ := own_form (xs := []) hown
    cases hv
    clear hown
    go_wp2
    go_ret2
    exact ⟨_, _, rfl, hO.mono (by omega), hw⟩
  case true =>
    have hO : procOk xs ys ps = true := by unfold procOk ; simp [q1]
    have hV_feR := feR_yes (lv := u9) hO
    rw [hV_feR]
    (try rw [hO])
    clear hO hV_feR
    have HG1 := Lib.hid (fun W (h : IntS W A xs) (k : IntS W B ys) (zp : IntS W P ps) => l3Good_any A B P c e cp xs ys ps W h k zp _hx _hy hn hm lp)
    rw [q1] at HG1
    have hgl := good_len (Bool.and_eq_true_iff.1 q1).1
    have hpl := (isProc_iff (Bool.and_eq_true_iff.1 q1).2).1
    have hn24 : xs.length ≤ 24 := hgl.2.1
    have HPL : Hid (ps.length = xs.length) := hpl
    have HE := Lib.hid (fun W (h : IntS W A xs) => l2Ends_any A B c ys.length e xs W h (by omega) (good_iff.1 (Bool.and_eq_true_iff.1 q1).1).2.1 (good_root (Bool.and_eq_true_iff.1 q1).1))
    have hE1 := Lib.hid (ends_pos (Bool.and_eq_true_iff.1 q1).1)
    have hel := ends_len xs
    have hE24 : (endsL xs).length ≤ 24 := by omega
    have HEM : Hid (∀ j, j < (endsL xs).length → ∃ y : Nat, nth (endsL xs) j = y ∧ y < xs.length ∧ noKid xs xs.length y = true) := fun j hj => ends_mem hj
    have HWy := Lib.hid (fun W (y : Nat) (hy : y < xs.length) (h : IntS W A xs) => l2Way_any (Bool.and_eq_true_iff.1 q1).1 A B c ys.length e y W h hy)
    have HWL := Lib.hid (fun (y : Nat) => way_len xs y)
    have HWM := Lib.hid (fun (y : Nat) (hy : y < xs.length) (k : Nat) (hk : k < (wayL xs y).length) => way_take (good_upL (Bool.and_eq_true_iff.1 q1).1) y hy k hk)
    have HAT := Lib.hid (fun (y k : Nat) (hy : y < xs.length) (he : noKid xs xs.length y = true) (hk : k < (wayL xs y).length) (hlow : ∀ i, i < k → nth ps (nth (wayL xs y) i).toNat < u9) (hstop : k + 1 = (wayL xs y).length ∨ u9 ≤ nth ps (nth (wayL xs y) k).toNat) => fe_at (Bool.and_eq_true_iff.1 q1).1 hy he hk hlow hstop)
    have HST := Lib.hid (fun (i y q : Nat) (hy : nth (endsL xs) i = y) (hyn : y < xs.length) (hq : q < xs.length) (h1 : (q : Int) ∈ up xs y) (h2 : feNew xs ps u9 q = true) => feT_step (Bool.and_eq_true_iff.1 q1).1 hy hyn hq h1 h2)
    have HF0 := Lib.hid (feT_zero xs ps u9)
    have HFA := Lib.hid (fun i => feT_asc xs ps u9 i)
    have HFL : Hid (∀ i, (feT xs ps u9 i).length ≤ 24) := fun i => by have := feT_len xs ps u9 i; omega
    have HFE : Hid (feT xs ps u9 (endsL xs).length = feL xs ps u9) := feT_all (Bool.and_eq_true_iff.1 q1).1
    clear hgl hpl hel
    generalize feT xs ps u9 = F at *
    generalize feL xs ps u9 = FL at *
    generalize endsL xs = E at *
    clear q1 _hx _hy _bp
    go_enter Try.func12, Try.ntmps12
    go_wp2_with fail
    refine (HG1.out _ ((h.alloc _).alloc _) ((k.alloc _).alloc _) ((zp.alloc _).alloc _)).mono ?_
    rintro e1 w1 ⟨rfl, hb⟩
    have hx0 : w1.cell? ⟨w.heap.size, 0, none⟩ = some (.slice A xs.length c) := keep_cell hb (by simp)
    have hx1 : w1.cell? ⟨w.heap.size, 1, none⟩ = some (.slice B ys.length e) := keep_cell hb (by simp)
    have hown := own_below (own_empty _ (w.heap.size + 1) (w.heap.size + 1) (by simp) (by simp)) hb
    have hw : Below w.heap.size w w1 := below_alloc (below_alloc (hb))
    clear hb
    clear HG1
    obtain ⟨hrO, _, _⟩ := own_row0 (xs := []) hown
    rw [← HF0.out] at hrO
    clear hown
    go_wp2_with fail
    refine (HE.out _ (h.below hw)).mono ?_
    rintro e1 w9 ⟨A1, c1, rfl, ho, hb⟩
    obtain ⟨gE, rfl, hgE, hrE⟩ := ho.pos hE1.out
    replace hrO := hrO.below hb
    replace hx0 := keep_cell hb hx0
    replace hx1 := keep_cell hb hx1
    replace hw := keep_below hb hw
    clear ho hb hgE
    go_wp2
    go_loopw [8, 10] (fun ov iv wr => ∃ i gO cO : Nat, i ≤ E.length ∧ iv = .int .i64 i ∧ ov = .slice (some ⟨gO, 0, none⟩) (F i).length cO ∧ (F i).length ≤ cO ∧ w.heap.size + 1 ≤ gO ∧ Row wr gO (F i) ∧ Row wr gE E ∧ wr.cell? ⟨w.heap.size, 0, none⟩ = some (.slice A xs.length c) ∧ wr.cell? ⟨w.heap.size, 1, none⟩ = some (.slice B ys.length e) ∧ Below w.heap.size w wr) (fun _ iv _ => E.length - (intOf iv).toNat)
    case atStart => exact ⟨0, w.heap.size + 1, 0, by omega, rfl, by rw [HF0.out]; rfl, by rw [HF0.out]; exact Nat.le_refl _, Nat.le_refl _, hrO, hrE, hx0, hx1, hw⟩
    case round =>
      clear hrO hrE hx0 hx1 hw
      obtain ⟨i, gO, cO, hi, rfl, rfl, hcO, hgO, hrO, hrE, hx0, hx1, hw⟩ := hrel
      by_cases hlt : i < E.length
      · obtain ⟨y, hy, hyn, hye⟩ := HEM.out i hlt
        have i1 : (i : Int) < E.length := by omega
        have hcE := hrE.cell hlt
        rw [hy] at hcE
        have HY := Lib.hid hy
        have HYE := Lib.hid hye
        have HW9 := Lib.hid (fun W (h : IntS W A xs) => HWy.out W y hyn h)
        have hwl := HWL.out y
        have HWM9 : Hid (∀ k, k < (wayL xs y).length → ∃ q : Nat, nth (wayL xs y) k = q ∧ q < ps.length) := fun k hk => by obtain ⟨q, h1, h2, _⟩ := HWM.out y hyn k hk; exact ⟨q, h1, by rw [HPL.out]; omega⟩
        have HAT9 := Lib.hid (fun k => HAT.out y k hyn hye)
        clear hy hye
        generalize wayL xs y = K at *
        have hK1 : 1 ≤ K.length := hwl.1
        have hK24 : K.length ≤ 24 := by omega
        clear hwl
        go_wp2
        go_still_tail 5, (by kernel_rfl)
        change wpList _ _ _ _ _ wr.drew
        go_wp2_with fail
        refine (HW9.out _ (h.below hw).drew).mono ?_
        rintro e1 w2 ⟨A2, c2, rfl, ho2, hb2⟩
        replace hb2 : Below wr.heap.size wr w2 := ⟨hb2.os, hb2.tape, hb2.output, hb2.size, hb2.block⟩
        obtain ⟨gK, rfl, hgK, hrK⟩ := ho2.pos hK1
        replace hrO := hrO.below hb2
        replace hrE := hrE.below hb2
        replace hx0 := keep_cell hb2 hx0
        replace hx1 := keep_cell hb2 hx1
        replace hw := keep_below hb2 hw
        clear ho2 hb2 hgK
        go_wp2
        go_loop [12] (fun kv => ∃ k : Nat, k < K.length ∧ kv = .int .i64 k ∧ Hid (∀ j, j < k → nth ps (nth K j).toNat < u9)) (fun kv => K.length - (intOf kv).toNat)
        case atStart => exact ⟨0, hK1, rfl, fun j hj => by omega⟩
        case round =>
          obtain ⟨k, hk, rfl, HLow⟩ := hrel
          obtain ⟨q, hq, hqp⟩ := HWM9.out k hk
          have hcK := hrK.cell hk
          rw [hq] at hcK
          have i2 : (k : Int) < K.length := by omega
          have i3 : (q : Int) < ps.length := by omega
          obtain ⟨b9, o9, rfl, hc9⟩ := (zp.below hw).at_ (j := q) hqp
          have HQ := Lib.hid hq
          clear hq
          by_cases hgo : k + 1 < K.length ∧ nth ps q < u9
          · have i4 : (k : Int) + 1 < K.length := by omega
            have i5 : decide ((k : Int) + 1 < K.length) = true := decide_eq_true i4
            have i6 : decide (nth ps q < u9) = true := decide_eq_true hgo.2
            have i7 := hgo.2
            have HLow' : Hid (∀ j, j < k + 1 → nth ps (nth K j).toNat < u9) := fun j hj => by
              by_cases e : j = k
              · subst e; rw [HQ.out, Int.toNat_natCast]; exact hgo.2
              · exact HLow.out j (by omega)
            have hk1 := hgo.1
            clear hgo HLow
            generalize nth ps q = a9 at *
            go_wp2
            go_round
            case rel => exact ⟨k + 1, hk1, by go_num, HLow'⟩
            case measure => simp [intOf]; omega
          · have hst : k + 1 = K.length ∨ u9 ≤ nth ps (nth K k).toNat := by
              rw [HQ.out, Int.toNat_natCast]
              by_cases e : k + 1 = K.length
              · exact .inl e
              · exact .inr (by omega)
            obtain ⟨q', hq1, hq2, hq3, hq4⟩ := HAT9.out k hk HLow.out hst
            have e : q = q' := by have := HQ.out; omega
            subst e
            have HMem := Lib.hid (HST.out i y q HY.out hyn hq2 hq3 hq4)
            have HPu := Lib.hid (fun W (hr : Row W gO (F i)) => l1Put_any gO cO (q : Int) (F i) W hr hcO (by have := HFL.out i; omega) (HFA.out i))
            clear hst hq1 hq2 hq3 hq4 HLow
            generalize nth ps q = a9 at *
            by_cases hk1 : k + 1 < K.length
            · have i4 : (k : Int) + 1 < K.length := by omega
              have i5 : decide ((k : Int) + 1 < K.length) = true := decide_eq_true i4
              have i6 : decide (a9 < u9) = false := decide_eq_false (by omega)
              have i7 : ¬ a9 < u9 := by omega
              clear hgo
              go_wp2_with fail
              refine (HPu.out _ hrO).mono ?_
              rintro e1 w3 ⟨M, g', c', rfl, hrM, hcM, hgM, haM, hmM, hb⟩
              have hM : M = F (i + 1) := asc_ext haM (HFA.out _) fun u => by rw [hmM u, HMem.out u]
              have HM := Lib.hid hM
              replace hrE := hrE.below hb
              replace hx0 := keep_cell hb hx0
              replace hx1 := keep_cell hb hx1
              have hsz := hw.size
              replace hw := keep_below hb hw
              have hg' : w.heap.size + 1 ≤ g' := by
                rcases hgM with e | e
                · omega
                · have := hrO.lt; have := hb.size; omega
              clear hb hgM haM hmM hM hsz
              go_wp2
              go_roundw
              case rel => exact ⟨i + 1, g', c', by omega, by go_num, by rw [HM.out], by rw [← HM.out]; exact hcM, hg', by rw [← HM.out]; exact hrM, hrE, hx0, hx1, hw⟩
              case measure => simp [intOf]; omega
            · have i4 : ¬ ((k : Int) + 1 < K.length) := by omega
              have i5 : decide ((k : Int) + 1 < K.length) = false := decide_eq_false i4
              clear hgo
              go_wp2_with fail
              refine (HPu.out _ hrO).mono ?_
              rintro e1 w3 ⟨M, g', c', rfl, hrM, hcM, hgM, haM, hmM, hb⟩
              have hM : M = F (i + 1) := asc_ext haM (HFA.out _) fun u => by rw [hmM u, HMem.out u]
              have HM := Lib.hid hM
              replace hrE := hrE.below hb
              replace hx0 := keep_cell hb hx0
              replace hx1 := keep_cell hb hx1
              have hsz := hw.size
              replace hw := keep_below hb hw
              have hg' : w.heap.size + 1 ≤ g' := by
                rcases hgM with e | e
                · omega
                · have := hrO.lt; have := hb.size; omega
              clear hb hgM haM hmM hM hsz
              go_wp2
              go_roundw
              case rel => exact ⟨i + 1, g', c', by omega, by go_num, by rw [HM.out], by rw [← HM.out]; exact hcM, hg', by rw [← HM.out]; exact hrM, hrE, hx0, hx1, hw⟩
              case measure => simp [intOf]; omega
      · have hie : i = E.length := by omega
        have HL9 := Lib.hid (show F i = FL by rw [hie]; exact HFE.out)
        clear HFE HF0 HFA HST HAT
        rw [HL9.out] at hrO ⊢
        clear hie
        go_wp2
        go_ret2
        exact ⟨_, _, rfl, .inr ⟨gO, rfl, by omega, hrO⟩, hw⟩
set_option maxHeartbeats 8000000 in
set_option maxRecDepth 100000 in
theorem implFirstEntry_any (A B : Option Addr) (c e : Nat) (xs ys : List Int) (P : Option Addr) (cp : Nat) (ps : List Int) (u9 : Int) (w : World) (h : IntS w A xs) (k : IntS w B ys) (zp : IntS w P ps) (_hx : Bd xs) (_hy : Bd ys) (_bp : Bd ps) (_hu9 : -9223372036854775808 ≤ u9 ∧ u9 ≤ 9223372036854775807) (hn : xs.length ≤ 1048576) (hm : ys.length ≤ 1048576) (lp : ps.length ≤ 1048576) :
    Calls Try.prog 15 #[.agg #[.slice A xs.length c, .slice B ys.length e], .slice P ps.length cp, .int .i64 u9] w (RetIB w (feR xs ys ps u9) (procOk xs ys ps)) := by
  obtain ⟨r1, q1⟩ : ∃ r, (good xs ys) = r := ⟨_, rfl⟩
  cases r1
  case false =>
    have hO : procOk xs ys ps = false := by unfold procOk ; simp [q1]
    have hV_feR := feR_no (lv := u9) hO
    rw [hV_feR]
    (try rw [hO])
    clear hO hV_feR
    have HG1 := Lib.hid (fun W (h : IntS W A xs) (k : IntS W B ys) => isTree_any A B c e xs ys W h k _hx _hy hn hm)
    rw [q1] at HG1
    clear q1 _hx _hy _bp
    go_enter Try.func15, Try.ntmps15
    go_wp2_with fail
    refine (HG1.out _ (h.alloc _) (k.alloc _)).mono ?_
    rintro e1 w1 ⟨rfl, hb⟩
    have hx0 : w1.cell? ⟨w.heap.size, 0, none⟩ = some (.slice A xs.length c) := keep_cell hb (by simp)
    have hx1 : w1.cell? ⟨w.heap.size, 1, none⟩ = some (.slice B ys.length e) := keep_cell hb (by simp)
    have hw : Below w.heap.size w w1 := below_alloc (hb)
    clear hb
    go_wp2
    go_ret2
    exact ⟨none, 0, rfl, .inl ⟨rfl, rfl⟩, hw⟩
  case true =>
    obtain ⟨r2, q2⟩ : ∃ r, (isProc xs.length ps) = r := ⟨_, rfl⟩
    cases r2
    case false =>
      have hO : procOk xs ys ps = false := by unfold procOk ; simp [q1, q2]
      have hV_feR := feR_no (lv := u9) hO
      rw [hV_feR]
      (try rw [hO])
      clear hO hV_feR
      have HG1 := Lib.hid (fun W (h : IntS W A xs) (k : IntS W B ys) => isTree_any A B c e xs ys W h k _hx _hy hn hm)
      rw [q1] at HG1
      have HG2 := Lib.hid (fun W (zp : IntS W P ps) => isProcess_any A B P c ys.length e cp xs.length ps W zp lp hn)
      rw [q2] at HG2
      clear q1 q2 _hx _hy _bp
      go_enter Try.func15, Try.ntmps15
      go_wp2_with fail
      refine (HG1.out _ (h.alloc _) (k.alloc _)).mono ?_
      rintro e1 w1 ⟨rfl, hb⟩
      have hx0 : w1.cell? ⟨w.heap.size, 0, none⟩ = some (.slice A xs.length c) := keep_cell hb (by simp)
      have hx1 : w1.cell? ⟨w.heap.size, 1, none⟩ = some (.slice B ys.length e) := keep_cell hb (by simp)
      have hw : Below w.heap.size w w1 := below_alloc (hb)
      clear hb
      go_wp2_with fail
      refine (HG2.out _ (zp.below hw)).mono ?_
      rintro e1 w2 ⟨rfl, hb⟩
      replace hx0 := keep_cell hb hx0
      replace hx1 := keep_cell hb hx1
      replace hw := keep_below hb hw
      clear hb
      go_wp2
      go_ret2
      exact ⟨none, 0, rfl, .inl ⟨rfl, rfl⟩, hw⟩
    case true =>
      have hO : procOk xs ys ps = true := by unfold procOk ; simp [q1, q2]
      have hV_feR := feR_yes (lv := u9) hO
      rw [hV_feR]
      (try rw [hO])
      clear hO hV_feR
      have HG1 := Lib.hid (fun W (h : IntS W A xs) (k : IntS W B ys) => isTree_any A B c e xs ys W h k _hx _hy hn hm)
      rw [q1] at HG1
      have HG2 := Lib.hid (fun W (zp : IntS W P ps) => isProcess_any A B P c ys.length e cp xs.length ps W zp lp hn)
      rw [q2] at HG2
      have hgl := good_len q1
      have hpl := (isProc_iff q2).1
      have hn24 : xs.length ≤ 24 := hgl.2.1
      have hps : ps.length ≤ 24 := by omega
      have HPL : Hid (ps.length = xs.length) := hpl
      have HPN : Hid (xs.length = ps.length) := hpl.symm
      have HEn := Lib.hid (fun W (h : IntS W A xs) => isEnd_any A B c ys.length e xs W h (by omega) (Lib.hid ((good_iff.1 q1).2.1.lt (good_iff.1 q1).1.2.2)))
      have hmk := run_makeB ps.length (by omega)
      have HU := Lib.hid (good_upL q1)
      have HR0 := Lib.hid (fe_root xs ps u9)
      have HS := Lib.hid (fun (x p : Nat) (h1 : 1 ≤ x) (hx : x < xs.length) (hp : nth xs x = p) (hpx : p < x) => fe_step (ps := ps) (lv := u9) (good_upL q1) h1 hx hp hpx)
      have HH : Hid (∀ x, feHit xs ps u9 x = (decide (u9 ≤ nth ps x) || noKid xs xs.length x)) := fun x => rfl
      have HB0 : Hid (∀ i, feG xs ps u9 0 i = false) := fun i => by simp [feG]
      have HBD : Hid (∀ k i, feG xs ps u9 k i = (decide (i < k) && feEn xs ps u9 i)) := fun k i => rfl
      have HFD : Hid (pick (feNew xs ps u9) xs.length = feL xs ps u9) := rfl
      have HFL := Lib.hid (fun k => pick_len (feNew xs ps u9) k)
      have HFY := Lib.hid (fun k (h : feNew xs ps u9 k = true) => pick_yes h)
      have HFN := Lib.hid (fun k (h : feNew xs ps u9 k = false) => pick_no h)
      have HF0 : Hid (pick (feNew xs ps u9) 0 = []) := rfl
      clear hgl hpl
      generalize feL xs ps u9 = FL at *
      generalize hNW : feNew xs ps u9 = NW at *
      generalize pick NW = F at *
      clear hNW
      generalize feG xs ps u9 = G at *
      generalize feHit xs ps u9 = H at *
      generalize feEn xs ps u9 = EN at *
      generalize noKid xs xs.length = KD at *
      obtain ⟨i0, hi, hz0, hz1, hz2⟩ := info_parts info_int
      clear q1 q2 _hx _hy _bp
      go_enter Try.func15, Try.ntmps15
      go_wp2_with fail
      refine (HG1.out _ (h.alloc _) (k.alloc _)).mono ?_
      rintro e1 w1 ⟨rfl, hb⟩
      have hx0 : w1.cell? ⟨w.heap.size, 0, none⟩ = some (.slice A xs.length c) := keep_cell hb (by simp)
      have hx1 : w1.cell? ⟨w.heap.size, 1, none⟩ = some (.slice B ys.length e) := keep_cell hb (by simp)
      have hw : Below w.heap.size w w1 := below_alloc (hb)
      clear hb
      go_wp2_with fail
      refine (HG2.out _ (zp.below hw)).mono ?_
      rintro e1 w2 ⟨rfl, hb⟩
      replace hx0 := keep_cell hb hx0
      replace hx1 := keep_cell hb hx1
      replace hw := keep_below hb hw
      clear hb
      clear HG1 HG2
      go_upto_region 3 with (fail)
      go_cut [8, 9, 10] (fun s8 s9 s10 wr => ∃ gO gE gB : Nat, s8 = .slice (some ⟨gO, 0, none⟩) 0 0 ∧ s9 = .slice (some ⟨gE, 0, none⟩) xs.length xs.length ∧ s10 = .slice (some ⟨gB, 0, none⟩) ps.length ps.length ∧ gE ≠ gB ∧ w.heap.size < gE ∧ w.heap.size < gB ∧ RowB wr gE xs.length KD ∧ RowB wr gB ps.length (G 0) ∧ wr.ownsRow (w.heap.size + 1) 3 1 (.slice (some ⟨gO, 0, none⟩) 0 0) 0 (i64s []) ∧ wr.cell? ⟨w.heap.size, 0, none⟩ = some (.slice A xs.length c) ∧ wr.cell? ⟨w.heap.size, 1, none⟩ = some (.slice B ys.length e) ∧ Below w.heap.size w wr)
      case first =>
        refine wp_region_held_drew (S := fun w' => w'.cell? ⟨w.heap.size, 0, none⟩ = some (.slice A xs.length c) ∧ w'.cell? ⟨w.heap.size, 1, none⟩ = some (.slice B ys.length e) ∧ Below w.heap.size w w') (by kernel_rfl) ⟨hx0, hx1, hw.drew⟩ (fun hHeld => ?_)
        refine wpAnyH_take (i := 1) (oi := ?ooe1) (v := ?vve1) ?hie1 (by kernel_rfl) (by kernel_rfl) (by kernel_rfl) ?hqe1 (Or.inl ⟨?hge1, ?hye1⟩) (by assumption) ?reste1
        case hie1 => simp only [List.getElem?_toArray, List.getElem?_cons_zero, List.getElem?_cons_succ]; rfl
        case hqe1 => exact fun _ _ _ h => h
        case hge1 => rfl
        case hye1 =>
          intro wq hSw
          obtain ⟨hx0, hx1, hw⟩ := hSw
          go_simp
          (try with_reducible rfl)
        (try simp only [Act.put, List.setIfInBounds_toArray, List.set_cons_zero, List.set_cons_succ])
        refine wpAnyH_take (i := 3) (oi := ?ooe2) (v := ?vve2) ?hie2 (by kernel_rfl) (by kernel_rfl) (by kernel_rfl) ?hqe2 (Or.inl ⟨?hge2, ?hye2⟩) (by assumption) ?reste2
        case hie2 => simp only [List.getElem?_toArray, List.getElem?_cons_zero, List.getElem?_cons_succ]; rfl
        case hqe2 => exact fun _ _ _ h => h
        case hge2 => rfl
        case hye2 =>
          intro wq hSw
          obtain ⟨hx0, hx1, hw⟩ := hSw
          go_simp
          (try with_reducible rfl)
        (try simp only [Act.put, List.setIfInBounds_toArray, List.set_cons_zero, List.set_cons_succ])
        refine wpAnyH_take (i := 4) (oi := ?ooe3) (v := ?vve3) ?hie3 (by kernel_rfl) (by kernel_rfl) (by kernel_rfl) ?hqe3 (Or.inl ⟨?hge3, ?hye3⟩) (by assumption) ?reste3
        case hie3 => simp only [List.getElem?_toArray, List.getElem?_cons_zero, List.getElem?_cons_succ]; rfl
        case hqe3 => exact fun _ _ _ h => h
        case hge3 => rfl
        case hye3 =>
          intro wq hSw
          obtain ⟨hx0, hx1, hw⟩ := hSw
          go_simp
          (try with_reducible rfl)
        (try simp only [Act.put, List.setIfInBounds_toArray, List.set_cons_zero, List.set_cons_succ])
        refine wpAnyH_ready (rs := [0, 2, 5]) (by kernel_rfl) (by simp) ?_
        refine AllReadyH.cons (i := 0) (o := ?ooe4) ?hoe4 (fun K hK => ?hstepe4) ?moree4
        case hoe4 => simp only [List.getElem?_toArray, List.getElem?_cons_zero, List.getElem?_cons_succ]; rfl
        case hstepe4 =>
          go_simp
          clear hHeld
          refine hK.out _ _ ⟨keep_cell (Below.drew ((Below.refl w2.heap.size w2).alloc (Nat.le_refl _) _)) hx0, keep_cell (Below.drew ((Below.refl w2.heap.size w2).alloc (Nat.le_refl _) _)) hx1, Below.drew (keep_below_alloc hw _)⟩ (fun hHeld => ?_)
          clear hK K
          (try simp only [Act.put, List.setIfInBounds_toArray, List.set_cons_zero, List.set_cons_succ])
          refine wpAnyH_name hHeld (fun wae4 hHa hwz => ?_)
          have hbA : Below w2.heap.size w2 wae4 := by rw [hwz]; exact Below.drew ((Below.refl w2.heap.size w2).alloc (Nat.le_refl _) _)
          have hwo : w.heap.size + 1 ≤ w2.heap.size := World.block_lt_of_cell? _ _ hx0
          replace hx0 := keep_cell hbA hx0
          replace hx1 := keep_cell hbA hx1
          replace hw := keep_below hbA hw
          have hown : wae4.ownsRow (w.heap.size + 1) 3 1 (.slice (some ⟨w2.heap.size, 0, none⟩) 0 0) 0 (i64s []) := by rw [hwz]; exact own_empty w2 (w.heap.size + 1) w2.heap.size rfl hwo
          clear hHeld hbA hwz
          have hHeld := hHa
          clear hHa
          refine wpAnyH_ready (rs := [2, 5]) (by kernel_rfl) (by simp) ?_
          refine AllReadyH.cons (i := 2) (o := ?ooe5) ?hoe5 (fun K hK => ?hstepe5) ?moree5
          case hoe5 => simp only [List.getElem?_toArray, List.getElem?_cons_zero, List.getElem?_cons_succ]; rfl
          case hstepe5 =>
            go_simp
            refine (HEn.out _ (h.below hw)).mono ?_
            rintro e1 wze5 ⟨gE, rfl, hrE, hgE, hb⟩
            have hwE : w.heap.size < gE := Nat.lt_of_lt_of_le (World.block_lt_of_cell? _ _ hx0) hgE
            replace hx0 := keep_cell hb hx0
            replace hx1 := keep_cell hb hx1
            replace hown := own_below hown hb
            replace hw := keep_below hb hw
            clear hHeld
            go_wp2_with fail
            refine hK.out _ _ ⟨hx0, hx1, hw⟩ (fun hHeld => ?_)
            clear hK K hb
            (try simp only [Act.put, List.setIfInBounds_toArray, List.set_cons_zero, List.set_cons_succ])
            refine wpAnyH_take (i := 6) (oi := ?ooe6) (v := ?vve6) ?hie6 (by kernel_rfl) (by kernel_rfl) (by kernel_rfl) ?hqe6 (Or.inl ⟨?hge6, ?hye6⟩) (by assumption) ?reste6
            case hie6 => simp only [List.getElem?_toArray, List.getElem?_cons_zero, List.getElem?_cons_succ]; rfl
            case hqe6 => exact fun _ _ _ h => h
            case hge6 => rfl
            case hye6 =>
              intro wq hSw
              obtain ⟨hx0, hx1, hw⟩ := hSw
              go_simp
              (try with_reducible rfl)
            (try simp only [Act.put, List.setIfInBounds_toArray, List.set_cons_zero, List.set_cons_succ])
            refine wpAnyH_take (i := 7) (oi := ?ooe7) (v := ?vve7) ?hie7 (by kernel_rfl) (by kernel_rfl) (by kernel_rfl) ?hqe7 (Or.inl ⟨?hge7, ?hye7⟩) (by assumption) ?reste7
            case hie7 => simp only [List.getElem?_toArray, List.getElem?_cons_zero, List.getElem?_cons_succ]; rfl
            case hqe7 => exact fun _ _ _ h => h
            case hge7 => rfl
            case hye7 =>
              intro wq hSw
              obtain ⟨hx0, hx1, hw⟩ := hSw
              go_simp
              (try with_reducible rfl)
            (try simp only [Act.put, List.setIfInBounds_toArray, List.set_cons_zero, List.set_cons_succ])
            refine wpAnyH_ready (rs := [5]) (by kernel_rfl) (by simp) ?_
            refine AllReadyH.cons (i := 5) (o := ?ooe8) ?hoe8 (fun K hK => ?hstepe8) AllReadyH.nil
            case hoe8 => simp only [List.getElem?_toArray, List.getElem?_cons_zero, List.getElem?_cons_succ]; rfl
            go_simp
            clear hHeld
            refine hK.out _ _ ⟨keep_cell ((Below.refl wze5.heap.size wze5).alloc (Nat.le_refl _) _) hx0, keep_cell ((Below.refl wze5.heap.size wze5).alloc (Nat.le_refl _) _) hx1, keep_below_alloc hw _⟩ (fun hHeld => ?_)
            clear hK K
            (try simp only [Act.put, List.setIfInBounds_toArray, List.set_cons_zero, List.set_cons_succ])
            refine wpAnyH_name hHeld (fun wae8 hHa hwz => ?_)
            have hbA : Below wze5.heap.size wze5 wae8 := by rw [hwz]; exact (Below.refl wze5.heap.size wze5).alloc (Nat.le_refl _) _
            have hwB : w.heap.size < wze5.heap.size := World.block_lt_of_cell? _ _ hx0
            have hEB : gE ≠ wze5.heap.size := by have := hrE.lt; omega
            replace hx0 := keep_cell hbA hx0
            replace hx1 := keep_cell hbA hx1
            replace hown := own_below hown hbA
            replace hrE := hrE.below hbA
            replace hw := keep_below hbA hw
            have hrB : RowB wae8 wze5.heap.size ps.length (G 0) := by rw [hwz]; exact (RowB.new wze5 _ ps.length rfl).congr (fun i _ => (HB0.out i).symm)
            generalize wze5.heap.size = gB at hrB hwB hEB ⊢
            clear hHeld hbA hwz
            have hHeld := hHa
            clear hHa
            refine wpAnyH_take (i := 8) (oi := ?ooe9) (v := ?vve9) ?hie9 (by kernel_rfl) (by kernel_rfl) (by kernel_rfl) ?hqe9 (Or.inl ⟨?hge9, ?hye9⟩) (by assumption) ?reste9
            case hie9 => simp only [List.getElem?_toArray, List.getElem?_cons_zero, List.getElem?_cons_succ]; rfl
            case hqe9 => exact fun _ _ _ h => h
            case hge9 => rfl
            case hye9 =>
              intro wq hSw
              obtain ⟨hx0, hx1, hw⟩ := hSw
              go_simp
              (try with_reducible rfl)
            (try simp only [Act.put, List.setIfInBounds_toArray, List.set_cons_zero, List.set_cons_succ])
            clear hHeld
            refine wpAnyH_done (by kernel_rfl) ?_ _
            go_wp2_with fail
            go_meet
            go_split_ands
            exact ⟨_, _, _, rfl, rfl, rfl, hEB, hwE, hwB, hrE, hrB, hown, hx0, hx1, hw⟩
          refine AllReadyH.cons (i := 5) (o := ?ooe10) ?hoe10 (fun K hK => ?hstepe10) ?moree10
          case hoe10 => simp only [List.getElem?_toArray, List.getElem?_cons_zero, List.getElem?_cons_succ]; rfl
          case hstepe10 =>
            go_simp
            clear hHeld
            refine hK.out _ _ ⟨keep_cell ((Below.refl wae4.heap.size wae4).alloc (Nat.le_refl _) _) hx0, keep_cell ((Below.refl wae4.heap.size wae4).alloc (Nat.le_refl _) _) hx1, keep_below_alloc hw _⟩ (fun hHeld => ?_)
            clear hK K
            (try simp only [Act.put, List.setIfInBounds_toArray, List.set_cons_zero, List.set_cons_succ])
            refine wpAnyH_name hHeld (fun wae10 hHa hwz => ?_)
            have hbA : Below wae4.heap.size wae4 wae10 := by rw [hwz]; exact (Below.refl wae4.heap.size wae4).alloc (Nat.le_refl _) _
            have hwB : w.heap.size < wae4.heap.size := World.block_lt_of_cell? _ _ hx0
            replace hx0 := keep_cell hbA hx0
            replace hx1 := keep_cell hbA hx1
            replace hown := own_below hown hbA
            replace hw := keep_below hbA hw
            have hrB : RowB wae10 wae4.heap.size ps.length (G 0) := by rw [hwz]; exact (RowB.new wae4 _ ps.length rfl).congr (fun i _ => (HB0.out i).symm)
            generalize wae4.heap.size = gB at hrB hwB  ⊢
            clear hHeld hbA hwz
            have hHeld := hHa
            clear hHa
            refine wpAnyH_ready (rs := [2]) (by kernel_rfl) (by simp) ?_
            refine AllReadyH.cons (i := 2) (o := ?ooe11) ?hoe11 (fun K hK => ?hstepe11) AllReadyH.nil
            case hoe11 => simp only [List.getElem?_toArray, List.getElem?_cons_zero, List.getElem?_cons_succ]; rfl
            go_simp
            refine (HEn.out _ (h.below hw)).mono ?_
            rintro e1 wze11 ⟨gE, rfl, hrE, hgE, hb⟩
            have hwE : w.heap.size < gE := Nat.lt_of_lt_of_le (World.block_lt_of_cell? _ _ hx0) hgE
            have hEB : gE ≠ gB := by have := hrB.lt; omega
            replace hx0 := keep_cell hb hx0
            replace hx1 := keep_cell hb hx1
            replace hown := own_below hown hb
            replace hrB := hrB.below hb
            replace hw := keep_below hb hw
            clear hHeld
            go_wp2_with fail
            refine hK.out _ _ ⟨hx0, hx1, hw⟩ (fun hHeld => ?_)
            clear hK K hb
            (try simp only [Act.put, List.setIfInBounds_toArray, List.set_cons_zero, List.set_cons_succ])
            refine wpAnyH_take (i := 6) (oi := ?ooe12) (v := ?vve12) ?hie12 (by kernel_rfl) (by kernel_rfl) (by kernel_rfl) ?hqe12 (Or.inl ⟨?hge12, ?hye12⟩) (by assumption) ?reste12
            case hie12 => simp only [List.getElem?_toArray, List.getElem?_cons_zero, List.getElem?_cons_succ]; rfl
            case hqe12 => exact fun _ _ _ h => h
            case hge12 => rfl
            case hye12 =>
              intro wq hSw
              obtain ⟨hx0, hx1, hw⟩ := hSw
              go_simp
              (try with_reducible rfl)
            (try simp only [Act.put, List.setIfInBounds_toArray, List.set_cons_zero, List.set_cons_succ])
            refine wpAnyH_take (i := 7) (oi := ?ooe13) (v := ?vve13) ?hie13 (by kernel_rfl) (by kernel_rfl) (by kernel_rfl) ?hqe13 (Or.inl ⟨?hge13, ?hye13⟩) (by assumption) ?reste13
            case hie13 => simp only [List.getElem?_toArray, List.getElem?_cons_zero, List.getElem?_cons_succ]; rfl
            case hqe13 => exact fun _ _ _ h => h
            case hge13 => rfl
            case hye13 =>
              intro wq hSw
              obtain ⟨hx0, hx1, hw⟩ := hSw
              go_simp
              (try with_reducible rfl)
            (try simp only [Act.put, List.setIfInBounds_toArray, List.set_cons_zero, List.set_cons_succ])
            refine wpAnyH_take (i := 8) (oi := ?ooe14) (v := ?vve14) ?hie14 (by kernel_rfl) (by kernel_rfl) (by kernel_rfl) ?hqe14 (Or.inl ⟨?hge14, ?hye14⟩) (by assumption) ?reste14
            case hie14 => simp only [List.getElem?_toArray, List.getElem?_cons_zero, List.getElem?_cons_succ]; rfl
            case hqe14 => exact fun _ _ _ h => h
            case hge14 => rfl
            case hye14 =>
              intro wq hSw
              obtain ⟨hx0, hx1, hw⟩ := hSw
              go_simp
              (try with_reducible rfl)
            (try simp only [Act.put, List.setIfInBounds_toArray, List.set_cons_zero, List.set_cons_succ])
            clear hHeld
            refine wpAnyH_done (by kernel_rfl) ?_ _
            go_wp2_with fail
            go_meet
            go_split_ands
            exact ⟨_, _, _, rfl, rfl, rfl, hEB, hwE, hwB, hrE, hrB, hown, hx0, hx1, hw⟩
          exact AllReadyH.nil
        refine AllReadyH.cons (i := 2) (o := ?ooe15) ?hoe15 (fun K hK => ?hstepe15) ?moree15
        case hoe15 => simp only [List.getElem?_toArray, List.getElem?_cons_zero, List.getElem?_cons_succ]; rfl
        case hstepe15 =>
          go_simp
          refine (HEn.out _ (h.below hw.drew)).mono ?_
          rintro e1 wze15 ⟨gE, rfl, hrE, hgE, hb⟩
          have hwE : w.heap.size < gE := Nat.lt_of_lt_of_le (World.block_lt_of_cell? _ _ hx0) hgE
          replace hb : Below w2.heap.size w2 wze15 := ⟨hb.os, hb.tape, hb.output, hb.size, hb.block⟩
          replace hx0 := keep_cell hb hx0
          replace hx1 := keep_cell hb hx1
          replace hw := keep_below hb hw
          clear hHeld
          go_wp2_with fail
          refine hK.out _ _ ⟨hx0, hx1, hw⟩ (fun hHeld => ?_)
          clear hK K hb
          (try simp only [Act.put, List.setIfInBounds_toArray, List.set_cons_zero, List.set_cons_succ])
          refine wpAnyH_ready (rs := [0, 5]) (by kernel_rfl) (by simp) ?_
          refine AllReadyH.cons (i := 0) (o := ?ooe16) ?hoe16 (fun K hK => ?hstepe16) ?moree16
          case hoe16 => simp only [List.getElem?_toArray, List.getElem?_cons_zero, List.getElem?_cons_succ]; rfl
          case hstepe16 =>
            go_simp
            clear hHeld
            refine hK.out _ _ ⟨keep_cell ((Below.refl wze15.heap.size wze15).alloc (Nat.le_refl _) _) hx0, keep_cell ((Below.refl wze15.heap.size wze15).alloc (Nat.le_refl _) _) hx1, keep_below_alloc hw _⟩ (fun hHeld => ?_)
            clear hK K
            (try simp only [Act.put, List.setIfInBounds_toArray, List.set_cons_zero, List.set_cons_succ])
            refine wpAnyH_name hHeld (fun wae16 hHa hwz => ?_)
            have hbA : Below wze15.heap.size wze15 wae16 := by rw [hwz]; exact (Below.refl wze15.heap.size wze15).alloc (Nat.le_refl _) _
            have hwo : w.heap.size + 1 ≤ wze15.heap.size := World.block_lt_of_cell? _ _ hx0
            replace hx0 := keep_cell hbA hx0
            replace hx1 := keep_cell hbA hx1
            replace hrE := hrE.below hbA
            replace hw := keep_below hbA hw
            have hown : wae16.ownsRow (w.heap.size + 1) 3 1 (.slice (some ⟨wze15.heap.size, 0, none⟩) 0 0) 0 (i64s []) := by rw [hwz]; exact own_empty wze15 (w.heap.size + 1) wze15.heap.size rfl hwo
            clear hHeld hbA hwz
            have hHeld := hHa
            clear hHa
            refine wpAnyH_take (i := 6) (oi := ?ooe17) (v := ?vve17) ?hie17 (by kernel_rfl) (by kernel_rfl) (by kernel_rfl) ?hqe17 (Or.inl ⟨?hge17, ?hye17⟩) (by assumption) ?reste17
            case hie17 => simp only [List.getElem?_toArray, List.getElem?_cons_zero, List.getElem?_cons_succ]; rfl
            case hqe17 => exact fun _ _ _ h => h
            case hge17 => rfl
            case hye17 =>
              intro wq hSw
              obtain ⟨hx0, hx1, hw⟩ := hSw
              go_simp
              (try with_reducible rfl)
            (try simp only [Act.put, List.setIfInBounds_toArray, List.set_cons_zero, List.set_cons_succ])
            refine wpAnyH_take (i := 7) (oi := ?ooe18) (v := ?vve18) ?hie18 (by kernel_rfl) (by kernel_rfl) (by kernel_rfl) ?hqe18 (Or.inl ⟨?hge18, ?hye18⟩) (by assumption) ?reste18
            case hie18 => simp only [List.getElem?_toArray, List.getElem?_cons_zero, List.getElem?_cons_succ]; rfl
            case hqe18 => exact fun _ _ _ h => h
            case hge18 => rfl
            case hye18 =>
              intro wq hSw
              obtain ⟨hx0, hx1, hw⟩ := hSw
              go_simp
              (try with_reducible rfl)
            (try simp only [Act.put, List.setIfInBounds_toArray, List.set_cons_zero, List.set_cons_succ])
            refine wpAnyH_ready (rs := [5]) (by kernel_rfl) (by simp) ?_
            refine AllReadyH.cons (i := 5) (o := ?ooe19) ?hoe19 (fun K hK => ?hstepe19) AllReadyH.nil
            case hoe19 => simp only [List.getElem?_toArray, List.getElem?_cons_zero, List.getElem?_cons_succ]; rfl
            go_simp
            clear hHeld
            refine hK.out _ _ ⟨keep_cell ((Below.refl wae16.heap.size wae16).alloc (Nat.le_refl _) _) hx0, keep_cell ((Below.refl wae16.heap.size wae16).alloc (Nat.le_refl _) _) hx1, keep_below_alloc hw _⟩ (fun hHeld => ?_)
            clear hK K
            (try simp only [Act.put, List.setIfInBounds_toArray, List.set_cons_zero, List.set_cons_succ])
            refine wpAnyH_name hHeld (fun wae19 hHa hwz => ?_)
            have hbA : Below wae16.heap.size wae16 wae19 := by rw [hwz]; exact (Below.refl wae16.heap.size wae16).alloc (Nat.le_refl _) _
            have hwB : w.heap.size < wae16.heap.size := World.block_lt_of_cell? _ _ hx0
            have hEB : gE ≠ wae16.heap.size := by have := hrE.lt; omega
            replace hx0 := keep_cell hbA hx0
            replace hx1 := keep_cell hbA hx1
            replace hrE := hrE.below hbA
            replace hown := own_below hown hbA
            replace hw := keep_below hbA hw
            have hrB : RowB wae19 wae16.heap.size ps.length (G 0) := by rw [hwz]; exact (RowB.new wae16 _ ps.length rfl).congr (fun i _ => (HB0.out i).symm)
            generalize wae16.heap.size = gB at hrB hwB hEB ⊢
            clear hHeld hbA hwz
            have hHeld := hHa
            clear hHa
            refine wpAnyH_take (i := 8) (oi := ?ooe20) (v := ?vve20) ?hie20 (by kernel_rfl) (by kernel_rfl) (by kernel_rfl) ?hqe20 (Or.inl ⟨?hge20, ?hye20⟩) (by assumption) ?reste20
            case hie20 => simp only [List.getElem?_toArray, List.getElem?_cons_zero, List.getElem?_cons_succ]; rfl
            case hqe20 => exact fun _ _ _ h => h
            case hge20 => rfl
            case hye20 =>
              intro wq hSw
              obtain ⟨hx0, hx1, hw⟩ := hSw
              go_simp
              (try with_reducible rfl)
            (try simp only [Act.put, List.setIfInBounds_toArray, List.set_cons_zero, List.set_cons_succ])
            clear hHeld
            refine wpAnyH_done (by kernel_rfl) ?_ _
            go_wp2_with fail
            go_meet
            go_split_ands
            exact ⟨_, _, _, rfl, rfl, rfl, hEB, hwE, hwB, hrE, hrB, hown, hx0, hx1, hw⟩
          refine AllReadyH.cons (i := 5) (o := ?ooe21) ?hoe21 (fun K hK => ?hstepe21) ?moree21
          case hoe21 => simp only [List.getElem?_toArray, List.getElem?_cons_zero, List.getElem?_cons_succ]; rfl
          case hstepe21 =>
            go_simp
            clear hHeld
            refine hK.out _ _ ⟨keep_cell ((Below.refl wze15.heap.size wze15).alloc (Nat.le_refl _) _) hx0, keep_cell ((Below.refl wze15.heap.size wze15).alloc (Nat.le_refl _) _) hx1, keep_below_alloc hw _⟩ (fun hHeld => ?_)
            clear hK K
            (try simp only [Act.put, List.setIfInBounds_toArray, List.set_cons_zero, List.set_cons_succ])
            refine wpAnyH_name hHeld (fun wae21 hHa hwz => ?_)
            have hbA : Below wze15.heap.size wze15 wae21 := by rw [hwz]; exact (Below.refl wze15.heap.size wze15).alloc (Nat.le_refl _) _
            have hwB : w.heap.size < wze15.heap.size := World.block_lt_of_cell? _ _ hx0
            have hEB : gE ≠ wze15.heap.size := by have := hrE.lt; omega
            replace hx0 := keep_cell hbA hx0
            replace hx1 := keep_cell hbA hx1
            replace hrE := hrE.below hbA
            replace hw := keep_below hbA hw
            have hrB : RowB wae21 wze15.heap.size ps.length (G 0) := by rw [hwz]; exact (RowB.new wze15 _ ps.length rfl).congr (fun i _ => (HB0.out i).symm)
            generalize wze15.heap.size = gB at hrB hwB hEB ⊢
            clear hHeld hbA hwz
            have hHeld := hHa
            clear hHa
            refine wpAnyH_ready (rs := [0]) (by kernel_rfl) (by simp) ?_
            refine AllReadyH.cons (i := 0) (o := ?ooe22) ?hoe22 (fun K hK => ?hstepe22) AllReadyH.nil
            case hoe22 => simp only [List.getElem?_toArray, List.getElem?_cons_zero, List.getElem?_cons_succ]; rfl
            go_simp
            clear hHeld
            refine hK.out _ _ ⟨keep_cell ((Below.refl wae21.heap.size wae21).alloc (Nat.le_refl _) _) hx0, keep_cell ((Below.refl wae21.heap.size wae21).alloc (Nat.le_refl _) _) hx1, keep_below_alloc hw _⟩ (fun hHeld => ?_)
            clear hK K
            (try simp only [Act.put, List.setIfInBounds_toArray, List.set_cons_zero, List.set_cons_succ])
            refine wpAnyH_name hHeld (fun wae22 hHa hwz => ?_)
            have hbA : Below wae21.heap.size wae21 wae22 := by rw [hwz]; exact (Below.refl wae21.heap.size wae21).alloc (Nat.le_refl _) _
            have hwo : w.heap.size + 1 ≤ wae21.heap.size := World.block_lt_of_cell? _ _ hx0
            replace hx0 := keep_cell hbA hx0
            replace hx1 := keep_cell hbA hx1
            replace hrE := hrE.below hbA
            replace hrB := hrB.below hbA
            replace hw := keep_below hbA hw
            have hown : wae22.ownsRow (w.heap.size + 1) 3 1 (.slice (some ⟨wae21.heap.size, 0, none⟩) 0 0) 0 (i64s []) := by rw [hwz]; exact own_empty wae21 (w.heap.size + 1) wae21.heap.size rfl hwo
            clear hHeld hbA hwz
            have hHeld := hHa
            clear hHa
            refine wpAnyH_take (i := 6) (oi := ?ooe23) (v := ?vve23) ?hie23 (by kernel_rfl) (by kernel_rfl) (by kernel_rfl) ?hqe23 (Or.inl ⟨?hge23, ?hye23⟩) (by assumption) ?reste23
            case hie23 => simp only [List.getElem?_toArray, List.getElem?_cons_zero, List.getElem?_cons_succ]; rfl
            case hqe23 => exact fun _ _ _ h => h
            case hge23 => rfl
            case hye23 =>
              intro wq hSw
              obtain ⟨hx0, hx1, hw⟩ := hSw
              go_simp
              (try with_reducible rfl)
            (try simp only [Act.put, List.setIfInBounds_toArray, List.set_cons_zero, List.set_cons_succ])
            refine wpAnyH_take (i := 7) (oi := ?ooe24) (v := ?vve24) ?hie24 (by kernel_rfl) (by kernel_rfl) (by kernel_rfl) ?hqe24 (Or.inl ⟨?hge24, ?hye24⟩) (by assumption) ?reste24
            case hie24 => simp only [List.getElem?_toArray, List.getElem?_cons_zero, List.getElem?_cons_succ]; rfl
            case hqe24 => exact fun _ _ _ h => h
            case hge24 => rfl
            case hye24 =>
              intro wq hSw
              obtain ⟨hx0, hx1, hw⟩ := hSw
              go_simp
              (try with_reducible rfl)
            (try simp only [Act.put, List.setIfInBounds_toArray, List.set_cons_zero, List.set_cons_succ])
            refine wpAnyH_take (i := 8) (oi := ?ooe25) (v := ?vve25) ?hie25 (by kernel_rfl) (by kernel_rfl) (by kernel_rfl) ?hqe25 (Or.inl ⟨?hge25, ?hye25⟩) (by assumption) ?reste25
            case hie25 => simp only [List.getElem?_toArray, List.getElem?_cons_zero, List.getElem?_cons_succ]; rfl
            case hqe25 => exact fun _ _ _ h => h
            case hge25 => rfl
            case hye25 =>
              intro wq hSw
              obtain ⟨hx0, hx1, hw⟩ := hSw
              go_simp
              (try with_reducible rfl)
            (try simp only [Act.put, List.setIfInBounds_toArray, List.set_cons_zero, List.set_cons_succ])
            clear hHeld
            refine wpAnyH_done (by kernel_rfl) ?_ _
            go_wp2_with fail
            go_meet
            go_split_ands
            exact ⟨_, _, _, rfl, rfl, rfl, hEB, hwE, hwB, hrE, hrB, hown, hx0, hx1, hw⟩
          exact AllReadyH.nil
        refine AllReadyH.cons (i := 5) (o := ?ooe26) ?hoe26 (fun K hK => ?hstepe26) ?moree26
        case hoe26 => simp only [List.getElem?_toArray, List.getElem?_cons_zero, List.getElem?_cons_succ]; rfl
        case hstepe26 =>
          go_simp
          clear hHeld
          refine hK.out _ _ ⟨keep_cell (Below.drew ((Below.refl w2.heap.size w2).alloc (Nat.le_refl _) _)) hx0, keep_cell (Below.drew ((Below.refl w2.heap.size w2).alloc (Nat.le_refl _) _)) hx1, Below.drew (keep_below_alloc hw _)⟩ (fun hHeld => ?_)
          clear hK K
          (try simp only [Act.put, List.setIfInBounds_toArray, List.set_cons_zero, List.set_cons_succ])
          refine wpAnyH_name hHeld (fun wae26 hHa hwz => ?_)
          have hbA : Below w2.heap.size w2 wae26 := by rw [hwz]; exact Below.drew ((Below.refl w2.heap.size w2).alloc (Nat.le_refl _) _)
          have hwB : w.heap.size < w2.heap.size := World.block_lt_of_cell? _ _ hx0
          replace hx0 := keep_cell hbA hx0
          replace hx1 := keep_cell hbA hx1
          replace hw := keep_below hbA hw
          have hrB : RowB wae26 w2.heap.size ps.length (G 0) := by rw [hwz]; exact (RowB.new w2 _ ps.length rfl).congr (fun i _ => (HB0.out i).symm)
          clear hHeld hbA hwz
          have hHeld := hHa
          clear hHa
          refine wpAnyH_ready (rs := [0, 2]) (by kernel_rfl) (by simp) ?_
          refine AllReadyH.cons (i := 0) (o := ?ooe27) ?hoe27 (fun K hK => ?hstepe27) ?moree27
          case hoe27 => simp only [List.getElem?_toArray, List.getElem?_cons_zero, List.getElem?_cons_succ]; rfl
          case hstepe27 =>
            go_simp
            clear hHeld
            refine hK.out _ _ ⟨keep_cell ((Below.refl wae26.heap.size wae26).alloc (Nat.le_refl _) _) hx0, keep_cell ((Below.refl wae26.heap.size wae26).alloc (Nat.le_refl _) _) hx1, keep_below_alloc hw _⟩ (fun hHeld => ?_)
            clear hK K
            (try simp only [Act.put, List.setIfInBounds_toArray, List.set_cons_zero, List.set_cons_succ])
            refine wpAnyH_name hHeld (fun wae27 hHa hwz => ?_)
            have hbA : Below wae26.heap.size wae26 wae27 := by rw [hwz]; exact (Below.refl wae26.heap.size wae26).alloc (Nat.le_refl _) _
            have hwo : w.heap.size + 1 ≤ wae26.heap.size := World.block_lt_of_cell? _ _ hx0
            replace hx0 := keep_cell hbA hx0
            replace hx1 := keep_cell hbA hx1
            replace hrB := hrB.below hbA
            replace hw := keep_below hbA hw
            have hown : wae27.ownsRow (w.heap.size + 1) 3 1 (.slice (some ⟨wae26.heap.size, 0, none⟩) 0 0) 0 (i64s []) := by rw [hwz]; exact own_empty wae26 (w.heap.size + 1) wae26.heap.size rfl hwo
            clear hHeld hbA hwz
            have hHeld := hHa
            clear hHa
            refine wpAnyH_ready (rs := [2]) (by kernel_rfl) (by simp) ?_
            refine AllReadyH.cons (i := 2) (o := ?ooe28) ?hoe28 (fun K hK => ?hstepe28) AllReadyH.nil
            case hoe28 => simp only [List.getElem?_toArray, List.getElem?_cons_zero, List.getElem?_cons_succ]; rfl
            go_simp
            refine (HEn.out _ (h.below hw)).mono ?_
            rintro e1 wze28 ⟨gE, rfl, hrE, hgE, hb⟩
            have hwE : w.heap.size < gE := Nat.lt_of_lt_of_le (World.block_lt_of_cell? _ _ hx0) hgE
            have hEB : gE ≠ w2.heap.size := by have := hrB.lt; omega
            replace hx0 := keep_cell hb hx0
            replace hx1 := keep_cell hb hx1
            replace hrB := hrB.below hb
            replace hown := own_below hown hb
            replace hw := keep_below hb hw
            clear hHeld
            go_wp2_with fail
            refine hK.out _ _ ⟨hx0, hx1, hw⟩ (fun hHeld => ?_)
            clear hK K hb
            (try simp only [Act.put, List.setIfInBounds_toArray, List.set_cons_zero, List.set_cons_succ])
            refine wpAnyH_take (i := 6) (oi := ?ooe29) (v := ?vve29) ?hie29 (by kernel_rfl) (by kernel_rfl) (by kernel_rfl) ?hqe29 (Or.inl ⟨?hge29, ?hye29⟩) (by assumption) ?reste29
            case hie29 => simp only [List.getElem?_toArray, List.getElem?_cons_zero, List.getElem?_cons_succ]; rfl
            case hqe29 => exact fun _ _ _ h => h
            case hge29 => rfl
            case hye29 =>
              intro wq hSw
              obtain ⟨hx0, hx1, hw⟩ := hSw
              go_simp
              (try with_reducible rfl)
            (try simp only [Act.put, List.setIfInBounds_toArray, List.set_cons_zero, List.set_cons_succ])
            refine wpAnyH_take (i := 7) (oi := ?ooe30) (v := ?vve30) ?hie30 (by kernel_rfl) (by kernel_rfl) (by kernel_rfl) ?hqe30 (Or.inl ⟨?hge30, ?hye30⟩) (by assumption) ?reste30
            case hie30 => simp only [List.getElem?_toArray, List.getElem?_cons_zero, List.getElem?_cons_succ]; rfl
            case hqe30 => exact fun _ _ _ h => h
            case hge30 => rfl
            case hye30 =>
              intro wq hSw
              obtain ⟨hx0, hx1, hw⟩ := hSw
              go_simp
              (try with_reducible rfl)
            (try simp only [Act.put, List.setIfInBounds_toArray, List.set_cons_zero, List.set_cons_succ])
            refine wpAnyH_take (i := 8) (oi := ?ooe31) (v := ?vve31) ?hie31 (by kernel_rfl) (by kernel_rfl) (by kernel_rfl) ?hqe31 (Or.inl ⟨?hge31, ?hye31⟩) (by assumption) ?reste31
            case hie31 => simp only [List.getElem?_toArray, List.getElem?_cons_zero, List.getElem?_cons_succ]; rfl
            case hqe31 => exact fun _ _ _ h => h
            case hge31 => rfl
            case hye31 =>
              intro wq hSw
              obtain ⟨hx0, hx1, hw⟩ := hSw
              go_simp
              (try with_reducible rfl)
            (try simp only [Act.put, List.setIfInBounds_toArray, List.set_cons_zero, List.set_cons_succ])
            clear hHeld
            refine wpAnyH_done (by kernel_rfl) ?_ _
            go_wp2_with fail
            go_meet
            go_split_ands
            exact ⟨_, _, _, rfl, rfl, rfl, hEB, hwE, hwB, hrE, hrB, hown, hx0, hx1, hw⟩
          refine AllReadyH.cons (i := 2) (o := ?ooe32) ?hoe32 (fun K hK => ?hstepe32) ?moree32
          case hoe32 => simp only [List.getElem?_toArray, List.getElem?_cons_zero, List.getElem?_cons_succ]; rfl
          case hstepe32 =>
            go_simp
            refine (HEn.out _ (h.below hw)).mono ?_
            rintro e1 wze32 ⟨gE, rfl, hrE, hgE, hb⟩
            have hwE : w.heap.size < gE := Nat.lt_of_lt_of_le (World.block_lt_of_cell? _ _ hx0) hgE
            have hEB : gE ≠ w2.heap.size := by have := hrB.lt; omega
            replace hx0 := keep_cell hb hx0
            replace hx1 := keep_cell hb hx1
            replace hrB := hrB.below hb
            replace hw := keep_below hb hw
            clear hHeld
            go_wp2_with fail
            refine hK.out _ _ ⟨hx0, hx1, hw⟩ (fun hHeld => ?_)
            clear hK K hb
            (try simp only [Act.put, List.setIfInBounds_toArray, List.set_cons_zero, List.set_cons_succ])
            refine wpAnyH_ready (rs := [0]) (by kernel_rfl) (by simp) ?_
            refine AllReadyH.cons (i := 0) (o := ?ooe33) ?hoe33 (fun K hK => ?hstepe33) AllReadyH.nil
            case hoe33 => simp only [List.getElem?_toArray, List.getElem?_cons_zero, List.getElem?_cons_succ]; rfl
            go_simp
            clear hHeld
            refine hK.out _ _ ⟨keep_cell ((Below.refl wze32.heap.size wze32).alloc (Nat.le_refl _) _) hx0, keep_cell ((Below.refl wze32.heap.size wze32).alloc (Nat.le_refl _) _) hx1, keep_below_alloc hw _⟩ (fun hHeld => ?_)
            clear hK K
            (try simp only [Act.put, List.setIfInBounds_toArray, List.set_cons_zero, List.set_cons_succ])
            refine wpAnyH_name hHeld (fun wae33 hHa hwz => ?_)
            have hbA : Below wze32.heap.size wze32 wae33 := by rw [hwz]; exact (Below.refl wze32.heap.size wze32).alloc (Nat.le_refl _) _
            have hwo : w.heap.size + 1 ≤ wze32.heap.size := World.block_lt_of_cell? _ _ hx0
            replace hx0 := keep_cell hbA hx0
            replace hx1 := keep_cell hbA hx1
            replace hrB := hrB.below hbA
            replace hrE := hrE.below hbA
            replace hw := keep_below hbA hw
            have hown : wae33.ownsRow (w.heap.size + 1) 3 1 (.slice (some ⟨wze32.heap.size, 0, none⟩) 0 0) 0 (i64s []) := by rw [hwz]; exact own_empty wze32 (w.heap.size + 1) wze32.heap.size rfl hwo
            clear hHeld hbA hwz
            have hHeld := hHa
            clear hHa
            refine wpAnyH_take (i := 6) (oi := ?ooe34) (v := ?vve34) ?hie34 (by kernel_rfl) (by kernel_rfl) (by kernel_rfl) ?hqe34 (Or.inl ⟨?hge34, ?hye34⟩) (by assumption) ?reste34
            case hie34 => simp only [List.getElem?_toArray, List.getElem?_cons_zero, List.getElem?_cons_succ]; rfl
            case hqe34 => exact fun _ _ _ h => h
            case hge34 => rfl
            case hye34 =>
              intro wq hSw
              obtain ⟨hx0, hx1, hw⟩ := hSw
              go_simp
              (try with_reducible rfl)
            (try simp only [Act.put, List.setIfInBounds_toArray, List.set_cons_zero, List.set_cons_succ])
            refine wpAnyH_take (i := 7) (oi := ?ooe35) (v := ?vve35) ?hie35 (by kernel_rfl) (by kernel_rfl) (by kernel_rfl) ?hqe35 (Or.inl ⟨?hge35, ?hye35⟩) (by assumption) ?reste35
            case hie35 => simp only [List.getElem?_toArray, List.getElem?_cons_zero, List.getElem?_cons_succ]; rfl
            case hqe35 => exact fun _ _ _ h => h
            case hge35 => rfl
            case hye35 =>
              intro wq hSw
              obtain ⟨hx0, hx1, hw⟩ := hSw
              go_simp
              (try with_reducible rfl)
            (try simp only [Act.put, List.setIfInBounds_toArray, List.set_cons_zero, List.set_cons_succ])
            refine wpAnyH_take (i := 8) (oi := ?ooe36) (v := ?vve36) ?hie36 (by kernel_rfl) (by kernel_rfl) (by kernel_rfl) ?hqe36 (Or.inl ⟨?hge36, ?hye36⟩) (by assumption) ?reste36
            case hie36 => simp only [List.getElem?_toArray, List.getElem?_cons_zero, List.getElem?_cons_succ]; rfl
            case hqe36 => exact fun _ _ _ h => h
            case hge36 => rfl
            case hye36 =>
              intro wq hSw
              obtain ⟨hx0, hx1, hw⟩ := hSw
              go_simp
              (try with_reducible rfl)
            (try simp only [Act.put, List.setIfInBounds_toArray, List.set_cons_zero, List.set_cons_succ])
            clear hHeld
            refine wpAnyH_done (by kernel_rfl) ?_ _
            go_wp2_with fail
            go_meet
            go_split_ands
            exact ⟨_, _, _, rfl, rfl, rfl, hEB, hwE, hwB, hrE, hrB, hown, hx0, hx1, hw⟩
          exact AllReadyH.nil
        exact AllReadyH.nil
      case rest =>
        clear hx0 hx1 hw
        obtain ⟨gO, gE, gB, rfl, rfl, rfl, hEB, hwE, hwB, hrE, hrB, hown, hx0, hx1, hw⟩ := hcut
        rw [← HF0.out] at hown
        clear HEn hmk HB0
        go_wp2
        go_loopw [8, 30] (fun ov iv wr => ∃ x : Nat, x ≤ ps.length ∧ iv = .int .i64 x ∧ wr.ownsRow (w.heap.size + 1) 3 1 ov (F x).length (i64s (F x)) ∧ RowB wr gE xs.length KD ∧ RowB wr gB ps.length (G x) ∧ wr.cell? ⟨w.heap.size, 0, none⟩ = some (.slice A xs.length c) ∧ wr.cell? ⟨w.heap.size, 1, none⟩ = some (.slice B ys.length e) ∧ Below w.heap.size w wr) (fun _ iv _ => ps.length - (intOf iv).toNat)
        case atStart => exact ⟨0, by omega, rfl, by rw [HF0.out] at hown ⊢; exact hown, hrE, hrB, hx0, hx1, hw⟩
        case round =>
          clear hown hrE hrB hx0 hx1 hw
          obtain ⟨x, hx, rfl, hown, hrE, hrB, hx0, hx1, hw⟩ := hrel
          by_cases hlt : x < ps.length
          · have hxn : x < xs.length := by rw [HPN.out]; exact hlt
            have i1 : (x : Int) < ps.length := by omega
            have i2 : (x : Int) < xs.length := by omega
            obtain ⟨b8, o8, rfl, hc8⟩ := (zp.below hw).at_ (j := x) hlt
            have hcE := hrE.cell hxn
            have hcB := hrB.cell hlt
            have hfB := hrB.free x
            have hne := hrB.ne hown
            have hneE := hrE.ne hown
            have hFl : (F x).length ≤ 24 := by have := HFL.out x; omega
            have hlw : w.heap.size < wr.heap.size := World.block_lt_of_cell? _ _ hx0
            have HGn : ∀ b : Bool, EN x = b → ∀ wq, (∀ f, RowB wr gB ps.length f → (∀ i, i < ps.length → (if i = x then b else f i) = G (x + 1) i) → RowB wq gB ps.length (G (x + 1))) → Hid (RowB wq gB ps.length (G (x + 1))) := fun b hb wq hwq => hwq (G x) hrB fun i hi => by
              rw [HBD.out, HBD.out]
              by_cases e : i = x
              · subst e; rw [if_pos rfl, hb, decide_eq_true (Nat.lt_succ_self _)]; simp
              · rw [if_neg e]
                by_cases e2 : i < x
                · rw [decide_eq_true e2, decide_eq_true (by omega)]
                · rw [decide_eq_false e2, decide_eq_false (by omega)]
            have HB0 := Lib.hid (cell_far (g := gB) (u := .bool true) hx0 (by simp; omega) x)
            have HB1 := Lib.hid (cell_far (g := gB) (u := .bool true) hx1 (by simp; omega) x)
            have HB2 := Lib.hid (Below.setCell' (p := ⟨gB, x, none⟩) (Nat.le_of_lt hwB) hw (.bool true))
            have HBO := Lib.hid (own_far (q := gB) (k := x) (u := .bool true) hown hne)
            have HBE := Lib.hid (hrE.far hEB x (.bool true))
            by_cases hz : x = 0
            · have hx9 : EN x = H x ∧ NW x = H x := by rw [hz]; exact HR0.out
              have g1 : decide ((x : Int) > 0) = false := decide_eq_false (by omega)
              have g2 : ¬ ((x : Int) > 0) := by omega
              clear hz
              by_cases hge : u9 ≤ nth ps x
              · have d1 : decide (nth ps x ≥ u9) = true := decide_eq_true hge
                have d2 : nth ps x ≥ u9 := hge
                have hH : H x = true := by rw [HH.out, decide_eq_true hge, Bool.true_or]
                generalize nth ps x = a8 at *
                have HX := HGn true (by rw [hx9.1]; exact hH) (wr.setCell ⟨gB, x, none⟩ (.bool true)) (fun f hf hc => hf.set x true hc)
                have hfx := HFY.out x (by rw [hx9.2]; exact hH)
                have HPX : Hid (i64s (F (x + 1)) = i64s (F x) ++ [Value.int .i64 x] ∧ (F (x + 1)).length = (F x).length + 1) := by rw [hfx]; exact ⟨i64s_app _ _, by simp⟩
                clear hx9 hH HGn hfx
                go_upto_region 11 with (fail)
                obtain ⟨wz, hwz⟩ : ∃ wz, wz = wr.setCell ⟨gB, x, none⟩ (.bool true) := ⟨_, rfl⟩
                rw [← hwz]
                replace hx0 := HB0.out
                replace hx1 := HB1.out
                replace hw := HB2.out
                replace hown := HBO.out
                replace hrE := HBE.out
                replace hrB := HX.out
                rw [← hwz] at hx0 hx1 hw hown hrE hrB
                have hlz : w.heap.size < wz.heap.size := World.block_lt_of_cell? _ _ hx0
                clear hwz HB0 HB1 HB2 HBO HBE HX hcB hfB hcE hc8 hlw
                go_wp2_with (at_builtin; (refine wpList_append_own_at _ rfl _ _ 22 rfl (w.heap.size + 1) 3 i0 (.int .i64 0) 1 8 Try.underlying22 hi hz0 hz1 hz2 rfl (by decide) _ _ _ rfl (hown.alloc _) ⟨wz.heap.size, 0, none⟩ 1 1 [.int .i64 ((x : Int))] rfl rfl (cell_one_new _ _ _) (by simp [Value.oneCell']) (by unfold maxLen; omega) (by omega) (by simp; omega) ?_); intro v' w1 hown1 hgrow _ hat)
                have hrE1 := (hrE.alloc _).grown hgrow hneE
                have hrB1 := (hrB.alloc _).grown hgrow hne
                have hxx0 := grown_cell hgrow (p := ⟨w.heap.size, 0, none⟩) (by rw [World.cell?_alloc_lt _ _ _ hlz]; exact hx0) (own_ne (g := w.heap.size) hown (by omega))
                have hxx1 := grown_cell hgrow (p := ⟨w.heap.size, 1, none⟩) (by rw [World.cell?_alloc_lt _ _ _ hlz]; exact hx1) (own_ne (g := w.heap.size) hown (by omega))
                have hb3 : Below w.heap.size w w1 := Below.grown (hw.alloc hw.size _) hgrow (by simp; omega) (fun g hg => by have := (hown.lt g hg).1; omega)
                rw [← HPX.out.1, ← HPX.out.2] at hown1
                clear hown hgrow hrE hrB hw HPX hx0 hx1 hne hneE hat
                go_wp2
                go_roundw
                case rel => exact ⟨x + 1, by omega, by go_num, hown1, hrE1, hrB1, hxx0, hxx1, hb3⟩
                case measure => simp [intOf]; omega
              · have d1 : decide (nth ps x ≥ u9) = false := decide_eq_false hge
                have d2 : ¬ nth ps x ≥ u9 := hge
                have hH : H x = KD x := by rw [HH.out, decide_eq_false hge, Bool.false_or]
                generalize nth ps x = a8 at *
                obtain ⟨kd, hkd⟩ : ∃ b, KD x = b := ⟨_, rfl⟩
                rw [hkd] at hH hcE
                clear hkd
                cases kd with
                | true =>
                  have HX := HGn true (by rw [hx9.1]; exact hH) (wr.setCell ⟨gB, x, none⟩ (.bool true)) (fun f hf hc => hf.set x true hc)
                  have hfx := HFY.out x (by rw [hx9.2]; exact hH)
                  have HPX : Hid (i64s (F (x + 1)) = i64s (F x) ++ [Value.int .i64 x] ∧ (F (x + 1)).length = (F x).length + 1) := by rw [hfx]; exact ⟨i64s_app _ _, by simp⟩
                  clear hx9 hH HGn hfx
                  go_upto_region 11 with (fail)
                  obtain ⟨wz, hwz⟩ : ∃ wz, wz = wr.setCell ⟨gB, x, none⟩ (.bool true) := ⟨_, rfl⟩
                  rw [← hwz]
                  replace hx0 := HB0.out
                  replace hx1 := HB1.out
                  replace hw := HB2.out
                  replace hown := HBO.out
                  replace hrE := HBE.out
                  replace hrB := HX.out
                  rw [← hwz] at hx0 hx1 hw hown hrE hrB
                  have hlz : w.heap.size < wz.heap.size := World.block_lt_of_cell? _ _ hx0
                  clear hwz HB0 HB1 HB2 HBO HBE HX hcB hfB hcE hc8 hlw
                  go_wp2_with (at_builtin; (refine wpList_append_own_at _ rfl _ _ 22 rfl (w.heap.size + 1) 3 i0 (.int .i64 0) 1 8 Try.underlying22 hi hz0 hz1 hz2 rfl (by decide) _ _ _ rfl (hown.alloc _) ⟨wz.heap.size, 0, none⟩ 1 1 [.int .i64 ((x : Int))] rfl rfl (cell_one_new _ _ _) (by simp [Value.oneCell']) (by unfold maxLen; omega) (by omega) (by simp; omega) ?_); intro v' w1 hown1 hgrow _ hat)
                  have hrE1 := (hrE.alloc _).grown hgrow hneE
                  have hrB1 := (hrB.alloc _).grown hgrow hne
                  have hxx0 := grown_cell hgrow (p := ⟨w.heap.size, 0, none⟩) (by rw [World.cell?_alloc_lt _ _ _ hlz]; exact hx0) (own_ne (g := w.heap.size) hown (by omega))
                  have hxx1 := grown_cell hgrow (p := ⟨w.heap.size, 1, none⟩) (by rw [World.cell?_alloc_lt _ _ _ hlz]; exact hx1) (own_ne (g := w.heap.size) hown (by omega))
                  have hb3 : Below w.heap.size w w1 := Below.grown (hw.alloc hw.size _) hgrow (by simp; omega) (fun g hg => by have := (hown.lt g hg).1; omega)
                  rw [← HPX.out.1, ← HPX.out.2] at hown1
                  clear hown hgrow hrE hrB hw HPX hx0 hx1 hne hneE hat
                  go_wp2
                  go_roundw
                  case rel => exact ⟨x + 1, by omega, by go_num, hown1, hrE1, hrB1, hxx0, hxx1, hb3⟩
                  case measure => simp [intOf]; omega
                | false =>
                  have HX := HGn false (by rw [hx9.1]; exact hH) wr (fun f hf hc => hrB.congr fun i hi => by
                    rw [HBD.out, HBD.out]
                    by_cases e : i = x
                    · subst e; rw [decide_eq_false (Nat.lt_irrefl _), hx9.1, hH]; simp
                    · by_cases e2 : i < x
                      · rw [decide_eq_true e2, decide_eq_true (by omega)]
                      · rw [decide_eq_false e2, decide_eq_false (by omega)])
                  have HFX := Lib.hid (HFN.out x (by rw [hx9.2]; exact hH))
                  clear hx9 hH HGn
                  go_wp2
                  go_roundw
                  case rel => exact ⟨x + 1, by omega, by go_num, by rw [HFX.out]; exact hown, hrE, HX.out, hx0, hx1, hw⟩
                  case measure => simp [intOf]; omega
            · obtain ⟨p, hp, hpx⟩ := HU.out x (by omega) hxn
              obtain ⟨s1, s2⟩ := HS.out x p (by omega) hxn hp hpx
              have g2 : (x : Int) > 0 := by omega
              have g1 : decide ((x : Int) > 0) = true := decide_eq_true g2
              have i3 : (p : Int) < ps.length := by omega
              obtain ⟨b9, o9, rfl, hc9⟩ := (h.below hw).at_ (j := x) hxn
              rw [hp] at hc9
              have hcP := hrB.cell (j := p) (by omega)
              rw [HBD.out, decide_eq_true hpx, Bool.true_and] at hcP
              obtain ⟨sp, hsp⟩ : ∃ b, EN p = b := ⟨_, rfl⟩
              rw [hsp] at hcP s1 s2
              clear hp hsp
              cases sp with
              | true =>
                rw [Bool.or_true] at s1
                rw [Bool.not_true, Bool.and_false] at s2
                have HX := HGn true s1 (wr.setCell ⟨gB, x, none⟩ (.bool true)) (fun f hf hc => hf.set x true hc)
                have HFX := Lib.hid (HFN.out x s2)
                clear s1 s2 HGn hown hrE hrB
                go_wp2
                go_roundw
                case rel => exact ⟨x + 1, by omega, by go_num, by rw [HFX.out]; exact HBO.out, HBE.out, HX.out, HB0.out, HB1.out, HB2.out⟩
                case measure => simp [intOf]; omega
              | false =>
                have hx9 : EN x = H x ∧ NW x = H x := by rw [s1, s2]; simp
                clear s1 s2
                by_cases hge : u9 ≤ nth ps x
                · have d1 : decide (nth ps x ≥ u9) = true := decide_eq_true hge
                  have d2 : nth ps x ≥ u9 := hge
                  have hH : H x = true := by rw [HH.out, decide_eq_true hge, Bool.true_or]
                  generalize nth ps x = a8 at *
                  have HX := HGn true (by rw [hx9.1]; exact hH) (wr.setCell ⟨gB, x, none⟩ (.bool true)) (fun f hf hc => hf.set x true hc)
                  have hfx := HFY.out x (by rw [hx9.2]; exact hH)
                  have HPX : Hid (i64s (F (x + 1)) = i64s (F x) ++ [Value.int .i64 x] ∧ (F (x + 1)).length = (F x).length + 1) := by rw [hfx]; exact ⟨i64s_app _ _, by simp⟩
                  clear hx9 hH HGn hfx
                  go_upto_region 11 with (fail)
                  obtain ⟨wz, hwz⟩ : ∃ wz, wz = wr.setCell ⟨gB, x, none⟩ (.bool true) := ⟨_, rfl⟩
                  rw [← hwz]
                  replace hx0 := HB0.out
                  replace hx1 := HB1.out
                  replace hw := HB2.out
                  replace hown := HBO.out
                  replace hrE := HBE.out
                  replace hrB := HX.out
                  rw [← hwz] at hx0 hx1 hw hown hrE hrB
                  have hlz : w.heap.size < wz.heap.size := World.block_lt_of_cell? _ _ hx0
                  clear hwz HB0 HB1 HB2 HBO HBE HX hcB hfB hcE hc8 hlw
                  go_wp2_with (at_builtin; (refine wpList_append_own_at _ rfl _ _ 22 rfl (w.heap.size + 1) 3 i0 (.int .i64 0) 1 8 Try.underlying22 hi hz0 hz1 hz2 rfl (by decide) _ _ _ rfl (hown.alloc _) ⟨wz.heap.size, 0, none⟩ 1 1 [.int .i64 ((x : Int))] rfl rfl (cell_one_new _ _ _) (by simp [Value.oneCell']) (by unfold maxLen; omega) (by omega) (by simp; omega) ?_); intro v' w1 hown1 hgrow _ hat)
                  have hrE1 := (hrE.alloc _).grown hgrow hneE
                  have hrB1 := (hrB.alloc _).grown hgrow hne
                  have hxx0 := grown_cell hgrow (p := ⟨w.heap.size, 0, none⟩) (by rw [World.cell?_alloc_lt _ _ _ hlz]; exact hx0) (own_ne (g := w.heap.size) hown (by omega))
                  have hxx1 := grown_cell hgrow (p := ⟨w.heap.size, 1, none⟩) (by rw [World.cell?_alloc_lt _ _ _ hlz]; exact hx1) (own_ne (g := w.heap.size) hown (by omega))
                  have hb3 : Below w.heap.size w w1 := Below.grown (hw.alloc hw.size _) hgrow (by simp; omega) (fun g hg => by have := (hown.lt g hg).1; omega)
                  rw [← HPX.out.1, ← HPX.out.2] at hown1
                  clear hown hgrow hrE hrB hw HPX hx0 hx1 hne hneE hat
                  go_wp2
                  go_roundw
                  case rel => exact ⟨x + 1, by omega, by go_num, hown1, hrE1, hrB1, hxx0, hxx1, hb3⟩
                  case measure => simp [intOf]; omega
                · have d1 : decide (nth ps x ≥ u9) = false := decide_eq_false hge
                  have d2 : ¬ nth ps x ≥ u9 := hge
                  have hH : H x = KD x := by rw [HH.out, decide_eq_false hge, Bool.false_or]
                  generalize nth ps x = a8 at *
                  obtain ⟨kd, hkd⟩ : ∃ b, KD x = b := ⟨_, rfl⟩
                  rw [hkd] at hH hcE
                  clear hkd
                  cases kd with
                  | true =>
                    have HX := HGn true (by rw [hx9.1]; exact hH) (wr.setCell ⟨gB, x, none⟩ (.bool true)) (fun f hf hc => hf.set x true hc)
                    have hfx := HFY.out x (by rw [hx9.2]; exact hH)
                    have HPX : Hid (i64s (F (x + 1)) = i64s (F x) ++ [Value.int .i64 x] ∧ (F (x + 1)).length = (F x).length + 1) := by rw [hfx]; exact ⟨i64s_app _ _, by simp⟩
                    clear hx9 hH HGn hfx
                    go_upto_region 11 with (fail)
                    obtain ⟨wz, hwz⟩ : ∃ wz, wz = wr.setCell ⟨gB, x, none⟩ (.bool true) := ⟨_, rfl⟩
                    rw [← hwz]
                    replace hx0 := HB0.out
                    replace hx1 := HB1.out
                    replace hw := HB2.out
                    replace hown := HBO.out
                    replace hrE := HBE.out
                    replace hrB := HX.out
                    rw [← hwz] at hx0 hx1 hw hown hrE hrB
                    have hlz : w.heap.size < wz.heap.size := World.block_lt_of_cell? _ _ hx0
                    clear hwz HB0 HB1 HB2 HBO HBE HX hcB hfB hcE hc8 hlw
                    go_wp2_with (at_builtin; (refine wpList_append_own_at _ rfl _ _ 22 rfl (w.heap.size + 1) 3 i0 (.int .i64 0) 1 8 Try.underlying22 hi hz0 hz1 hz2 rfl (by decide) _ _ _ rfl (hown.alloc _) ⟨wz.heap.size, 0, none⟩ 1 1 [.int .i64 ((x : Int))] rfl rfl (cell_one_new _ _ _) (by simp [Value.oneCell']) (by unfold maxLen; omega) (by omega) (by simp; omega) ?_); intro v' w1 hown1 hgrow _ hat)
                    have hrE1 := (hrE.alloc _).grown hgrow hneE
                    have hrB1 := (hrB.alloc _).grown hgrow hne
                    have hxx0 := grown_cell hgrow (p := ⟨w.heap.size, 0, none⟩) (by rw [World.cell?_alloc_lt _ _ _ hlz]; exact hx0) (own_ne (g := w.heap.size) hown (by omega))
                    have hxx1 := grown_cell hgrow (p := ⟨w.heap.size, 1, none⟩) (by rw [World.cell?_alloc_lt _ _ _ hlz]; exact hx1) (own_ne (g := w.heap.size) hown (by omega))
                    have hb3 : Below w.heap.size w w1 := Below.grown (hw.alloc hw.size _) hgrow (by simp; omega) (fun g hg => by have := (hown.lt g hg).1; omega)
                    rw [← HPX.out.1, ← HPX.out.2] at hown1
                    clear hown hgrow hrE hrB hw HPX hx0 hx1 hne hneE hat
                    go_wp2
                    go_roundw
                    case rel => exact ⟨x + 1, by omega, by go_num, hown1, hrE1, hrB1, hxx0, hxx1, hb3⟩
                    case measure => simp [intOf]; omega
                  | false =>
                    have HX := HGn false (by rw [hx9.1]; exact hH) wr (fun f hf hc => hrB.congr fun i hi => by
                      rw [HBD.out, HBD.out]
                      by_cases e : i = x
                      · subst e; rw [decide_eq_false (Nat.lt_irrefl _), hx9.1, hH]; simp
                      · by_cases e2 : i < x
                        · rw [decide_eq_true e2, decide_eq_true (by omega)]
                        · rw [decide_eq_false e2, decide_eq_false (by omega)])
                    have HFX := Lib.hid (HFN.out x (by rw [hx9.2]; exact hH))
                    clear hx9 hH HGn
                    go_wp2
                    go_roundw
                    case rel => exact ⟨x + 1, by omega, by go_num, by rw [HFX.out]; exact hown, hrE, HX.out, hx0, hx1, hw⟩
                    case measure => simp [intOf]; omega
          · have hxe : x = ps.length := by omega
            have HL9 := Lib.hid (show F x = FL by rw [hxe, HPL.out]; exact HFD.out)
            rw [HL9.out] at hown
            clear HFL HFY HFN HF0 HFD hxe
            obtain ⟨A', c', rfl, hO⟩ := own_form hown
            clear hown
            go_wp2
            go_ret2
            exact ⟨A', c', rfl, hO.mono (by omega), hw⟩
end Go.Proofs.Ytombfbmcplefgaa
