/- ParseTree: what the reference's returns. -/
import Derived.Test.YtfpokpgkkjibfaaDoorPtP
import Derived.Test.YtfpokpgkkjibfaaDoorRetU
import Derived.Test.YtfpokpgkkjibfaaDoorTwo
import Derived.Test.YtfpokpgkkjibfaaDoorSplP
import Derived.Test.YtfpokpgkkjibfaaDoorTree9
import Derived.Test.YtfpokpgkkjibfaaDoorApp
import Derived.Deep.DeepCutAuto
import Derived.StillTailTactics
namespace Go.Proofs.YtfpokpgkkjibfaaDoor
open Go.ChangeShapes Go.WideShapes Go.ChangeAt Go.RowKit
open Go.ChangeMaps (open_string shut_string)

theorem rdO_get (o : Option Int) : rdO o = .tuple #[.int .i64 (o.getD 0), .bool o.isSome] := by cases o <;> rfl
theorem rdV_mk (l : List UInt8) : rdV (mkB l) = .tuple #[.int .i64 ((rdL l).getD 0), .bool (rdL l).isSome] := by unfold rdV; rw [mkB_list, rdO_get]
theorem rd_minus : rdL [45, 49] = some (-1) := rdL_some ⟨by decide, by decide, by
  have h := Lib.itoa_neg 1 (by omega)
  rw [Lib.decDigits_one (by omega)] at h
  exact h⟩
theorem word_head {x : ByteArray} (h : mkB (headL 58 x.data.toList) = ⟨#[45, 49]⟩) : wX x.data.toList = -1 ∧ (rdL (headL 58 x.data.toList)).isSome = true := by
  have e : headL 58 x.data.toList = [45, 49] := by rw [← mkB_list (headL 58 x.data.toList), h]
  unfold wX
  rw [e, rd_minus]
  exact ⟨rfl, rfl⟩
theorem wOk_eq (l : List UInt8) : wOk l = ((rdL (headL 58 l)).isSome && (rdL (tailL 58 l)).isSome) := rfl
/-- The words so far are good. -/
def WOk (L : List ByteArray) (k : Nat) : Prop := ∀ (j : Nat) (x : ByteArray), L[j]? = some x → j < k → wOk x.data.toList = true
theorem WOk.next {L : List ByteArray} {k : Nat} {x : ByteArray} (h : WOk L k) (hx : L[k]? = some x) (hk : wOk x.data.toList = true) : WOk L (k + 1) := by
  intro j y hy hj
  by_cases e : j = k
  · subst e; rw [hx] at hy; cases hy; exact hk
  · exact h j y hy (by omega)
theorem WOk.all {L : List ByteArray} (h : WOk L L.length) : ∀ b ∈ L, wOk b.data.toList = true := by
  intro b hb
  obtain ⟨j, hj⟩ := List.getElem?_of_mem hb
  exact h j b hj (List.getElem?_eq_some_iff.1 hj).1
theorem pt_word {s : ByteArray} {b : Bool} (hb : b = true ↔ ptOk s) {k : Nat} {x : ByteArray} (hx : (partsB 32 s)[k]? = some x) (h : wOk x.data.toList = false) : b = false := by
  cases b with
  | false => rfl
  | true => have := (hb.1 rfl).1 x (List.mem_of_getElem? hx); rw [h] at this; cases this
theorem pt_end {s : ByteArray} {b : Bool} (hb : b = true ↔ ptOk s) {k : Nat} (hk : k ≤ (partsB 32 s).length) (hk2 : k = (partsB 32 s).length ∨ k = 25) (hw : WOk (partsB 32 s) k) :
    (good (pX ((partsB 32 s).take k)) (pY ((partsB 32 s).take k)) = false → b = false) ∧ (good (pX ((partsB 32 s).take k)) (pY ((partsB 32 s).take k)) = true → k = (partsB 32 s).length ∧ (b = true ↔ txB (pX ((partsB 32 s).take k)) (pY ((partsB 32 s).take k)) = s)) := by
  refine ⟨fun h => ?_, fun h => ?_⟩
  · cases b with
    | false => rfl
    | true =>
      have ho := hb.1 rfl
      have hl := ptOk_len ho
      have hkl : k = (partsB 32 s).length := by omega
      rw [hkl, List.take_length] at h
      have := ho.2.1
      unfold ptX ptY at this
      rw [this] at h; cases h
  · have hl := (good_len h).2.1
    rw [pX_len hk] at hl
    have hkl : k = (partsB 32 s).length := by omega
    refine ⟨hkl, ?_⟩
    rw [hkl, List.take_length] at h ⊢
    rw [hkl] at hw
    exact hb.trans ⟨fun h => h.2.2, fun e => ⟨hw.all, h, e⟩⟩
theorem nth_bd_of {f : ByteArray → Int} (hf : ∀ b, -1000000 ≤ f b ∧ f b ≤ 1000000) (L : List ByteArray) : Bd (L.map f) := fun j => by have := nth_map_bd hf L j; omega
theorem pX_bd (L : List ByteArray) : Bd (pX L) := nth_bd_of (fun b => by have := wX_bd b.data.toList; omega) L
theorem pY_bd (L : List ByteArray) : Bd (pY L) := nth_bd_of (fun b => by have := wY_bd b.data.toList; omega) L
theorem infoI_parts : ∃ i0, Tryd.prog.info? 3 = some i0 ∧ i0.zero = some (.int .i64 0) ∧ i0.size = 1 ∧ i0.bytes = 8 := info_parts info_int

set_option maxHeartbeats 8000000 in
set_option maxRecDepth 100000 in
theorem specParseTree_any (s : ByteArray) (w : World) (hs : s.size ≤ 1048576) (b : Bool) (hb : b = true ↔ ptOk s) :
    Calls Tryd.prog 24 #[.string s] w (RetTB w (prPick b (ptX s)) (prPick b (ptY s)) b) := by
  obtain ⟨i0, hi, hz0, hz1, hz2⟩ := infoI_parts
  obtain ⟨L, hL⟩ : ∃ L, L = partsB 32 s := ⟨_, rfl⟩
  have HS := Lib.hid (fun w => l1Split_any s 32 w hs)
  have HWd := Lib.hid (fun (k : Nat) (x : ByteArray) (hx : (partsB 32 s)[k]? = some x) (h : wOk x.data.toList = false) => pt_word hb hx h)
  have HEn := Lib.hid (fun (k : Nat) (hk : k ≤ (partsB 32 s).length) (hk2 : k = (partsB 32 s).length ∨ k = 25) (hw : WOk (partsB 32 s) k) => pt_end hb hk hk2 hw)
  have HSz : Hid (∀ (k : Nat) (x : ByteArray), (partsB 32 s)[k]? = some x → x.size ≤ 1048576) := fun k x hx => Nat.le_trans (parts_small 32 s x (List.mem_of_getElem? hx)) hs
  have hL1 : 0 < (partsB 32 s).length := by rw [countB_parts]; omega
  have hR : RetTB w (prPick b (ptX s)) (prPick b (ptY s)) b = RetTB w (prPick b (pX L)) (prPick b (pY L)) b := by rw [hL]; rfl
  rw [← hL] at HS HWd HEn HSz hL1
  rw [hR]
  clear hb hL hR
  go_enter Tryd.func24, Tryd.ntmps24
  go_wp2_with fail
  refine (HS.out _).mono ?_
  rintro e1 w1 ⟨A, c, rfl, hO, hb1⟩
  have hRs0 : BlkT w1 w.heap.size (.slice none 0 0) (.slice none 0 0) := (BlkT.new w _ _ rfl).below hb1
  have hw10 : Below w.heap.size w w1 := ((Below.refl _ _).alloc (Nat.le_refl _) _).trans (hb1.mono (by simp))
  obtain ⟨gA, rfl, hgA, hrA⟩ := hO.pos hL1
  have HC : Hid (∀ (k : Nat) (x : ByteArray), L[k]? = some x → w1.cell? ⟨gA, k, none⟩ = some (.string x)) := fun k x hx => hrA.cell hx
  have hwg := hRs0.lt
  obtain ⟨gT, hgT⟩ : ∃ g, g = w1.heap.size + 1 + 1 := ⟨_, rfl⟩
  have h2 : Two (((w1.alloc (.cells #[] 3)).alloc (.cells #[] 3)).alloc (.cells #[.slice (some ⟨w1.heap.size, 0, none⟩) 0 0, .slice (some ⟨w1.heap.size + 1, 0, none⟩) 0 0] 34)) w1.heap.size gT (.slice (some ⟨w1.heap.size, 0, none⟩) 0 0) (.slice (some ⟨w1.heap.size + 1, 0, none⟩) 0 0) 0 0 [] [] := by
    have e1 : (w1.alloc (.cells #[] 3)).heap.size = w1.heap.size + 1 := by simp
    refine ⟨BlkT.new _ _ _ (by rw [hgT]; simp), ((own_empty w1 w1.heap.size _ rfl (Nat.le_refl _)).alloc _).alloc _, (own_empty (w1.alloc (.cells #[] 3)) w1.heap.size _ e1.symm (by omega)).alloc _, ?_, ?_, ?_⟩
    · intro e; injection e with e; simp at e; omega
    · intro e; injection e with e; simp at e; omega
    · intro g e e2; injection e with e; injection e2 with e2; simp at e e2; omega
  have hw : Below w1.heap.size w1 (((w1.alloc (.cells #[] 3)).alloc (.cells #[] 3)).alloc (.cells #[.slice (some ⟨w1.heap.size, 0, none⟩) 0 0, .slice (some ⟨w1.heap.size + 1, 0, none⟩) 0 0] 34)) := by (repeat (first | with_reducible exact Below.refl _ _ | with_reducible assumption | with_reducible refine Below.alloc' ?_ ?_ _ | with_reducible refine Below.setCell' ?_ ?_ _ | with_reducible refine Below.drewN' ?_ _ | with_reducible refine Below.drew ?_ | with_reducible refine Below.transA ?_ (by assumption) ?_ | omega | (focus (simp; done)) | (focus (simp; omega))))
  clear hb1 hO hrA
  go_wp2
  rw [← hgT]
  have hgT2 : w1.heap.size ≤ gT := by omega
  clear hgT
  go_loopw [6, 7, 8, 9, 10, 11] (fun i _ _ _ _ _ wr => ∃ (k : Nat) (va vb : Value), k ≤ L.length ∧ k ≤ 25 ∧ i = .int .i64 (k : Int) ∧ Hid (WOk L k) ∧ Two wr w1.heap.size gT va vb k k (pX (L.take k)) (pY (L.take k)) ∧ Below w1.heap.size w1 wr) (fun i _ _ _ _ _ _ => 30 - (intOf i).toNat)
  case atStart => exact ⟨0, _, _, Nat.zero_le _, by omega, rfl, Lib.hid (fun j x _ hj => by omega), h2, hw⟩
  case round =>
    clear h2 hw
    obtain ⟨k, va, vb, hk, hk25, rfl, HW, h2, hw⟩ := hrel
    have hwz := hw.size
    by_cases hlt : k < L.length ∧ k ≤ 24
    · obtain ⟨x, hx⟩ : ∃ x, L[k]? = some x := ⟨_, List.getElem?_eq_getElem hlt.1⟩
      have hc := keep_cell hw (HC.out k _ hx)
      have hxz := HSz.out k _ hx
      have HX := Lib.hid hx
      have i0' : (0 : Int) ≤ (k : Int) := by omega
      have i1 : (k : Int) < (L.length : Int) := by omega
      have i2 : (k : Int) ≤ 24 := by omega
      have hRs := hRs0.below hw
      clear hx hlt
      have HS2 := Lib.hid (fun w => l1Split_any x 58 w hxz)
      go_wp2_with fail
      refine (HS2.out _).mono ?_
      rintro e2 w2 ⟨A2, c2, rfl, hO2, hb2⟩
      replace h2 := h2.below hb2
      replace hRs := hRs.below hb2
      replace hw := keep_below hb2 hw
      clear hb2 hc HS2
      by_cases hl2 : (partsB 58 x).length = 2
      · have hp2 : partsB 58 x = [mkB (headL 58 x.data.toList), mkB (tailL 58 x.data.toList)] := by
          have h := parts_two (l := x.data.toList) (by unfold partsB at hl2; rwa [List.length_map] at hl2)
          unfold partsB; rw [h]; rfl
        have hz1 : (mkB (headL 58 x.data.toList)).size ≤ 1048576 := Nat.le_trans (parts_small 58 x _ (by rw [hp2]; simp)) hxz
        have hz2' : (mkB (tailL 58 x.data.toList)).size ≤ 1048576 := Nat.le_trans (parts_small 58 x _ (by rw [hp2]; simp)) hxz
        have HR1 := Lib.hid (fun w => l1Read_any _ w hz1)
        have HR2 := Lib.hid (fun w => l1Read_any _ w hz2')
        rw [rdV_mk] at HR1 HR2
        have hwx : (rdL (headL 58 x.data.toList)).getD 0 = wX x.data.toList := rfl
        have hwy : (rdL (tailL 58 x.data.toList)).getD 0 = wY x.data.toList := rfl
        rw [hwx] at HR1
        rw [hwy] at HR2
        have hwo := wOk_eq x.data.toList
        have hmin := word_head (x := x)
        have hnx : L.take (k + 1) = L.take k ++ [x] := take_next HX.out
        have hnX : pX (L.take (k + 1)) = pX (L.take k) ++ [wX x.data.toList] := pX_next HX.out
        have hnY : pY (L.take (k + 1)) = pY (L.take k) ++ [wY x.data.toList] := pY_next HX.out
        obtain ⟨g2, rfl, hg2, hr2⟩ := hO2.pos (by rw [hp2]; simp)
        have hq0 : w2.cell? ⟨g2, 0, none⟩ = some (.string (mkB (headL 58 x.data.toList))) := hr2.cell (by rw [hp2]; rfl)
        have hq1 : w2.cell? ⟨g2, 1, none⟩ = some (.string (mkB (tailL 58 x.data.toList))) := hr2.cell (by rw [hp2]; rfl)
        have hcmp := bytes_eq (a := mkB (headL 58 x.data.toList)) (b := ⟨#[45, 49]⟩)
        rw [show (⟨#[45, 49]⟩ : ByteArray).toList = [45, 49] by simp] at hcmp
        rw [hl2]
        clear hO2 hr2 hl2 hwx hwy hz1 hz2' hxz hnx
        have HNX := Lib.hid hnX
        have HNY := Lib.hid hnY
        have HWO := Lib.hid hwo
        clear hnX hnY hwo
        have hp2' : Hid (partsB 58 x = partsB 58 x) := rfl
        clear hp2
        generalize mkB (headL 58 x.data.toList) = q1 at *
        generalize mkB (tailL 58 x.data.toList) = q2 at *
        generalize hxx : wX x.data.toList = xv at *
        generalize wY x.data.toList = yv at *
        generalize hbb1 : (rdL (headL 58 x.data.toList)).isSome = b1 at *
        generalize (rdL (tailL 58 x.data.toList)).isSome = b2 at *
        have hmin2 : q1 = ⟨#[45, 49]⟩ → xv = -1 ∧ b1 = true := hmin
        clear hmin hxx hbb1
        go_wp2_with fail
        refine (HR1.out _).mono ?_
        rintro e3 w3 ⟨rfl, hw3⟩
        replace hw3 : Below w2.heap.size w2 w3 := by obtain ⟨k3, rfl⟩ := hw3; exact drewN_below w2 k3
        replace h2 := h2.below hw3
        replace hRs := hRs.below hw3
        replace hw := keep_below hw3 hw
        replace hq0 := keep_cell hw3 hq0
        replace hq1 := keep_cell hw3 hq1
        clear hw3 HR1
        go_wp2_with fail
        refine (HR2.out _).mono ?_
        rintro e4 w4 ⟨rfl, hw4⟩
        replace hw4 : Below w3.heap.size w3 w4 := by obtain ⟨k3, rfl⟩ := hw4; exact drewN_below w3 k3
        replace h2 := h2.below hw4
        replace hRs := hRs.below hw4
        replace hw := keep_below hw4 hw
        replace hq0 := keep_cell hw4 hq0
        clear hw4 HR2 hq1
        have hbx : (b1 && b2) = false → b = false := fun e => HWd.out k x HX.out (by rw [HWO.out, e])
        by_cases hm : k = 0 ∧ q1 = ⟨#[45, 49]⟩
        · obtain ⟨rfl, rfl⟩ := hmin2 hm.2
          replace hcmp := hcmp.trans (decide_eq_true hm.2)
          have hk0 : ((k : Int) == 0) = true := by rw [beq_iff_eq]; omega
          clear hm hmin2
          cases b2 with
          | false =>
            obtain rfl := hbx rfl
            clear hbx HWO HX
            have hr0 := hRs.c0
            have hr1 := hRs.c1
            have hf0 := hRs.free 0
            have hf1 := hRs.free 1
            go_wp2
            refine bodyPost_ret (v := .tuple #[.agg #[.slice none 0 0, .slice none 0 0], .bool false]) (by simp (maxDischargeDepth := 9) [results, Tryd.results24, go_sem, *]) rfl ⟨none, 0, none, 0, rfl, .inl ⟨rfl, rfl⟩, .inl ⟨rfl, rfl⟩, (fun _ _ e1 => by cases e1), ?_⟩
            (repeat (first | with_reducible exact Below.refl _ _ | with_reducible assumption | with_reducible refine Below.alloc' ?_ ?_ _ | with_reducible refine Below.setCell' ?_ ?_ _ | with_reducible refine Below.drewN' ?_ _ | with_reducible refine Below.drew ?_ | with_reducible refine Below.transA ?_ (by assumption) ?_ | omega | (focus (simp; done)) | (focus (simp; omega))))
          | true =>
            clear hbx
            obtain ⟨A0, c0, rfl⟩ := own_slice h2.own0
            obtain ⟨A1, c1, rfl⟩ := own_slice h2.own1
            have t0 := h2.blk.c0
            have t1 := h2.blk.c1
            have hwz4 := hw.size
            go_upto_region 16 with (at_builtin; refine wpList_append_own_at _ rfl _ _ 32 rfl w1.heap.size 3 i0 (.int .i64 0) 1 8 Tryd.underlying32 hi hz0 hz1 hz2 rfl (by decide) _ _ _ rfl (h2.own0.alloc _) ⟨w4.heap.size, 0, none⟩ 1 1 [.int .i64 (-1)] rfl rfl (cell_one_new _ _ _) (by simp [Value.oneCell']) (by unfold maxLen; omega) (by omega) (by simp; omega) ?_; intro v5 w5 hown5 hg5 _ hat5; obtain ⟨Av5, cv5, rfl⟩ := own_slice hown5; have a5c0 := (h2.blk0 hg5).c0; have a5c1 := (h2.blk0 hg5).c1; have a5f := (h2.blk0 hg5).free 0)
            have hwA : Below w1.heap.size w1 (w5.setCell ⟨gT, 0, none⟩ (.slice Av5 (k + 1) cv5)) := below_put hw hg5 (h2.row0 (Nat.le_refl _)) hgT2
            replace hown5 : w5.ownsRow w1.heap.size 3 1 (.slice Av5 (k + 1) cv5) (k + 1) (i64s (pX (L.take (k + 1)))) := by rw [HNX.out, i64s_app]; exact hown5
            have h3 := h2.put0 hg5 hat5 hown5
            clear h2 hw hg5 hat5 hown5 t0 t1 a5c0 a5c1 a5f
            generalize w5.setCell ⟨gT, 0, none⟩ (.slice Av5 (k + 1) cv5) = w6 at *
            have t0 := h3.blk.c0
            have t1 := h3.blk.c1
            have hwz6 := hwA.size
            go_wp2_with (at_builtin; refine wpList_append_own_at _ rfl _ _ 32 rfl w1.heap.size 3 i0 (.int .i64 0) 1 8 Tryd.underlying32 hi hz0 hz1 hz2 rfl (by decide) _ _ _ rfl (h3.own1.alloc _) ⟨w6.heap.size, 0, none⟩ 1 1 [.int .i64 yv] rfl rfl (cell_one_new _ _ _) (by simp [Value.oneCell']) (by unfold maxLen; omega) (by omega) (by simp; omega) ?_; intro v7 w7 hown7 hg7 _ hat7; obtain ⟨Av7, cv7, rfl⟩ := own_slice hown7; have a7c0 := (h3.blk1 hg7).c0; have a7c1 := (h3.blk1 hg7).c1; have a7f := (h3.blk1 hg7).free 1)
            have hwB : Below w1.heap.size w1 (w7.setCell ⟨gT, 1, none⟩ (.slice Av7 (k + 1) cv7)) := below_put hwA hg7 (h3.row1 (Nat.le_refl _)) hgT2
            replace hown7 : w7.ownsRow w1.heap.size 3 1 (.slice Av7 (k + 1) cv7) (k + 1) (i64s (pY (L.take (k + 1)))) := by rw [HNY.out, i64s_app]; exact hown7
            have h4 := h3.put1 hg7 hat7 hown7
            have hwo : wOk x.data.toList = true := by rw [HWO.out]; rfl
            have HW2 := Lib.hid (HW.out.next HX.out hwo)
            clear h3 hwA hg7 hat7 hown7 t0 t1 a7c0 a7c1 a7f hwo
            generalize w7.setCell ⟨gT, 1, none⟩ (.slice Av7 (k + 1) cv7) = w8 at *
            go_wp2
            go_roundw
            case rel => exact ⟨k + 1, _, _, by omega, by omega, by go_num, HW2, h4, hwB⟩
            case measure => simp [intOf]; omega
        · clear hmin2
          by_cases hk0 : k = 0
          · have hq : decide (q1 = ⟨#[45, 49]⟩) = false := decide_eq_false fun e => hm ⟨hk0, e⟩
            rw [hq] at hcmp
            have hkk : ((k : Int) == 0) = true := by rw [beq_iff_eq]; omega
            clear hm hk0
            cases b1 <;> cases b2
            case true.true =>
              clear hbx
              obtain ⟨A0, c0, rfl⟩ := own_slice h2.own0
              obtain ⟨A1, c1, rfl⟩ := own_slice h2.own1
              have t0 := h2.blk.c0
              have t1 := h2.blk.c1
              have hwz4 := hw.size
              go_upto_region 16 with (at_builtin; refine wpList_append_own_at _ rfl _ _ 32 rfl w1.heap.size 3 i0 (.int .i64 0) 1 8 Tryd.underlying32 hi hz0 hz1 hz2 rfl (by decide) _ _ _ rfl (h2.own0.alloc _) ⟨w4.heap.size, 0, none⟩ 1 1 [.int .i64 xv] rfl rfl (cell_one_new _ _ _) (by simp [Value.oneCell']) (by unfold maxLen; omega) (by omega) (by simp; omega) ?_; intro v5 w5 hown5 hg5 _ hat5; obtain ⟨Av5, cv5, rfl⟩ := own_slice hown5; have a5c0 := (h2.blk0 hg5).c0; have a5c1 := (h2.blk0 hg5).c1; have a5f := (h2.blk0 hg5).free 0)
              have hwA : Below w1.heap.size w1 (w5.setCell ⟨gT, 0, none⟩ (.slice Av5 (k + 1) cv5)) := below_put hw hg5 (h2.row0 (Nat.le_refl _)) hgT2
              replace hown5 : w5.ownsRow w1.heap.size 3 1 (.slice Av5 (k + 1) cv5) (k + 1) (i64s (pX (L.take (k + 1)))) := by rw [HNX.out, i64s_app]; exact hown5
              have h3 := h2.put0 hg5 hat5 hown5
              clear h2 hw hg5 hat5 hown5 t0 t1 a5c0 a5c1 a5f
              generalize w5.setCell ⟨gT, 0, none⟩ (.slice Av5 (k + 1) cv5) = w6 at *
              have t0 := h3.blk.c0
              have t1 := h3.blk.c1
              have hwz6 := hwA.size
              go_wp2_with (at_builtin; refine wpList_append_own_at _ rfl _ _ 32 rfl w1.heap.size 3 i0 (.int .i64 0) 1 8 Tryd.underlying32 hi hz0 hz1 hz2 rfl (by decide) _ _ _ rfl (h3.own1.alloc _) ⟨w6.heap.size, 0, none⟩ 1 1 [.int .i64 yv] rfl rfl (cell_one_new _ _ _) (by simp [Value.oneCell']) (by unfold maxLen; omega) (by omega) (by simp; omega) ?_; intro v7 w7 hown7 hg7 _ hat7; obtain ⟨Av7, cv7, rfl⟩ := own_slice hown7; have a7c0 := (h3.blk1 hg7).c0; have a7c1 := (h3.blk1 hg7).c1; have a7f := (h3.blk1 hg7).free 1)
              have hwB : Below w1.heap.size w1 (w7.setCell ⟨gT, 1, none⟩ (.slice Av7 (k + 1) cv7)) := below_put hwA hg7 (h3.row1 (Nat.le_refl _)) hgT2
              replace hown7 : w7.ownsRow w1.heap.size 3 1 (.slice Av7 (k + 1) cv7) (k + 1) (i64s (pY (L.take (k + 1)))) := by rw [HNY.out, i64s_app]; exact hown7
              have h4 := h3.put1 hg7 hat7 hown7
              have hwo : wOk x.data.toList = true := by rw [HWO.out]; rfl
              have HW2 := Lib.hid (HW.out.next HX.out hwo)
              clear h3 hwA hg7 hat7 hown7 t0 t1 a7c0 a7c1 a7f hwo
              generalize w7.setCell ⟨gT, 1, none⟩ (.slice Av7 (k + 1) cv7) = w8 at *
              go_wp2
              go_roundw
              case rel => exact ⟨k + 1, _, _, by omega, by omega, by go_num, HW2, h4, hwB⟩
              case measure => simp [intOf]; omega
            all_goals
              obtain rfl := hbx rfl
              clear hbx HWO HX
              have hr0 := hRs.c0
              have hr1 := hRs.c1
              have hf0 := hRs.free 0
              have hf1 := hRs.free 1
              go_wp2
              refine bodyPost_ret (v := .tuple #[.agg #[.slice none 0 0, .slice none 0 0], .bool false]) (by simp (maxDischargeDepth := 9) [results, Tryd.results24, go_sem, *]) rfl ⟨none, 0, none, 0, rfl, .inl ⟨rfl, rfl⟩, .inl ⟨rfl, rfl⟩, (fun _ _ e1 => by cases e1), ?_⟩
              (repeat (first | with_reducible exact Below.refl _ _ | with_reducible assumption | with_reducible refine Below.alloc' ?_ ?_ _ | with_reducible refine Below.setCell' ?_ ?_ _ | with_reducible refine Below.drewN' ?_ _ | with_reducible refine Below.drew ?_ | with_reducible refine Below.transA ?_ (by assumption) ?_ | omega | (focus (simp; done)) | (focus (simp; omega))))
          · have hkk : ((k : Int) == 0) = false := by rw [beq_eq_false_iff_ne]; omega
            clear hm hk0 hcmp
            cases b1 <;> cases b2
            case true.true =>
              clear hbx
              obtain ⟨A0, c0, rfl⟩ := own_slice h2.own0
              obtain ⟨A1, c1, rfl⟩ := own_slice h2.own1
              have t0 := h2.blk.c0
              have t1 := h2.blk.c1
              have hwz4 := hw.size
              go_upto_region 16 with (at_builtin; refine wpList_append_own_at _ rfl _ _ 32 rfl w1.heap.size 3 i0 (.int .i64 0) 1 8 Tryd.underlying32 hi hz0 hz1 hz2 rfl (by decide) _ _ _ rfl (h2.own0.alloc _) ⟨w4.heap.size, 0, none⟩ 1 1 [.int .i64 xv] rfl rfl (cell_one_new _ _ _) (by simp [Value.oneCell']) (by unfold maxLen; omega) (by omega) (by simp; omega) ?_; intro v5 w5 hown5 hg5 _ hat5; obtain ⟨Av5, cv5, rfl⟩ := own_slice hown5; have a5c0 := (h2.blk0 hg5).c0; have a5c1 := (h2.blk0 hg5).c1; have a5f := (h2.blk0 hg5).free 0)
              have hwA : Below w1.heap.size w1 (w5.setCell ⟨gT, 0, none⟩ (.slice Av5 (k + 1) cv5)) := below_put hw hg5 (h2.row0 (Nat.le_refl _)) hgT2
              replace hown5 : w5.ownsRow w1.heap.size 3 1 (.slice Av5 (k + 1) cv5) (k + 1) (i64s (pX (L.take (k + 1)))) := by rw [HNX.out, i64s_app]; exact hown5
              have h3 := h2.put0 hg5 hat5 hown5
              clear h2 hw hg5 hat5 hown5 t0 t1 a5c0 a5c1 a5f
              generalize w5.setCell ⟨gT, 0, none⟩ (.slice Av5 (k + 1) cv5) = w6 at *
              have t0 := h3.blk.c0
              have t1 := h3.blk.c1
              have hwz6 := hwA.size
              go_wp2_with (at_builtin; refine wpList_append_own_at _ rfl _ _ 32 rfl w1.heap.size 3 i0 (.int .i64 0) 1 8 Tryd.underlying32 hi hz0 hz1 hz2 rfl (by decide) _ _ _ rfl (h3.own1.alloc _) ⟨w6.heap.size, 0, none⟩ 1 1 [.int .i64 yv] rfl rfl (cell_one_new _ _ _) (by simp [Value.oneCell']) (by unfold maxLen; omega) (by omega) (by simp; omega) ?_; intro v7 w7 hown7 hg7 _ hat7; obtain ⟨Av7, cv7, rfl⟩ := own_slice hown7; have a7c0 := (h3.blk1 hg7).c0; have a7c1 := (h3.blk1 hg7).c1; have a7f := (h3.blk1 hg7).free 1)
              have hwB : Below w1.heap.size w1 (w7.setCell ⟨gT, 1, none⟩ (.slice Av7 (k + 1) cv7)) := below_put hwA hg7 (h3.row1 (Nat.le_refl _)) hgT2
              replace hown7 : w7.ownsRow w1.heap.size 3 1 (.slice Av7 (k + 1) cv7) (k + 1) (i64s (pY (L.take (k + 1)))) := by rw [HNY.out, i64s_app]; exact hown7
              have h4 := h3.put1 hg7 hat7 hown7
              have hwo : wOk x.data.toList = true := by rw [HWO.out]; rfl
              have HW2 := Lib.hid (HW.out.next HX.out hwo)
              clear h3 hwA hg7 hat7 hown7 t0 t1 a7c0 a7c1 a7f hwo
              generalize w7.setCell ⟨gT, 1, none⟩ (.slice Av7 (k + 1) cv7) = w8 at *
              go_wp2
              go_roundw
              case rel => exact ⟨k + 1, _, _, by omega, by omega, by go_num, HW2, h4, hwB⟩
              case measure => simp [intOf]; omega
            all_goals
              obtain rfl := hbx rfl
              clear hbx HWO HX
              have hr0 := hRs.c0
              have hr1 := hRs.c1
              have hf0 := hRs.free 0
              have hf1 := hRs.free 1
              go_wp2
              refine bodyPost_ret (v := .tuple #[.agg #[.slice none 0 0, .slice none 0 0], .bool false]) (by simp (maxDischargeDepth := 9) [results, Tryd.results24, go_sem, *]) rfl ⟨none, 0, none, 0, rfl, .inl ⟨rfl, rfl⟩, .inl ⟨rfl, rfl⟩, (fun _ _ e1 => by cases e1), ?_⟩
              (repeat (first | with_reducible exact Below.refl _ _ | with_reducible assumption | with_reducible refine Below.alloc' ?_ ?_ _ | with_reducible refine Below.setCell' ?_ ?_ _ | with_reducible refine Below.drewN' ?_ _ | with_reducible refine Below.drew ?_ | with_reducible refine Below.transA ?_ (by assumption) ?_ | omega | (focus (simp; done)) | (focus (simp; omega))))
      · have hwo : wOk x.data.toList = false := by
          cases e : wOk x.data.toList with
          | false => rfl
          | true => exact absurd (by unfold partsB; rw [List.length_map]; exact wOk_len e) hl2
        obtain rfl : b = false := HWd.out k x HX.out hwo
        have hln : (((partsB 58 x).length : Int) != 2) = true := by rw [bne_iff_ne]; omega
        clear hl2 hwo hO2 HX
        have hr0 := hRs.c0
        have hr1 := hRs.c1
        have hf0 := hRs.free 0
        have hf1 := hRs.free 1
        go_wp2
        refine bodyPost_ret (v := .tuple #[.agg #[.slice none 0 0, .slice none 0 0], .bool false]) (by simp (maxDischargeDepth := 9) [results, Tryd.results24, go_sem, *]) rfl ⟨none, 0, none, 0, rfl, .inl ⟨rfl, rfl⟩, .inl ⟨rfl, rfl⟩, (fun _ _ e1 => by cases e1), ?_⟩
        (repeat (first | with_reducible exact Below.refl _ _ | with_reducible assumption | with_reducible refine Below.alloc' ?_ ?_ _ | with_reducible refine Below.setCell' ?_ ?_ _ | with_reducible refine Below.drewN' ?_ _ | with_reducible refine Below.drew ?_ | with_reducible refine Below.transA ?_ (by assumption) ?_ | omega | (focus (simp; done)) | (focus (simp; omega))))
    · have hend := HEn.out k hk (by omega) HW.out
      have hRs := hRs0.below hw
      have hsm := p_small (L.take k)
      have hbx := pX_bd (L.take k)
      have hby := pY_bd (L.take k)
      have hfX := pX_len hk
      have hfY := pY_len hk
      have hXL : k = L.length → pX (L.take k) = pX L ∧ pY (L.take k) = pY L := fun e => by rw [e, List.take_length]; exact ⟨rfl, rfl⟩
      generalize pX (L.take k) = X at *
      generalize pY (L.take k) = Y at *
      obtain ⟨A1, c1, A2, c2, rfl, rfl, hO1, hO2, hap, -, -⟩ := h2.forms
      have hbl := h2.blk
      clear h2 HW
      cases hg : good X Y with
      | false =>
        obtain rfl : b = false := hend.1 hg
        have HG := Lib.hid (fun W (h : IntS W A1 X) (k : IntS W A2 Y) => l2Good_r hg A1 A2 c1 c2 W h k hbx hby (by omega) (by omega))
        have t0 := hbl.c0
        have t1 := hbl.c1
        clear hend hg hbx hby hsm hXL
        by_cases hkl : k < L.length
        · have i1 : (k : Int) < L.length := by omega
          have i2 : ¬ (k : Int) ≤ 24 := by omega
          clear hlt hfX hfY
          go_wp2_with fail
          refine (HG.out _ (hO1.ints.below (Below.refl _ _)) (hO2.ints.below (Below.refl _ _))).mono ?_
          rintro e5 w5 ⟨rfl, hb5⟩
          replace hRs := hRs.below hb5
          replace hw := keep_below hb5 hw
          replace hO1 := hO1.below hb5
          replace hO2 := hO2.below hb5
          replace hbl := hbl.below hb5
          clear HG t0 t1 hb5
          have hr0 := hRs.c0
          have hr1 := hRs.c1
          have hf0 := hRs.free 0
          have hf1 := hRs.free 1
          go_wp2
          refine bodyPost_ret (v := .tuple #[.agg #[.slice none 0 0, .slice none 0 0], .bool false]) (by simp (maxDischargeDepth := 9) [results, Tryd.results24, go_sem, *]) rfl ⟨none, 0, none, 0, rfl, .inl ⟨rfl, rfl⟩, .inl ⟨rfl, rfl⟩, (fun _ _ e1 => by cases e1), ?_⟩
          (repeat (first | with_reducible exact Below.refl _ _ | with_reducible assumption | with_reducible refine Below.alloc' ?_ ?_ _ | with_reducible refine Below.setCell' ?_ ?_ _ | with_reducible refine Below.drewN' ?_ _ | with_reducible refine Below.drew ?_ | with_reducible refine Below.transA ?_ (by assumption) ?_ | omega | (focus (simp; done)) | (focus (simp; omega))))
        · have i1 : ¬ (k : Int) < L.length := by omega
          clear hlt hfX hfY
          go_wp2_with fail
          refine (HG.out _ (hO1.ints.below (Below.refl _ _)) (hO2.ints.below (Below.refl _ _))).mono ?_
          rintro e5 w5 ⟨rfl, hb5⟩
          replace hRs := hRs.below hb5
          replace hw := keep_below hb5 hw
          replace hO1 := hO1.below hb5
          replace hO2 := hO2.below hb5
          replace hbl := hbl.below hb5
          clear HG t0 t1 hb5
          have hr0 := hRs.c0
          have hr1 := hRs.c1
          have hf0 := hRs.free 0
          have hf1 := hRs.free 1
          go_wp2
          refine bodyPost_ret (v := .tuple #[.agg #[.slice none 0 0, .slice none 0 0], .bool false]) (by simp (maxDischargeDepth := 9) [results, Tryd.results24, go_sem, *]) rfl ⟨none, 0, none, 0, rfl, .inl ⟨rfl, rfl⟩, .inl ⟨rfl, rfl⟩, (fun _ _ e1 => by cases e1), ?_⟩
          (repeat (first | with_reducible exact Below.refl _ _ | with_reducible assumption | with_reducible refine Below.alloc' ?_ ?_ _ | with_reducible refine Below.setCell' ?_ ?_ _ | with_reducible refine Below.drewN' ?_ _ | with_reducible refine Below.drew ?_ | with_reducible refine Below.transA ?_ (by assumption) ?_ | omega | (focus (simp; done)) | (focus (simp; omega))))
      | true =>
        obtain ⟨hkl, hiff⟩ := hend.2 hg
        obtain ⟨hX, hY⟩ := hXL hkl
        have HG := Lib.hid (fun W (h : IntS W A1 X) (k : IntS W A2 Y) => l2Good_r hg A1 A2 c1 c2 W h k hbx hby (by omega) (by omega))
        have hgl := good_len hg
        have HT := Lib.hid (fun W (h : IntS W A1 X) (k : IntS W A2 Y) => l2Text_any A1 A2 c1 c2 X Y W h k hgl.2.1 hgl.2.2 hsm)
        have i1 : ¬ (k : Int) < L.length := by omega
        have hcmp := bytes_eq (a := txB X Y) (b := s)
        have t0 := hbl.c0
        have t1 := hbl.c1
        have HXe := Lib.hid hX.symm
        have HYe := Lib.hid hY.symm
        clear hend hg hbx hby hsm hX hY hgl hfX hfY hlt hkl hXL
        generalize txB X Y = Z at *
        by_cases hZ : Z = s
        · obtain rfl : b = true := hiff.2 hZ
          replace hcmp := hcmp.trans (decide_eq_true hZ)
          clear hiff hZ
          go_wp2_with fail
          refine (HG.out _ (hO1.ints.below (Below.refl _ _)) (hO2.ints.below (Below.refl _ _))).mono ?_
          rintro e5 w5 ⟨rfl, hb5⟩
          replace hRs := hRs.below hb5
          replace hw := keep_below hb5 hw
          replace hO1 := hO1.below hb5
          replace hO2 := hO2.below hb5
          replace hbl := hbl.below hb5
          clear HG t0 t1 hb5
          have t0 := hbl.c0
          have t1 := hbl.c1
          go_wp2_with fail
          refine (HT.out _ hO1.ints hO2.ints).mono ?_
          rintro e6 w6 ⟨rfl, hb6⟩
          replace hRs := hRs.below hb6
          replace hw := keep_below hb6 hw
          replace hO1 := hO1.below hb6
          replace hO2 := hO2.below hb6
          replace hbl := hbl.below hb6
          clear HT t0 t1 hb6
          have t0 := hbl.c0
          have t1 := hbl.c1
          have hr0 := hRs.c0
          have hr1 := hRs.c1
          have hf0 := hRs.free 0
          have hf1 := hRs.free 1
          have hkb := ((KeptBut.refl2 w6 w.heap.size).setg 0 (.slice A1 X.length c1)).setg 1 (.slice A2 Y.length c2)
          have hO1' := hkb.own hO1 hwg hwg
          have hO2' := hkb.own hO2 hwg hwg
          clear hkb hO1 hO2
          go_wp2
          refine bodyPost_ret (v := .tuple #[.agg #[.slice A1 X.length c1, .slice A2 Y.length c2], .bool true]) (by simp (maxDischargeDepth := 9) [results, Tryd.results24, go_sem, *]) rfl ⟨A1, c1, A2, c2, by rw [HXe.out, HYe.out]; rfl, by rw [HXe.out]; exact hO1'.mono (Nat.le_of_lt hwg), by rw [HYe.out]; exact hO2'.mono (Nat.le_of_lt hwg), hap, ?_⟩
          (repeat (first | with_reducible exact Below.refl _ _ | with_reducible assumption | with_reducible refine Below.alloc' ?_ ?_ _ | with_reducible refine Below.setCell' ?_ ?_ _ | with_reducible refine Below.drewN' ?_ _ | with_reducible refine Below.drew ?_ | with_reducible refine Below.transA ?_ (by assumption) ?_ | omega | (focus (simp; done)) | (focus (simp; omega))))
        · have hbf : b = false := by cases b with | false => rfl | true => exact absurd (hiff.1 rfl) hZ
          subst hbf
          replace hcmp := hcmp.trans (decide_eq_false hZ)
          clear hiff hZ
          go_wp2_with fail
          refine (HG.out _ (hO1.ints.below (Below.refl _ _)) (hO2.ints.below (Below.refl _ _))).mono ?_
          rintro e5 w5 ⟨rfl, hb5⟩
          replace hRs := hRs.below hb5
          replace hw := keep_below hb5 hw
          replace hO1 := hO1.below hb5
          replace hO2 := hO2.below hb5
          replace hbl := hbl.below hb5
          clear HG t0 t1 hb5
          have t0 := hbl.c0
          have t1 := hbl.c1
          go_wp2_with fail
          refine (HT.out _ hO1.ints hO2.ints).mono ?_
          rintro e6 w6 ⟨rfl, hb6⟩
          replace hRs := hRs.below hb6
          replace hw := keep_below hb6 hw
          replace hO1 := hO1.below hb6
          replace hO2 := hO2.below hb6
          replace hbl := hbl.below hb6
          clear HT t0 t1 hb6
          have hr0 := hRs.c0
          have hr1 := hRs.c1
          have hf0 := hRs.free 0
          have hf1 := hRs.free 1
          go_wp2
          refine bodyPost_ret (v := .tuple #[.agg #[.slice none 0 0, .slice none 0 0], .bool false]) (by simp (maxDischargeDepth := 9) [results, Tryd.results24, go_sem, *]) rfl ⟨none, 0, none, 0, rfl, .inl ⟨rfl, rfl⟩, .inl ⟨rfl, rfl⟩, (fun _ _ e1 => by cases e1), ?_⟩
          (repeat (first | with_reducible exact Below.refl _ _ | with_reducible assumption | with_reducible refine Below.alloc' ?_ ?_ _ | with_reducible refine Below.setCell' ?_ ?_ _ | with_reducible refine Below.drewN' ?_ _ | with_reducible refine Below.drew ?_ | with_reducible refine Below.transA ?_ (by assumption) ?_ | omega | (focus (simp; done)) | (focus (simp; omega))))
end Go.Proofs.YtfpokpgkkjibfaaDoor
