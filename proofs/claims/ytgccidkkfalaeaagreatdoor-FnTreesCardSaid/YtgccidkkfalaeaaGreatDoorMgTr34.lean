/- ParseTree: what the reference's returns. -/
import Derived.Deep.DeepCutAuto
import Derived.StillTailTactics
import Derived.Test.YtgccidkkfalaeaaGreatDoorMgTr33
import Derived.Test.YtgccidkkfalaeaaGreatDoorMgTr9
import Derived.Test.YtgccidkkfalaeaaGreatDoorMgTr32
import Derived.Test.YtgccidkkfalaeaaGreatDoorMgTr10
import Derived.Test.YtgccidkkfalaeaaGreatDoorMgTr1
import Derived.Test.YtgccidkkfalaeaaGreatDoorMgTr30
namespace Go.Proofs.YtgccidkkfalaeaaGreatDoor
open Go.ChangeShapes Go.WideShapes Go.ChangeAt Go.RowKit
open Go.ChangeMaps (open_string shut_string)

theorem rdO_get (o : Option Int) : rdO o = .tuple #[.int .i64 (o.getD 0), .bool o.isSome] := by cases o <;> rfl
theorem rdV_mk (l : List UInt8) : rdV (mkB l) = .tuple #[.int .i64 ((rdL l).getD 0), .bool (rdL l).isSome] := by unfold rdV; rw [mkB_list, rdO_get]
theorem rd_minus : rdL [45, 49] = some (-1) := rdL_some ⟨by decide, by decide, by
  have h := Lib.itoa_neg 1 (by omega)
  rw [Lib.decDigits_one (by omega)] at h
  exact h⟩
theorem word_head {x : ByteArray} (h : mkB (headL 58 x.data.toList) = ⟨#[45, 49]⟩) : wX x.data.toList = -1 ∧ (rdL (headL 58 x.data.toList)).isSome = true := by
  have e : headL 58 x.data.toList = [45, 49] := by rw [← mkB_list (headL 58 x.data.toList), h]
  unfold wX
  rw [e, rd_minus]
  exact ⟨rfl, rfl⟩
theorem wOk_eq (l : List UInt8) : wOk l = ((rdL (headL 58 l)).isSome && (rdL (tailL 58 l)).isSome) := rfl
/-- The words so far are good. -/
def WOk (L : List ByteArray) (k : Nat) : Prop := ∀ (j : Nat) (x : ByteArray), L[j]? = some x → j < k → wOk x.data.toList = true
theorem WOk.next {L : List ByteArray} {k : Nat} {x : ByteArray} (h : WOk L k) (hx : L[k]? = some x) (hk : wOk x.data.toList = true) : WOk L (k + 1) := by
  intro j y hy hj
  by_cases e : j = k
  · subst e; rw [hx] at hy; cases hy; exact hk
  · exact h j y hy (by omega)
theorem WOk.all {L : List ByteArray} (h : WOk L L.length) : ∀ b ∈ L, wOk b.data.toList = true := by
  intro b hb
  obtain ⟨j, hj⟩ := List.getElem?_of_mem hb
  exact h j b hj (List.getElem?_eq_some_iff.1 hj).1
theorem pt_word {s : ByteArray} {b : Bool} (hb : b = true ↔ ptOk s) {k : Nat} {x : ByteArray} (hx : (partsB 32 s)[k]? = some x) (h : wOk x.data.toList = false) : b = false := by
  cases b with
  | false => rfl
  | true => have := (hb.1 rfl).1 x (List.mem_of_getElem? hx); rw [h] at this; cases this
theorem pt_end {s : ByteArray} {b : Bool} (hb : b = true ↔ ptOk s) {k : Nat} (hk : k ≤ (partsB 32 s).length) (hk2 : k = (partsB 32 s).length ∨ k = 25) (hw : WOk (partsB 32 s) k) :
    (good (pX ((partsB 32 s).take k)) (pY ((partsB 32 s).take k)) = false → b = false) ∧ (good (pX ((partsB 32 s).take k)) (pY ((partsB 32 s).take k)) = true → k = (partsB 32 s).length ∧ (b = true ↔ txB (pX ((partsB 32 s).take k)) (pY ((partsB 32 s).take k)) = s)) := by
  refine ⟨fun h => ?_, fun h => ?_⟩
  · cases b with
    | false => rfl
    | true =>
      have ho := hb.1 rfl
      have hl := ptOk_len ho
      have hkl : k = (partsB 32 s).length := by omega
      rw [hkl, List.take_length] at h
      have := ho.2.1
      unfold ptX ptY at this
      rw [this] at h; cases h
  · have hl := (good_len h).2.1
    rw [pX_len hk] at hl
    have hkl : k = (partsB 32 s).length := by omega
    refine ⟨hkl, ?_⟩
    rw [hkl, List.take_length] at h ⊢
    rw [hkl] at hw
    exact hb.trans ⟨fun h => h.2.2, fun e => ⟨hw.all, h, e⟩⟩
theorem nth_bd_of {f : ByteArray → Int} (hf : ∀ b, -1000000 ≤ f b ∧ f b ≤ 1000000) (L : List ByteArray) : Bd (L.map f) := fun j => by have := nth_map_bd hf L j; omega
theorem pX_bd (L : List ByteArray) : Bd (pX L) := nth_bd_of (fun b => by have := wX_bd b.data.toList; omega) L
theorem pY_bd (L : List ByteArray) : Bd (pY L) := nth_bd_of (fun b => by have := wY_bd b.data.toList; omega) L
theorem infoI_parts : ∃ i0, Tryz.prog.info? 3 = some i0 ∧ i0.zero = some (.int .i64 0) ∧ i0.size = 1 ∧ i0.bytes = 8 := info_parts info_int

set_option maxHeartbeats 8000000 in
set_option maxRecDepth 100000 in
theorem specParseTree_any (s : ByteArray) (w : World) (hs : s.size ≤ 1048576) (b : Bool) (hb : b = true ↔ ptOk s) :
    Calls Tryz.prog 20 #[.string s] w (RetTB w (prPick b (ptX s)) (prPick b (ptY s)) b) := by
  obtain ⟨i0, hi, hz0, hz1, hz2⟩ := infoI_parts
  obtain ⟨L, hL⟩ : ∃ L, L = partsB 32 s := ⟨_, rfl⟩
  have HS := Lib.hid (fun w => l1Split_any s 32 w hs)
  have HWd := Lib.hid (fun (k : Nat) (x : ByteArray) (hx : (partsB 32 s)[k]? = some x) (h : wOk x.data.toList = false) => pt_word hb hx h)
  have HEn := Lib.hid (fun (k : Nat) (hk : k ≤ (partsB 32 s).length) (hk2 : k = (partsB 32 s).length ∨ k = 25) (hw : WOk (partsB 32 s) k) => pt_end hb hk hk2 hw)
  have HSz : Hid (∀ (k : Nat) (x : ByteArray), (partsB 32 s)[k]? = some x → x.size ≤ 1048576) := fun k x hx => Nat.le_trans (parts_small 32 s x (List.mem_of_getElem? hx)) hs
  have hL1 : 0 < (partsB 32 s).length := by rw [countB_parts]; omega
  have hR : RetTB w (prPick b (ptX s)) (prPick b (ptY s)) b = RetTB w (prPick b (pX L)) (prPick b (pY L)) b := by rw [hL]; rfl
  rw [← hL] at HS HWd HEn HSz hL1
  rw [hR]
  clear hb hL hR
  go_enter Tryz.func20, Tryz.ntmps20
  go_wp2_with fail
  refine (HS.out _).mono ?_
  rintro e1 w1 ⟨A, c, rfl, hO, hb1⟩
  have hRs0 : BlkT w1 w.heap.size (.slice none 0 0) (.slice none 0 0) := (BlkT.new w _ _ rfl).below hb1
  have hw10 : Below w.heap.size w w1 := ((Below.refl _ _).alloc (Nat.le_refl _) _).trans (hb1.mono (by simp))
  obtain ⟨gA, rfl, hgA, hrA⟩ := hO.pos hL1
  have HC : Hid (∀ (k : Nat) (x : ByteArray), L[k]? = some x → w1.cell? ⟨gA, k, none⟩ = some (.string x)) := fun k x hx => hrA.cell hx
  have hwg := hRs0.lt
  obtain ⟨gT, hgT⟩ : ∃ g, g = w1.heap.size + 1 + 1 := ⟨_, rfl⟩
  have h2 : Two (((w1.alloc (.cells #[] 3)).alloc (.cells #[] 3)).alloc (.cells #[.slice (some ⟨w1.heap.size, 0, none⟩) 0 0, .slice (some ⟨w1.heap.size + 1, 0, none⟩) 0 0] 26)) w1.heap.size gT (.slice (some ⟨w1.heap.size, 0, none⟩) 0 0) (.slice (some ⟨w1.heap.size + 1, 0, none⟩) 0 0) 0 0 [] [] := by
    have e1 : (w1.alloc (.cells #[] 3)).heap.size = w1.heap.size + 1 := by simp
    refine ⟨BlkT.new _ _ _ (by rw [hgT]; simp), ((own_empty w1 w1.heap.size _ rfl (Nat.le_refl _)).alloc _).alloc _, (own_empty (w1.alloc (.cells #[] 3)) w1.heap.size _ e1.symm (by omega)).alloc _, ?_, ?_, ?_⟩
    · intro e; injection e with e; simp at e; omega
    · intro e; injection e with e; simp at e; omega
    · intro g e e2; injection e with e; injection e2 with e2; simp at e e2; omega
  have hw : Below w1.heap.size w1 (((w1.alloc (.cells #[] 3)).alloc (.cells #[] 3)).alloc (.cells #[.slice (some ⟨w1.heap.size, 0, none⟩) 0 0, .slice (some ⟨w1.heap.size + 1, 0, none⟩) 0 0] 26)) := by (repeat (first | with_reducible exact Below.refl _ _ | with_reducible assumption | with_reducible refine Below.alloc' ?_ ?_ _ | with_reducible refine Below.setCell' ?_ ?_ _ | with_reducible refine Below.drewN' ?_ _ | with_reducible refine Below.drew ?_ | with_reducible refine Below.transA ?_ (by assumption) ?_ | omega | (focus (simp; done)) | (focus (simp; omega))))
  clear hb1 hO hrA
  go_wp2
  rw [← hgT]
  have hgT2 : w1.heap.size ≤ gT := by omega
  clear hgT
  go_loopw [6, 7, 8, 9, 10, 11] (fun i _ _ _ _ _ wr => ∃ (k : Nat) (va vb : Value), k ≤ L.length ∧ k ≤ 25 ∧ i = .int .i64 (k : Int) ∧ Hid (WOk L k) ∧ Two wr w1.heap.size gT va vb k k (pX (L.take k)) (pY (L.take k)) ∧ Below w1.heap.size w1 wr) (fun i _ _ _ _ _ _ => 30 - (intOf i).toNat)
  case atStart => exact ⟨0, _, _, Nat.zero_le _, by omega, rfl, Lib.hid (fun j x _ hj => by omega), h2, hw⟩
  case round =>
    clear h2 hw
    obtain ⟨k, va, vb, hk, hk25, rfl, HW, h2, hw⟩ := hrel
    have hwz := hw.size
    by_cases hlt : k < L.length ∧ k ≤ 24
    · obtain ⟨x, hx⟩ : ∃ x, L[k]? = some x := ⟨_, List.getElem?_eq_getElem hlt.1⟩
      have hc := keep_cell hw (HC.out k _ hx)
      have hxz := HSz.out k _ hx
      have HX := Lib.hid hx
      have i0' : (0 : Int) ≤ (k : Int) := by omega
      have i1 : (k : Int) < (L.length : Int) := by omega
      have i2 : (k : Int) ≤ 24 := by omega
      have hRs := hRs0.below hw
      clear hx hlt
      have HS2 := Lib.hid (fun w => l1Split_any x 58 w hxz)
      go_wp2_with fail
      refine (HS2.out _).mono ?_
      rintro e2 w2 ⟨A2, c2, rfl, hO2, hb2⟩
      replace h2 := h2.below hb2
      replace hRs := hRs.below hb2
      replace hw := keep_below hb2 hw
      clear hb2 hc HS2
      by_cases hl2 : (partsB 58 x).length = 2
      · have hp2 : partsB 58 x = [mkB (headL 58 x.data.toList), mkB (tailL 58 x.data.toList)] := by
          have h := parts_two (l := x.data.toList) (by unfold partsB at hl2; rwa [List.length_map] at hl2)
          unfold partsB; rw [h]; rfl
        have hz1 : (mkB (headL 58 x.data.toList)).size ≤ 1048576 := Nat.le_trans (parts_small 58 x _ (by rw [hp2]; simp)) hxz
        have hz2' : (mkB (tailL 58 x.data.toList)).size ≤ 1048576 := Nat.le_trans (parts_small 58 x _ (by rw [hp2]; simp)) hxz
        have HR1 := Lib.hid (fun w => l1Read_any _ w hz1)
        have HR2 := Lib.hid (fun w => l1Read_any _ w hz2')
        rw [rdV_mk] at HR1 HR2
        have hwx : (rdL (headL 58 x.data.toList)).getD 0 = wX x.data.toList := rfl
        have hwy : (rdL (tailL 58 x.data.toList)).getD 0 = wY x.data.toList := rfl
        rw [hwx] at HR1
        rw [hwy] at HR2
        have hwo := wOk_eq x.data.toList
        have hmin := word_head (x := x)
        have hnx : L.take (k + 1) = L.take k ++ [x] := take_next HX.out
        have hnX : pX (L.take (k + 1)) = pX (L.take k) ++ [wX x.data.toList] := pX_next HX.out
        have hnY : pY (L.take (k + 1)) = pY (L.take k) ++ [wY x.data.toList] := pY_next HX.out
        obtain ⟨g2, rfl, hg2, hr2⟩ := hO2.pos (by rw [hp2]; simp)
        have hq0 : w2.cell? ⟨g2, 0, none⟩ = some (.string (mkB (headL 58 x.data.toList))) := hr2.cell (by rw [hp2]; rfl)
        have hq1 : w2.cell? ⟨g2, 1, none⟩ = some (.string (mkB (tailL 58 x.data.toList))) := hr2.cell (by rw [hp2]; rfl)
        have hcmp := bytes_eq (a := mkB (headL 58 x.data.toList)) (b := ⟨#[45, 49]⟩)
        rw [show (⟨#[45, 49]⟩ : ByteArray).toList = [45, 49] by simp] at hcmp
        rw [hl2]
        clear hO2 hr2 hl2 hwx hwy hz1 hz2' hxz hnx
        have HNX := Lib.hid hnX
        have HNY := Lib.hid hnY
        have HWO := Lib.hid hwo
        clear hnX hnY hwo
        have hp2' : Hid (partsB 58 x = partsB 58 x) := rfl
        clear hp2
        generalize mkB (headL 58 x.data.toList) = q1 at *
        generalize mkB (tailL 58 x.data.toList) = q2 at *
        generalize hxx : wX x.data.toList = xv at *
        generalize wY x.data.toList = yv at *
        generalize hbb1 : (rdL (headL 58 x.data.toList)).isSome = b1 at *
        generalize (rdL (tailL 58 x.data.toList)).isSome = b2 at *
        have hmin2 : q1 = ⟨#[45, 49]⟩ → xv = -1 ∧ b1 = true := hmin
        clear hmin hxx hbb1
        go_wp2_with fail
        refine (HR1.out _).mono ?_
        rintro e3 w3 ⟨rfl, hw3⟩
        replace hw3 : Below w2.heap.size w2 w3 := by obtain ⟨k3, rfl⟩ := hw3; exact drewN_below w2 k3
        replace h2 := h2.below hw3
        replace hRs := hRs.below hw3
        replace hw := keep_below hw3 hw
        replace hq0 := keep_cell hw3 hq0
        replace hq1 := keep_cell hw3 hq1
        clear hw3 HR1
        go_wp2_with fail
        refine (HR2.out _).mono ?_
        rintro e4 w4 ⟨rfl, hw4⟩
        replace hw4 : Below w3.heap.size w3 w4 := by obtain ⟨k3, rfl⟩ := hw4; exact drewN_below w3 k3
        replace h2 := h2.below hw4
        replace hRs := hRs.below hw4
        replace hw := keep_below hw4 hw
        replace hq0 := keep_cell hw4 hq0
        clear hw4 HR2 hq1
        have hbx : (b1 && b2) = false → b = false := fun e => HWd.out k x HX.out (by rw [HWO.out, e])
        by_cases hm : k = 0 ∧ q1 = ⟨#[45, 49]⟩
        · obtain ⟨rfl, rfl⟩ := hmin2 hm.2
          replace hcmp := hcmp.trans (decide_eq_true hm.2)
          have hk0 : ((k : Int) == 0) = true := by rw [beq_iff_eq]; omega
          clear hm hmin2
          cases b2 with
          | false =>
            obtain rfl := hbx rfl
            clear hbx HWO HX
            have hr0 := hRs.c0
            have hr1 := hRs.c1
            have hf0 := hRs.free 0
            have hf1 := hRs.free 1
            go_wp2
            refine bodyPost_ret (v := .tuple #[.agg #[.slice none 0 0, .slice none 0 0], .bool false]) (by simp (maxDischargeDepth := 9) [results, Tryz.results20, go_sem, *]) rfl ⟨none, 0, none, 0, rfl, .inl ⟨rfl, rfl⟩, .inl ⟨rfl, rfl⟩, (fun _ _ e1 => by cases e1), ?_⟩
            (repeat (first | with_reducible exact Below.refl _ _ | with_reducible assumption | with_reducible refine Below.alloc' ?_ ?_ _ | with_reducible refine Below.setCell' ?_ ?_ _ | with_reducible refine Below.drewN' ?_ _ | with_reducible refine Below.drew ?_ | with_reducible refine Below.transA ?_ (by assumption) ?_ | omega | (focus (simp; done)) | (focus (simp; omega))))
          | true =>
            clear hbx
            obtain ⟨A0, c0, rfl⟩ := own_slice h2.own0
            obtain ⟨A1, c1, rfl⟩ := own_slice h2.own1
            have t0 := h2.blk.c0
            have t1 := h2.blk.c1
            have hwz4 := hw.size
            go_upto_region 16 with (at_builtin; refine wpList_append_own_at _ rfl _ _ 24 rfl w1.heap.size 3 i0 (.int .i64 0) 1 8 Tryz.underlying24 hi hz0 hz1 hz2 rfl (by decide) _ _ _ rfl (h2.own0.alloc _) ⟨w4.heap.size, 0, none⟩ 1 1 [.int .i64 (-1)] rfl rfl (cell_one_new _ _ _) (by simp [Value.oneCell']) (by unfold maxLen; omega) (by omega) (by simp; omega) ?_; intro v5 w5 hown5 hg5 _ hat5; obtain ⟨Av5, cv5, rfl⟩ := own_slice hown5; have a5c0 := (h2.blk0 hg5).c0; have a5c1 := (h2.blk0 hg5).c1; have a5f := (h2.blk0 hg5).free 0)
            have hwA : Below w1.heap.size w1 (w5.setCell ⟨gT, 0, none⟩ (.slice Av5 (k + 1) cv5)) := below_put hw hg5 (h2.row0 (Nat.le_refl _)) hgT2
            replace hown5 : w5.ownsRow w1.heap.size 3 1 (.slice Av5 (k + 1) cv5) (k + 1) (i64s (pX (L.take (k + 1)))) := by rw [HNX.out, i64s_app]; exact hown5
            have h3 := h2.put0 hg5 hat5 hown5
            clear h2 hw hg5 hat5 hown5 t0 t1 a5c0 a5c1 a5f
            generalize w5.setCell ⟨gT, 0, none⟩ (.slice Av5 (k + 1) cv5) = w6 at *
            have t0 := h3.blk.c0
            have t1 := h3.blk.c1
            have hwz6 := hwA.size
            go_wp2_with (at_builtin; refine wpList_append_own_at _ rfl _ _ 24 rfl w1.heap.size 3 i0 (.int .i64 0) 1 8 Tryz.underlying24 hi hz0 hz1 hz2 rfl (by decide) _ _ _ rfl (h3.own1.alloc _) ⟨w6.heap.size, 0, none⟩ 1 1 [.int .i64 yv] rfl rfl (cell_one_new _ _ _) (by simp [Value.oneCell']) (by unfold maxLen; omega) (by omega) (by simp; omega) ?_; intro v7 w7 hown7 hg7 _ hat7; obtain ⟨Av7, cv7, rfl⟩ := own_slice hown7; have a7c0 := (h3.blk1 hg7).c0; have a7c1 := (h3.blk1 hg7).c1; have a7f := (h3.blk1 hg7).free 1)
            have hwB : Below w1.heap.size w1 (w7.setCell ⟨gT, 1, none⟩ (.slice Av7 (k + 1) cv7)) := below_put hwA hg7 (h3.row1 (Nat.le_refl _)) hgT2
            replace hown7 : w7.ownsRow w1.heap.size 3 1 (.slice Av7 (k + 1) cv7) (k + 1) (i64s (pY (L.take (k + 1)))) := by rw [HNY.out, i64s_app]; exact hown7
            have h4 := h3.put1 hg7 hat7 hown7
            have hwo : wOk x.data.toList = true := by rw [HWO.out]; rfl
            have HW2 := Lib.hid (HW.out.next HX.out hwo)
            clear h3 hwA hg7 hat7 hown7 t0 t1 a7c0 a7c1 a7f hwo
            generalize w7.setCell ⟨gT, 1, none⟩ (.slice Av7 (k + 1) cv7) = w8 at *
            go_wp2
            go_roundw
            case rel => exact ⟨k + 1, _, _, by omega, by omega, by go_num, HW2, h4, hwB⟩
            case measure => simp [intOf]; omega
        · clear hmin2
          by_cases hk0 : k = 0
          · have hq : decide (q1 = ⟨#[45, 49]⟩) = false := decide_eq_false fun e => hm ⟨hk0, e⟩
            rw [hq] at hcmp
            have hkk : ((k : Int) == 0) = true := by rw [beq_iff_eq]; omega
            clear hm hk0
            cases b1 <;> cases b2
            case true.true =>
              clear hbx
              obtain ⟨A0, c0, rfl⟩ := own_slice h2.own0
              obtain ⟨A1, c1, rfl⟩ := own_slice h2.own1
              have t0 := h2.blk.c0
              have t1 := h2.blk.c1
              have hwz4 := hw.size
              go_upto_region 16 with (at_builtin; refine wpList_append_own_at _ rfl _ _ 24 rfl w1.heap.size 3 i0 (.int .i64 0) 1 8 Tryz.underlying24 hi hz0 hz1 hz2 rfl (by decide) _ _ _ rfl (h2.own0.alloc _) ⟨w4.heap.size, 0, none⟩ 1 1 [.int .i64 xv] rfl rfl (cell_one_new _ _ _) (by simp [Value.oneCell']) (by unfold maxLen; omega) (by omega) (by simp; omega) ?_; intro v5 w5 hown5 hg5 _ hat5; obtain ⟨Av5, cv5, rfl⟩ := own_slice hown5; have a5c0 := (h2.blk0 hg5).c0; have a5c1 := (h2.blk0 hg5).c1; have a5f := (h2.blk0 hg5).free 0)
              have hwA : Below w1.heap.size w1 (w5.setCell ⟨gT, 0, none⟩ (.slice Av5 (k + 1) cv5)) := below_put hw hg5 (h2.row0 (Nat.le_refl _)) hgT2
              replace hown5 : w5.ownsRow w1.heap.size 3 1 (.slice Av5 (k + 1) cv5) (k + 1) (i64s (pX (L.take (k + 1)))) := by rw [HNX.out, i64s_app]; exact hown5
              have h3 := h2.put0 hg5 hat5 hown5
              clear h2 hw hg5 hat5 hown5 t0 t1 a5c0 a5c1 a5f
              generalize w5.setCell ⟨gT, 0, none⟩ (.slice Av5 (k + 1) cv5) = w6 at *
              have t0 := h3.blk.c0
              have t1 := h3.blk.c1
              have hwz6 := hwA.size
              go_wp2_with (at_builtin; refine wpList_append_own_at _ rfl _ _ 24 rfl w1.heap.size 3 i0 (.int .i64 0) 1 8 Tryz.underlying24 hi hz0 hz1 hz2 rfl (by decide) _ _ _ rfl (h3.own1.alloc _) ⟨w6.heap.size, 0, none⟩ 1 1 [.int .i64 yv] rfl rfl (cell_one_new _ _ _) (by simp [Value.oneCell']) (by unfold maxLen; omega) (by omega) (by simp; omega) ?_; intro v7 w7 hown7 hg7 _ hat7; obtain ⟨Av7, cv7, rfl⟩ := own_slice hown7; have a7c0 := (h3.blk1 hg7).c0; have a7c1 := (h3.blk1 hg7).c1; have a7f := (h3.blk1 hg7).free 1)
              have hwB : Below w1.heap.size w1 (w7.setCell ⟨gT, 1, none⟩ (.slice Av7 (k + 1) cv7)) := below_put hwA hg7 (h3.row1 (Nat.le_refl _)) hgT2
              replace hown7 : w7.ownsRow w1.heap.size 3 1 (.slice Av7 (k + 1) cv7) (k + 1) (i64s (pY (L.take (k + 1)))) := by rw [HNY.out, i64s_app]; exact hown7
              have h4 := h3.put1 hg7 hat7 hown7
              have hwo : wOk x.data.toList = true := by rw [HWO.out]; rfl
              have HW2 := Lib.hid (HW.out.next HX.out hwo)
              clear h3 hwA hg7 hat7 hown7 t0 t1 a7c0 a7c1 a7f hwo
              generalize w7.setCell ⟨gT, 1, none⟩ (.slice Av7 (k + 1) cv7) = w8 at *
              go_wp2
              go_roundw
              case rel => exact ⟨k + 1, _, _, by omega, by omega, by go_num, HW2, h4, hwB⟩
              case measure => simp [intOf]; omega
            all_goals
              obtain rfl := hbx rfl
              clear hbx HWO HX
              have hr0 := hRs.c0
              have hr1 := hRs.c1
              have hf0 := hRs.free 0
              have hf1 := hRs.free 1
              go_wp2
              refine bodyPost_ret (v := .tuple #[.agg #[.slice none 0 0, .slice none 0 0], .bool false]) (by simp (maxDischargeDepth := 9) [results, Tryz.results20, go_sem, *]) rfl ⟨none, 0, none, 0, rfl, .inl ⟨rfl, rfl⟩, .inl ⟨rfl, rfl⟩, (fun _ _ e1 => by cases e1), ?_⟩
              (repeat (first | with_reducible exact Below.refl _ _ | with_reducible assumption | with_reducible refine Below.alloc' ?_ ?_ _ | with_reducible refine Below.setCell' ?_ ?_ _ | with_reducible refine Below.drewN' ?_ _ | with_reducible refine Below.drew ?_ | with_reducible refine Below.transA ?_ (by assumption) ?_ | omega | (focus (simp; done)) | (focus (simp; omega))))
          · have hkk : ((k : Int) == 0) = false := by rw [beq_eq_false_iff_ne]; omega
            clear hm hk0 hcmp
            cases b1 <;> cases b2
            case true.true =>
              clear hbx
              obtain ⟨A0, c0, rfl⟩ := own_slice h2.own0
              obtain ⟨A1, c1, rfl⟩ := own_slice h2.own1
              have t0 := h2.blk.c0
              have t1 := h2.blk.c1
              have hwz4 := hw.size
              go_upto_region 16 with (at_builtin; refine wpList_append_own_at _ rfl _ _ 24 rfl w1.heap.size 3 i0 (.int .i64 0) 1 8 Tryz.underlying24 hi hz0 hz1 hz2 rfl (by decide) _ _ _ rfl (h2.own0.alloc _) ⟨w4.heap.size, 0, none⟩ 1 1 [.int .i64 xv] rfl rfl (cell_one_new _ _ _) (by simp [Value.oneCell']) (by unfold maxLen; omega) (by omega) (by simp; omega) ?_; intro v5 w5 hown5 hg5 _ hat5; obtain ⟨Av5, cv5, rfl⟩ := own_slice hown5; have a5c0 := (h2.blk0 hg5).c0; have a5c1 := (h2.blk0 hg5).c1; have a5f := (h2.blk0 hg5).free 0)
              have hwA : Below w1.heap.size w1 (w5.setCell ⟨gT, 0, none⟩ (.slice Av5 (k + 1) cv5)) := below_put hw hg5 (h2.row0 (Nat.le_refl _)) hgT2
              replace hown5 : w5.ownsRow w1.heap.size 3 1 (.slice Av5 (k + 1) cv5) (k + 1) (i64s (pX (L.take (k + 1)))) := by rw [HNX.out, i64s_app]; exact hown5
              have h3 := h2.put0 hg5 hat5 hown5
              clear h2 hw hg5 hat5 hown5 t0 t1 a5c0 a5c1 a5f
              generalize w5.setCell ⟨gT, 0, none⟩ (.slice Av5 (k + 1) cv5) = w6 at *
              have t0 := h3.blk.c0
              have t1 := h3.blk.c1
              have hwz6 := hwA.size
              go_wp2_with (at_builtin; refine wpList_append_own_at _ rfl _ _ 24 rfl w1.heap.size 3 i0 (.int .i64 0) 1 8 Tryz.underlying24 hi hz0 hz1 hz2 rfl (by decide) _ _ _ rfl (h3.own1.alloc _) ⟨w6.heap.size, 0, none⟩ 1 1 [.int .i64 yv] rfl rfl (cell_one_new _ _ _) (by simp [Value.oneCell']) (by unfold maxLen; omega) (by omega) (by simp; omega) ?_; intro v7 w7 hown7 hg7 _ hat7; obtain ⟨Av7, cv7, rfl⟩ := own_slice hown7; have a7c0 := (h3.blk1 hg7).c0; have a7c1 := (h3.blk1 hg7).c1; have a7f := (h3.blk1 hg7).free 1)
              have hwB : Below w1.heap.size w1 (w7.setCell ⟨gT, 1, none⟩ (.slice Av7 (k + 1) cv7)) := below_put hwA hg7 (h3.row1 (Nat.le_refl _)) hgT2
              replace hown7 : w7.ownsRow w1.heap.size 3 1 (.slice Av7 (k + 1) cv7) (k + 1) (i64s (pY (L.take (k + 1)))) := by rw [HNY.out, i64s_app]; exact hown7
              have h4 := h3.put1 hg7 hat7 hown7
              have hwo : wOk x.data.toList = true := by rw [HWO.out]; rfl
              have HW2 := Lib.hid (HW.out.next HX.out hwo)
              clear h3 hwA hg7 hat7 hown7 t0 t1 a7c0 a7c1 a7f hwo
              generalize w7.setCell ⟨gT, 1, none⟩ (.slice Av7 (k + 1) cv7) = w8 at *
              go_wp2
              go_roundw
              case rel => exact ⟨k + 1, _, _, by omega, by omega, by go_num, HW2, h4, hwB⟩
              case measure => simp [intOf]; omega
            all_goals
              obtain rfl := hbx rfl
              clear hbx HWO HX
              have hr0 := hRs.c0
              have hr1 := hRs.c1
              have hf0 := hRs.free 0
              have hf1 := hRs.free 1
              go_wp2
              refine bodyPost_ret (v := .tuple #[.agg #[.slice none 0 0, .slice none 0 0], .bool false]) (by simp (maxDischargeDepth := 9) [results, Tryz.results20, go_sem, *]) rfl ⟨none, 0, none, 0, rfl, .inl ⟨rfl, rfl⟩, .inl ⟨rfl, rfl⟩, (fun _ _ e1 => by cases e1), ?_⟩
              (repeat (first | with_reducible exact Below.refl _ _ | with_reducible assumption | with_reducible refine Below.alloc' ?_ ?_ _ | with_reducible refine Below.setCell' ?_ ?_ _ | with_reducible refine Below.drewN' ?_ _ | with_reducible refine Below.drew ?_ | with_reducible refine Below.transA ?_ (by assumption) ?_ | omega | (focus (simp; done)) | (focus (simp; omega))))
      · have hwo : wOk x.data.toList = false := by
          cases e : wOk x.data.toList with
          | false => rfl
          | true => exact absurd (by unfold partsB; rw [List.length_map]; exact wOk_len e) hl2
        obtain rfl : b = false := HWd.out k x HX.out hwo
        have hln : (((partsB 58 x).length : Int) != 2) = true := by rw [bne_iff_ne]; omega
        clear hl2 hwo hO2 HX
        have hr0 := hRs.c0
        have hr1 := hRs.c1
        have hf0 := hRs.free 0
        have hf1 := hRs.free 1
        go_wp2
        refine bodyPost_ret (v := .tuple #[.agg #[.slice none 0 0, .slice none 0 0], .bool false]) (by simp (maxDischargeDepth := 9) [results, Tryz.results20, go_sem, *]) rfl ⟨none, 0, none, 0, rfl, .inl ⟨rfl, rfl⟩, .inl ⟨rfl, rfl⟩, (fun _ _ e1 => by cases e1), ?_⟩
        (repeat (first | with_reducible exact Below.refl _ _ | with_reducible assumption | with_reducible refine Below.alloc' ?_ ?_ _ | with_reducible refine Below.setCell' ?_ ?_ _ | with_reducible refine Below.drewN' ?_ _ | with_reducible refine Below.drew ?_ | with_reducible refine Below.transA ?_ (by assumption) ?_ | omega | (focus (simp; done)) | (focus (simp; omega))))
    · have hend := HEn.out k hk (by omega) HW.out
      have hRs := hRs0.below hw
      have hsm := p_small (L.take k)
      have hbx := pX_bd (L.take k)
      have hby := pY_bd (L.take k)
      have hfX := pX_len hk
      have hfY := pY_len hk
      have hXL : k = L.length → pX (L.take k) = pX L ∧ pY (L.take k) = pY L := fun e => by rw [e, List.take_length]; exact ⟨rfl, rfl⟩
      generalize pX (L.take k) = X at *
      generalize pY (L.take k) = Y at *
      obtain ⟨A1, c1, A2, c2, rfl, rfl, hO1, hO2, hap, -, -⟩ := h2.forms
      have hbl := h2.blk
      clear h2 HW
      cases hg : good X Y with
      | false =>
        obtain rfl : b = false := hend.1 hg
        have HG := Lib.hid (fun W (h : IntS W A1 X) (k : IntS W A2 Y) => l2Good_r hg A1 A2 c1 c2 W h k hbx hby (by omega) (by omega))
        have t0 := hbl.c0
        have t1 := hbl.c1
        clear hend hg hbx hby hsm hXL
        by_cases hkl : k < L.length
        · have i1 : (k : Int) < L.length := by omega
          have i2 : ¬ (k : Int) ≤ 24 := by omega
          clear hlt hfX hfY
          go_wp2_with fail
          refine (HG.out _ (hO1.ints.below (Below.refl _ _)) (hO2.ints.below (Below.refl _ _))).mono ?_
          rintro e5 w5 ⟨rfl, hb5⟩
          replace hRs := hRs.below hb5
          replace hw := keep_below hb5 hw
          replace hO1 := hO1.below hb5
          replace hO2 := hO2.below hb5
          replace hbl := hbl.below hb5
          clear HG t0 t1 hb5
          have hr0 := hRs.c0
          have hr1 := hRs.c1
          have hf0 := hRs.free 0
          have hf1 := hRs.free 1
          go_wp2
          refine bodyPost_ret (v := .tuple #[.agg #[.slice none 0 0, .slice none 0 0], .bool false]) (by simp (maxDischargeDepth := 9) [results, Tryz.results20, go_sem, *]) rfl ⟨none, 0, none, 0, rfl, .inl ⟨rfl, rfl⟩, .inl ⟨rfl, rfl⟩, (fun _ _ e1 => by cases e1), ?_⟩
          (repeat (first | with_reducible exact Below.refl _ _ | with_reducible assumption | with_reducible refine Below.alloc' ?_ ?_ _ | with_reducible refine Below.setCell' ?_ ?_ _ | with_reducible refine Below.drewN' ?_ _ | with_reducible refine Below.drew ?_ | with_reducible refine Below.transA ?_ (by assumption) ?_ | omega | (focus (simp; done)) | (focus (simp; omega))))
        · have i1 : ¬ (k : Int) < L.length := by omega
          clear hlt hfX hfY
          go_wp2_with fail
          refine (HG.out _ (hO1.ints.below (Below.refl _ _)) (hO2.ints.below (Below.refl _ _))).mono ?_
          rintro e5 w5 ⟨rfl, hb5⟩
          replace hRs := hRs.below hb5
          replace hw := keep_below hb5 hw
          replace hO1 := hO1.below hb5
          replace hO2 := hO2.below hb5
          replace hbl := hbl.below hb5
          clear HG t0 t1 hb5
          have hr0 := hRs.c0
          have hr1 := hRs.c1
          have hf0 := hRs.free 0
          have hf1 := hRs.free 1
          go_wp2
          refine bodyPost_ret (v := .tuple #[.agg #[.slice none 0 0, .slice none 0 0], .bool false]) (by simp (maxDischargeDepth := 9) [results, Tryz.results20, go_sem, *]) rfl ⟨none, 0, none, 0, rfl, .inl ⟨rfl, rfl⟩, .inl ⟨rfl, rfl⟩, (fun _ _ e1 => by cases e1), ?_⟩
          (repeat (first | with_reducible exact Below.refl _ _ | with_reducible assumption | with_reducible refine Below.alloc' ?_ ?_ _ | with_reducible refine Below.setCell' ?_ ?_ _ | with_reducible refine Below.drewN' ?_ _ | with_reducible refine Below.drew ?_ | with_reducible refine Below.transA ?_ (by assumption) ?_ | omega | (focus (simp; done)) | (focus (simp; omega))))
      | true =>
        obtain ⟨hkl, hiff⟩ := hend.2 hg
        obtain ⟨hX, hY⟩ := hXL hkl
        have HG := Lib.hid (fun W (h : IntS W A1 X) (k : IntS W A2 Y) => l2Good_r hg A1 A2 c1 c2 W h k hbx hby (by omega) (by omega))
        have hgl := good_len hg
        have HT := Lib.hid (fun W (h : IntS W A1 X) (k : IntS W A2 Y) => l2Text_any A1 A2 c1 c2 X Y W h k hgl.2.1 hgl.2.2 hsm)
        have i1 : ¬ (k : Int) < L.length := by omega
        have hcmp := bytes_eq (a := txB X Y) (b := s)
        have t0 := hbl.c0
        have t1 := hbl.c1
        have HXe := Lib.hid hX.symm
        have HYe := Lib.hid hY.symm
        clear hend hg hbx hby hsm hX hY hgl hfX hfY hlt hkl hXL
        generalize txB X Y = Z at *
        by_cases hZ : Z = s
        · obtain rfl : b = true := hiff.2 hZ
          replace hcmp := hcmp.trans (decide_eq_true hZ)
          clear hiff hZ
          go_wp2_with fail
          refine (HG.out _ (hO1.ints.below (Below.refl _ _)) (hO2.ints.below (Below.refl _ _))).mono ?_
          rintro e5 w5 ⟨rfl, hb5⟩
          replace hRs := hRs.below hb5
          replace hw := keep_below hb5 hw
          replace hO1 := hO1.below hb5
          replace hO2 := hO2.below hb5
          replace hbl := hbl.below hb5
          clear HG t0 t1 hb5
          have t0 := hbl.c0
          have t1 := hbl.c1
          go_wp2_with fail
          refine (HT.out _ hO1.ints hO2.ints).mono ?_
          rintro e6 w6 ⟨rfl, hb6⟩
          replace hRs := hRs.below hb6
          replace hw := keep_below hb6 hw
          replace hO1 := hO1.below hb6
          replace hO2 := hO2.below hb6
          replace hbl := hbl.below hb6
          clear HT t0 t1 hb6
          have t0 := hbl.c0
          have t1 := hbl.c1
          have hr0 := hRs.c0
          have hr1 := hRs.c1
          have hf0 := hRs.free 0
          have hf1 := hRs.free 1
          have hkb := ((KeptBut.refl2 w6 w.heap.size).setg 0 (.slice A1 X.length c1)).setg 1 (.slice A2 Y.length c2)
          have hO1' := hkb.own hO1 hwg hwg
          have hO2' := hkb.own hO2 hwg hwg
          clear hkb hO1 hO2
          go_wp2
          refine bodyPost_ret (v := .tuple #[.agg #[.slice A1 X.length c1, .slice A2 Y.length c2], .bool true]) (by simp (maxDischargeDepth := 9) [results, Tryz.results20, go_sem, *]) rfl ⟨A1, c1, A2, c2, by rw [HXe.out, HYe.out]; rfl, by rw [HXe.out]; exact hO1'.mono (Nat.le_of_lt hwg), by rw [HYe.out]; exact hO2'.mono (Nat.le_of_lt hwg), hap, ?_⟩
          (repeat (first | with_reducible exact Below.refl _ _ | with_reducible assumption | with_reducible refine Below.alloc' ?_ ?_ _ | with_reducible refine Below.setCell' ?_ ?_ _ | with_reducible refine Below.drewN' ?_ _ | with_reducible refine Below.drew ?_ | with_reducible refine Below.transA ?_ (by assumption) ?_ | omega | (focus (simp; done)) | (focus (simp; omega))))
        · have hbf : b = false := by cases b with | false => rfl | true => exact absurd (hiff.1 rfl) hZ
          subst hbf
          replace hcmp := hcmp.trans (decide_eq_false hZ)
          clear hiff hZ
          go_wp2_with fail
          refine (HG.out _ (hO1.ints.below (Below.refl _ _)) (hO2.ints.below (Below.refl _ _))).mono ?_
          rintro e5 w5 ⟨rfl, hb5⟩
          replace hRs := hRs.below hb5
          replace hw := keep_below hb5 hw
          replace hO1 := hO1.below hb5
          replace hO2 := hO2.below hb5
          replace hbl := hbl.below hb5
          clear HG t0 t1 hb5
          have t0 := hbl.c0
          have t1 := hbl.c1
          go_wp2_with fail
          refine (HT.out _ hO1.ints hO2.ints).mono ?_
          rintro e6 w6 ⟨rfl, hb6⟩
          replace hRs := hRs.below hb6
          replace hw := keep_below hb6 hw
          replace hO1 := hO1.below hb6
          replace hO2 := hO2.below hb6
          replace hbl := hbl.below hb6
          clear HT t0 t1 hb6
          have hr0 := hRs.c0
          have hr1 := hRs.c1
          have hf0 := hRs.free 0
          have hf1 := hRs.free 1
          go_wp2
          refine bodyPost_ret (v := .tuple #[.agg #[.slice none 0 0, .slice none 0 0], .bool false]) (by simp (maxDischargeDepth := 9) [results, Tryz.results20, go_sem, *]) rfl ⟨none, 0, none, 0, rfl, .inl ⟨rfl, rfl⟩, .inl ⟨rfl, rfl⟩, (fun _ _ e1 => by cases e1), ?_⟩
          (repeat (first | with_reducible exact Below.refl _ _ | with_reducible assumption | with_reducible refine Below.alloc' ?_ ?_ _ | with_reducible refine Below.setCell' ?_ ?_ _ | with_reducible refine Below.drewN' ?_ _ | with_reducible refine Below.drew ?_ | with_reducible refine Below.transA ?_ (by assumption) ?_ | omega | (focus (simp; done)) | (focus (simp; omega))))
end Go.Proofs.YtgccidkkfalaeaaGreatDoor
/- ParseTree: what the program's returns. -/
namespace Go.Proofs.YtgccidkkfalaeaaGreatDoor
open Go.ChangeShapes Go.WideShapes Go.ChangeAt Go.RowKit
open Go.ChangeMaps (open_string shut_string)

theorem own_none (w : World) (B : Nat) : w.ownsRow B 3 1 (.slice none 0 0) 0 [] := ⟨rfl, .inl ⟨rfl, rfl⟩⟩
theorem kept_put {w1 w w5 : World} {gT j : Nat} {row : Option Nat} {o : Obj} {v : Value} (hk : KeptBut w1 w gT gT) (hg : (w.alloc o).grownBy w5 row) (hr : ∀ g, row = some g → w1.heap.size ≤ g) : KeptBut w1 (w5.setCell ⟨gT, j, none⟩ v) gT gT := by
  have hs : w.heap.size ≤ w5.heap.size := Nat.le_trans (by simp) hg.size
  refine ⟨hg.os.trans hk.os, hg.tape.trans hk.tape, hg.output.trans hk.output, Nat.le_trans hk.size (by simpa [World.setCell] using hs), fun k hlt hp _ => ?_⟩
  have hkw := Nat.lt_of_lt_of_le hlt hk.size
  rw [Below.heap_setCell _ _ _ _ (show k ≠ gT from hp), hg.block k (Nat.lt_of_lt_of_le hkw (by simp)) (fun e => by have := hr k e.symm; omega), Below.heap_alloc w o k hkw]
  exact hk.block k hlt hp hp
theorem addr_addQ (g o j : Nat) : (⟨g, o, none⟩ : Addr).add j = ⟨g, o + j, none⟩ := by unfold Addr.add; split <;> simp_all
theorem kept_grown {w1 w w5 : World} {gT : Nat} {row : Option Nat} (hk : KeptBut w1 w gT gT) (hg : w.grownBy w5 row) (hr : ∀ g, row = some g → w1.heap.size ≤ g) : KeptBut w1 w5 gT gT :=
  ⟨hg.os.trans hk.os, hg.tape.trans hk.tape, hg.output.trans hk.output, Nat.le_trans hk.size hg.size, fun k hlt hp _ =>
    (hg.block k (Nat.lt_of_lt_of_le hlt hk.size) (fun e => by have := hr k e.symm; omega)).trans (hk.block k hlt hp hp)⟩
/-- A block that begins with v. -/
def NewsQ (w : World) (g : Nat) (v : Value) : Prop := ∀ j u, [v][j]? = some u → w.cell? ((⟨g, 0, none⟩ : Addr).add j) = some u
theorem NewsQ.below {w w' : World} {g : Nat} {v : Value} (h : NewsQ w g v) (hb : Below w.heap.size w w') : NewsQ w' g v := fun j u hj => keep_cell hb (h j u hj)
theorem NewsQ.grown {w w' : World} {g : Nat} {v : Value} {row : Option Nat} (h : NewsQ w g v) (hg : w.grownBy w' row) (hr : row ≠ some g) : NewsQ w' g v := fun j u hj => by
  have h1 := h j u hj
  rw [addr_addQ] at h1 ⊢
  exact grown_cell hg h1 hr
theorem new_apart {w : World} {B n gT : Nat} {v v' u : Value} {xs : List Value} {e : TypeId} {size : Nat} (hlt : gT < w.heap.size) (hv : v.ownBlock ≠ some gT) (hu : w.ownsRow B e size u n xs) (hap : ∀ g, v.ownBlock = some g → u.ownBlock ≠ some g) (hat : v'.ownBlock = v.ownBlock ∨ v'.ownBlock = some w.heap.size) : v'.ownBlock ≠ some gT ∧ ∀ g, v'.ownBlock = some g → u.ownBlock ≠ some g := by
  rcases hat with e | e
  · exact ⟨by rw [e]; exact hv, fun g hg => hap g (by rw [← e]; exact hg)⟩
  · refine ⟨by rw [e]; intro e2; injection e2 with e2; omega, fun g hg e2 => ?_⟩
    rw [e] at hg
    injection hg with hg
    have := (hu.lt g e2).2
    omega
theorem cut_two (x : ByteArray) (hx : x.size ≤ 1048576) (w : World) (hM : MaxC w) : Calls Tryz.prog 50 #[.string x, .string ⟨#[58]⟩] w fun e w' => ∃ v, e = .returned (.tuple #[.string (mkB (headL 58 x.data.toList)), .string (mkB (tailL 58 x.data.toList)), v]) ∧ Below w.heap.size w w' := by
  obtain ⟨m, hm⟩ := hM
  refine (Tryz.strings_Cut x ⟨#[58]⟩ m w (by omega) hm).mono ?_
  rintro e w' ⟨rfl, n, rfl⟩
  have e1 : (⟨(Lib.cut x.data.toList (⟨#[58]⟩ : ByteArray).data.toList).1.toArray⟩ : ByteArray) = mkB (headL 58 x.data.toList) := by
    show mkB _ = _
    rw [← cut_head]
  have e2 : (⟨(Lib.cut x.data.toList (⟨#[58]⟩ : ByteArray).data.toList).2.1.toArray⟩ : ByteArray) = mkB (tailL 58 x.data.toList) := by
    show mkB _ = _
    rw [← cut_tail]
  rw [e1, e2]
  exact ⟨_, rfl, drewN_below w n⟩
theorem split_words (s : ByteArray) (hs : s.size ≤ 1048576) (w : World) (hM : MaxC w) : Calls Tryz.prog 49 #[.string s, .string ⟨#[32]⟩] w (RetS w (partsB 32 s)) := by
  obtain ⟨m, hm⟩ := hM
  refine (Tryz.strings_Split s ⟨#[32]⟩ m w (by omega) hm (Nat.le_refl 1)).mono ?_
  rintro e w' ⟨rfl, rfl⟩
  refine ⟨some ⟨w.heap.size, 0, none⟩, (partsB 32 s).length, by rw [countB_parts], .inr ⟨w.heap.size, rfl, Nat.le_refl _, _, heap_alloc_new w _, [], ?_⟩, by (repeat (first | with_reducible exact Below.refl _ _ | with_reducible assumption | with_reducible refine Below.alloc' ?_ ?_ _ | with_reducible refine Below.setCell' ?_ ?_ _ | with_reducible refine Below.drewN' ?_ _ | with_reducible refine Below.drew ?_ | with_reducible refine Below.transA ?_ (by assumption) ?_ | omega | (focus (simp; done)) | (focus (simp; omega))))⟩
  rw [splitB_parts]
  simp [strs]

set_option maxHeartbeats 8000000 in
set_option maxRecDepth 100000 in
theorem implParseTree_any (s : ByteArray) (w : World) (hs : s.size ≤ 1048576) (b : Bool) (hb : b = true ↔ ptOk s) (hT : TabE w) (hC : SynC w) (hM : MaxC w) :
    Calls Tryz.prog 19 #[.string s] w (RetTB w (prPick b (ptX s)) (prPick b (ptY s)) b) := by
  obtain ⟨i0, hi, hz0, hz1, hz2⟩ := infoI_parts
  obtain ⟨L, hL⟩ : ∃ L, L = partsB 32 s := ⟨_, rfl⟩
  have HS := Lib.hid (fun w => split_words s hs w)
  have HWd := Lib.hid (fun (k : Nat) (x : ByteArray) (hx : (partsB 32 s)[k]? = some x) (h : wOk x.data.toList = false) => pt_word hb hx h)
  have HEn := Lib.hid (fun (k : Nat) (hk : k ≤ (partsB 32 s).length) (hk2 : k = (partsB 32 s).length ∨ k = 25) (hw : WOk (partsB 32 s) k) => pt_end hb hk hk2 hw)
  have HLong : Hid (24 < (partsB 32 s).length → b = false) := fun h => by
    cases b with
    | false => rfl
    | true => have := ptOk_len (hb.1 rfl); omega
  have HSz : Hid (∀ (k : Nat) (x : ByteArray), (partsB 32 s)[k]? = some x → x.size ≤ 1048576) := fun k x hx => Nat.le_trans (parts_small 32 s x (List.mem_of_getElem? hx)) hs
  have hL1 : 0 < (partsB 32 s).length := by rw [countB_parts]; omega
  have HTw := Lib.hid (fun W (h : Below w.heap.size w W) => hT.below h)
  have HCw := Lib.hid (fun W (h : Below w.heap.size w W) => hC.below h)
  have HMw := Lib.hid (fun W (h : Below w.heap.size w W) => hM.below h)
  have hR : RetTB w (prPick b (ptX s)) (prPick b (ptY s)) b = RetTB w (prPick b (pX L)) (prPick b (pY L)) b := by rw [hL]; rfl
  rw [← hL] at HS HWd HEn HSz hL1 HLong
  rw [hR]
  clear hb hL hR hT hC hM
  have hMA := HMw.out ((w.alloc (.cells #[.slice none 0 0, .slice none 0 0] 26)).alloc (.cells #[.slice none 0 0, .slice none 0 0] 26)) (by (repeat (first | with_reducible exact Below.refl _ _ | with_reducible assumption | with_reducible refine Below.alloc' ?_ ?_ _ | with_reducible refine Below.setCell' ?_ ?_ _ | with_reducible refine Below.drewN' ?_ _ | with_reducible refine Below.drew ?_ | with_reducible refine Below.transA ?_ (by assumption) ?_ | omega | (focus (simp; done)) | (focus (simp; omega)))))
  go_enter Tryz.func19, Tryz.ntmps19
  go_wp2_with fail
  refine (HS.out _ hMA).mono ?_
  rintro e1 w1 ⟨A, c, rfl, hO, hb1⟩
  obtain ⟨gT, hgT⟩ : ∃ g, g = w.heap.size + 1 := ⟨_, rfl⟩
  have hb0 : Below (w.alloc (.cells #[.slice none 0 0, .slice none 0 0] 26)).heap.size (w.alloc (.cells #[.slice none 0 0, .slice none 0 0] 26)) ((w.alloc (.cells #[.slice none 0 0, .slice none 0 0] 26)).alloc (.cells #[.slice none 0 0, .slice none 0 0] 26)) := (Below.refl _ _).alloc (Nat.le_refl _) _
  have hRs0 : BlkT w1 w.heap.size (.slice none 0 0) (.slice none 0 0) := ((BlkT.new w _ _ rfl).below hb0).below hb1
  have hTb : BlkT w1 gT (.slice none 0 0) (.slice none 0 0) := (BlkT.new (w.alloc _) _ _ (by rw [hgT]; simp)).below hb1
  have hw : Below w.heap.size w w1 := Below.trans (by (repeat (first | with_reducible exact Below.refl _ _ | with_reducible assumption | with_reducible refine Below.alloc' ?_ ?_ _ | with_reducible refine Below.setCell' ?_ ?_ _ | with_reducible refine Below.drewN' ?_ _ | with_reducible refine Below.drew ?_ | with_reducible refine Below.transA ?_ (by assumption) ?_ | omega | (focus (simp; done)) | (focus (simp; omega))))) (hb1.mono (by simp; omega))
  obtain ⟨gA, rfl, hgA, hrA⟩ := hO.pos hL1
  have hgA2 : gA < w1.heap.size := hrA.lt
  have hneA : gA ≠ gT := by simp at hgA; omega
  have hneR : w.heap.size ≠ gT := by omega
  have hwg := hRs0.lt
  have hwT : w.heap.size ≤ gT := by omega
  have HC : Hid (∀ (k : Nat) (x : ByteArray), L[k]? = some x → w1.cell? ⟨gA, k, none⟩ = some (.string x)) := fun k x hx => hrA.cell hx
  have h2 : Two w1 w1.heap.size gT (.slice none 0 0) (.slice none 0 0) 0 0 [] [] := ⟨hTb, own_none _ _, own_none _ _, by simp [Value.ownBlock], by simp [Value.ownBlock], by simp [Value.ownBlock]⟩
  clear hO hb1 hb0 hrA hTb
  go_wp2
  rw [← hgT]
  clear hgT hgA
  go_loopw [6, 7, 8, 9, 10, 11, 12, 13, 18] (fun _ _ _ _ _ _ _ _ i wr => ∃ (k : Nat) (va vb : Value), k ≤ L.length ∧ k ≤ 24 ∧ i = .int .i64 (k : Int) ∧ Hid (WOk L k) ∧ Two wr w1.heap.size gT va vb k k (pX (L.take k)) (pY (L.take k)) ∧ KeptBut w1 wr gT gT) (fun _ _ _ _ _ _ _ _ i _ => L.length - (intOf i).toNat)
  case atStart => exact ⟨0, _, _, Nat.zero_le _, by omega, rfl, Lib.hid (fun j x _ hj => by omega), h2, KeptBut.refl2 _ _⟩
  case round =>
    clear h2
    obtain ⟨k, va, vb, hk, hk24, rfl, HW, h2, hkb⟩ := hrel
    have hRs : BlkT wr w.heap.size (.slice none 0 0) (.slice none 0 0) := (hkb.block _ hwg hneR hneR).trans hRs0
    replace hw := hkb.below hw hwT hwT
    by_cases hlt : k < L.length
    · obtain ⟨x, hx⟩ : ∃ x, L[k]? = some x := ⟨_, List.getElem?_eq_getElem hlt⟩
      have hc := hkb.cell (HC.out k _ hx) hneA hneA
      have hxz := HSz.out k _ hx
      have HX := Lib.hid hx
      have i0' : (0 : Int) ≤ (k : Int) := by omega
      have i1 : (k : Int) < (L.length : Int) := by omega
      have hMr := HMw.out _ hw
      have hCt := cut_two x hxz wr hMr
      have hq1z : (mkB (headL 58 x.data.toList)).size ≤ 1048576 := by rw [mkB_size]; have := head_le 58 x.data.toList; rw [← Lib.size_eq] at this; omega
      have hq2z : (mkB (tailL 58 x.data.toList)).size ≤ 1048576 := by rw [mkB_size]; have := tail_le 58 x.data.toList; rw [← Lib.size_eq] at this; omega
      have HR1 := Lib.hid (fun w (h : TabE w) (k : SynC w) => implParse_any _ w hq1z h k)
      have HR2 := Lib.hid (fun w (h : TabE w) (k : SynC w) => implParse_any _ w hq2z h k)
      rw [rdV_mk] at HR1 HR2
      have hwx : (rdL (headL 58 x.data.toList)).getD 0 = wX x.data.toList := rfl
      have hwy : (rdL (tailL 58 x.data.toList)).getD 0 = wY x.data.toList := rfl
      rw [hwx] at HR1
      rw [hwy] at HR2
      have HWO := Lib.hid (wOk_eq x.data.toList)
      have HNX := Lib.hid (pX_next HX.out)
      have HNY := Lib.hid (pY_next HX.out)
      clear hx hlt hxz hwx hwy hq1z hq2z hMr
      generalize mkB (headL 58 x.data.toList) = q1 at *
      generalize mkB (tailL 58 x.data.toList) = q2 at *
      generalize wX x.data.toList = xv at *
      generalize wY x.data.toList = yv at *
      generalize (rdL (headL 58 x.data.toList)).isSome = b1 at *
      generalize (rdL (tailL 58 x.data.toList)).isSome = b2 at *
      go_wp2_with fail
      refine hCt.mono ?_
      rintro e2 w2 ⟨fv, rfl, hb2⟩
      replace h2 := h2.below hb2
      replace hRs := hRs.below hb2
      replace hw := keep_below hb2 hw
      replace hkb := hkb.post hb2
      clear hb2 hc hCt
      have hT2 := HTw.out _ hw
      have hC2 := HCw.out _ hw
      go_wp2_with fail
      refine (HR1.out _ hT2 hC2).mono ?_
      rintro e3 w3 ⟨rfl, hb3⟩
      replace h2 := h2.below hb3
      replace hRs := hRs.below hb3
      replace hw := keep_below hb3 hw
      replace hkb := hkb.post hb3
      clear hb3 HR1 hT2 hC2
      have hT2 := HTw.out _ hw
      have hC2 := HCw.out _ hw
      go_wp2_with fail
      refine (HR2.out _ hT2 hC2).mono ?_
      rintro e4 w4 ⟨rfl, hb4⟩
      replace h2 := h2.below hb4
      replace hRs := hRs.below hb4
      replace hw := keep_below hb4 hw
      replace hkb := hkb.post hb4
      clear hb4 HR2 hT2 hC2
      have hbx : (b1 && b2) = false → b = false := fun e => HWd.out k x HX.out (by rw [HWO.out, e])
      obtain ⟨A0, c0, rfl⟩ := own_slice h2.own0
      obtain ⟨A1, c1, rfl⟩ := own_slice h2.own1
      have t0 := h2.blk.c0
      have t1 := h2.blk.c1
      cases b1 <;> cases b2
      case true.true =>
        clear hbx
        by_cases hk4 : k = 24
        · obtain rfl : b = false := HLong.out (by omega)
          have hk5 : ((k : Int) == 24) = true := by rw [beq_iff_eq]; omega
          clear hk4
          have hr0 := hRs.c0
          have hr1 := hRs.c1
          have hf0 := hRs.free 0
          have hf1 := hRs.free 1
          go_wp2
          refine bodyPost_ret (v := .tuple #[.agg #[.slice none 0 0, .slice none 0 0], .bool false]) (by simp (maxDischargeDepth := 9) [results, Tryz.results19, go_sem, *]) rfl ⟨none, 0, none, 0, rfl, .inl ⟨rfl, rfl⟩, .inl ⟨rfl, rfl⟩, (fun _ _ e1 => by cases e1), ?_⟩
          (repeat (first | with_reducible exact Below.refl _ _ | with_reducible assumption | with_reducible refine Below.alloc' ?_ ?_ _ | with_reducible refine Below.setCell' ?_ ?_ _ | with_reducible refine Below.drewN' ?_ _ | with_reducible refine Below.drew ?_ | with_reducible refine Below.transA ?_ (by assumption) ?_ | omega | (focus (simp; done)) | (focus (simp; omega))))
        · have hk5 : ((k : Int) == 24) = false := by rw [beq_eq_false_iff_ne]; omega
          go_upto_region 10 with (fail)
          have hbl := h2.blk
          have ho0 := h2.own0
          have ho1 := h2.own1
          have hne0 := h2.ne0
          have hne1 := h2.ne1
          have hap := h2.ap
          have hwle : w.heap.size ≤ w1.heap.size := Nat.le_of_lt hwg
          have hnil : k ≠ 24 := hk4
          clear h2 hRs hk4
          refine wp_region_J (S := fun w' => w'.cell? ⟨gT, 0, none⟩ = some (.slice A0 k c0) ∧ w'.cell? ⟨gT, 1, none⟩ = some (.slice A1 k c1) ∧ Below w.heap.size w w') (fun j => j == 1 || j == 3 || j == 4 || j == 6 || j == 8 || j == 9) (by kernel_rfl) ⟨t0, t1, hw.drew⟩ (fun hHeld => ?_)
          refine wpAnyJ_pure (i := 0) (oi := ?oo1) (v := ?vv1) ?hi1 (by kernel_rfl) (by kernel_rfl) (by kernel_rfl) (by rfl) ?hq1 (Or.inl ⟨?hg1, ?hy1⟩) ?rest1
          case hi1 => simp only [List.getElem?_toArray, List.getElem?_cons_zero]; rfl
          case hq1 => exact fun _ _ _ h => h
          case hg1 => rfl
          case hy1 =>
            intro wq _
            go_simp
            (try with_reducible rfl)
          (try simp only [Act.put, List.setIfInBounds_toArray, List.set_cons_zero, List.set_cons_succ])
          refine wpAnyJ_pure (i := 2) (oi := ?oo2) (v := ?vv2) ?hi2 (by kernel_rfl) (by kernel_rfl) (by kernel_rfl) (by rfl) ?hq2 (Or.inl ⟨?hg2, ?hy2⟩) ?rest2
          case hi2 => simp only [List.getElem?_toArray, List.getElem?_cons_zero, List.getElem?_cons_succ]; rfl
          case hq2 => exact fun _ _ _ h => h
          case hg2 => rfl
          case hy2 =>
            intro wq _
            go_simp
            (try with_reducible rfl)
          (try simp only [Act.put, List.setIfInBounds_toArray, List.set_cons_zero, List.set_cons_succ])
          refine wpAnyJ_pure (i := 5) (oi := ?oo3) (v := ?vv3) ?hi3 (by kernel_rfl) (by kernel_rfl) (by kernel_rfl) (by rfl) ?hq3 (Or.inl ⟨?hg3, ?hy3⟩) ?rest3
          case hi3 => simp only [List.getElem?_toArray, List.getElem?_cons_zero, List.getElem?_cons_succ]; rfl
          case hq3 => exact fun _ _ _ h => h
          case hg3 => rfl
          case hy3 =>
            intro wq _
            go_simp
            (try with_reducible rfl)
          (try simp only [Act.put, List.setIfInBounds_toArray, List.set_cons_zero, List.set_cons_succ])
          refine wpAnyJ_pure (i := 7) (oi := ?oo4) (v := ?vv4) ?hi4 (by kernel_rfl) (by kernel_rfl) (by kernel_rfl) (by rfl) ?hq4 (Or.inl ⟨?hg4, ?hy4⟩) ?rest4
          case hi4 => simp only [List.getElem?_toArray, List.getElem?_cons_zero, List.getElem?_cons_succ]; rfl
          case hq4 => exact fun _ _ _ h => h
          case hg4 => rfl
          case hy4 =>
            intro wq _
            go_simp
            (try with_reducible rfl)
          (try simp only [Act.put, List.setIfInBounds_toArray, List.set_cons_zero, List.set_cons_succ])
          refine wpAnyJ_take (i := 1) (oi := ?oo5) (v := ?vv5) ?hi5 (by kernel_rfl) (by kernel_rfl) (by kernel_rfl) (by kernel_rfl) ?hq5 (Or.inl ⟨?hg5, ?hy5⟩) (by assumption) ?rest5
          case hi5 => simp only [List.getElem?_toArray, List.getElem?_cons_zero, List.getElem?_cons_succ]; rfl
          case hq5 => exact fun _ _ _ h => h
          case hg5 => rfl
          case hy5 =>
            intro wq hSw
            obtain ⟨t0, t1, hw⟩ := hSw
            go_simp
            (try with_reducible rfl)
          (try simp only [Act.put, List.setIfInBounds_toArray, List.set_cons_zero, List.set_cons_succ])
          refine wpAnyJ_take (i := 6) (oi := ?oo6) (v := ?vv6) ?hi6 (by kernel_rfl) (by kernel_rfl) (by kernel_rfl) (by kernel_rfl) ?hq6 (Or.inl ⟨?hg6, ?hy6⟩) (by assumption) ?rest6
          case hi6 => simp only [List.getElem?_toArray, List.getElem?_cons_zero, List.getElem?_cons_succ]; rfl
          case hq6 => exact fun _ _ _ h => h
          case hg6 => rfl
          case hy6 =>
            intro wq hSw
            obtain ⟨t0, t1, hw⟩ := hSw
            go_simp
            (try with_reducible rfl)
          (try simp only [Act.put, List.setIfInBounds_toArray, List.set_cons_zero, List.set_cons_succ])
          refine wpAnyJ_ready (rs := [3, 8]) (by kernel_rfl) (by simp) ?_
          refine AllReadyJ.cons (i := 3) (o := ?oo7) ?ho7 (fun K9 hK9 => ?hstep7) ?more7
          case ho7 => simp only [List.getElem?_toArray, List.getElem?_cons_zero, List.getElem?_cons_succ]; rfl
          case hstep7 =>
            go_simp
            clear hHeld
            refine hK9.out _ _ ⟨keep_cell (Below.drew ((Below.refl w4.heap.size w4).alloc (Nat.le_refl _) _)) t0, keep_cell (Below.drew ((Below.refl w4.heap.size w4).alloc (Nat.le_refl _) _)) t1, Below.drew (keep_below_alloc hw _)⟩ (fun hHeld => ?_)
            clear hK9 K9
            (try simp only [Act.put, List.setIfInBounds_toArray, List.set_cons_zero, List.set_cons_succ])
            refine wpAnyJ_name hHeld (fun wa7 hHa hwz => ?_)
            have hbA : Below w4.heap.size w4 wa7 := by rw [hwz]; exact Below.drew ((Below.refl w4.heap.size w4).alloc (Nat.le_refl _) _)
            have hn3 : NewsQ wa7 w4.heap.size (.int .i64 xv) := by rw [hwz]; exact World.news_of_block (cs := #[.int .i64 xv]) (t := 3) (fr := (0, 0)) (heap_alloc_new _ _)
            have hns3 : w4.heap.size = w4.heap.size := rfl
            have hnv3 : (Value.slice A0 k c0).ownBlock ≠ some w4.heap.size ∧ (Value.slice A1 k c1).ownBlock ≠ some w4.heap.size := ⟨fun e => by have := (ho0.lt _ e).2; omega, fun e => by have := (ho1.lt _ e).2; omega⟩
            replace t0 := keep_cell hbA t0
            replace t1 := keep_cell hbA t1
            replace hbl := hbl.below hbA
            replace ho0 := own_below ho0 hbA
            replace ho1 := own_below ho1 hbA
            replace hkb := hkb.post hbA
            replace hw := keep_below hbA hw
            have hsz3 := hns3
            generalize w4.heap.size = g3 at hn3 hns3 hsz3 hnv3 ⊢
            clear hHeld hbA hwz
            have hHeld := hHa
            clear hHa
            refine wpAnyJ_ready (rs := [4, 8]) (by kernel_rfl) (by simp) ?_
            refine AllReadyJ.cons (i := 4) (o := ?oo8) ?ho8 (fun K9 hK9 => ?hstep8) ?more8
            case ho8 => simp only [List.getElem?_toArray, List.getElem?_cons_zero, List.getElem?_cons_succ]; rfl
            case hstep8 =>
              clear hHeld
              refine step_append_elder _ (by rfl) _ _ 24 (by rfl) w1.heap.size 3 i0 (.int .i64 0) 1 8 Tryz.underlying24 hi hz0 hz1 hz2 rfl (by decide) _ _ _ (by rfl) ho0 ⟨g3, 0, none⟩ 1 1 [.int .i64 xv] (by rfl) rfl hn3 (by simp [Value.oneCell']) (by unfold maxLen; omega) (by omega) hkb.size ?_
              intro v5 wp8 hown5 hg5 hat5 _
              obtain ⟨Av5, cv5, rfl⟩ := own_slice hown5
              have hv5 := new_apart hbl.lt hne0 ho1 hap hat5
              have hr5 : ∀ g, (Value.slice A0 k c0).ownBlock = some g → w1.heap.size ≤ g := fun g e => (ho0.lt g e).1
              replace t0 := grown_cell hg5 t0 hne0
              replace t1 := grown_cell hg5 t1 hne0
              replace hbl := hbl.grown hg5 hne0
              replace ho1 := own_keptv ho1 hg5 (fun g e e2 => hap g e2 e)
              replace hw := Below.grown hw hg5 hw.size (fun g e => Nat.le_trans hwle (hr5 g e))
              replace hkb := kept_grown hkb hg5 hr5
              clear ho0 hn3 hr5 hg5 hat5
              refine hK9.out _ _ ⟨t0, t1, hw⟩ (fun hHeld => ?_)
              clear hK9 K9
              (try simp only [Act.put, List.setIfInBounds_toArray, List.set_cons_zero, List.set_cons_succ])
              refine wpAnyJ_pure (i := 10) (oi := ?oo9) (v := ?vv9) ?hi9 (by kernel_rfl) (by kernel_rfl) (by kernel_rfl) (by rfl) ?hq9 (Or.inl ⟨?hg9, ?hy9⟩) ?rest9
              case hi9 => simp only [List.getElem?_toArray, List.getElem?_cons_zero, List.getElem?_cons_succ]; rfl
              case hq9 => exact fun _ _ _ h => h
              case hg9 => rfl
              case hy9 =>
                intro wq _
                go_simp
                (try with_reducible rfl)
              (try simp only [Act.put, List.setIfInBounds_toArray, List.set_cons_zero, List.set_cons_succ])
              refine wpAnyJ_ready (rs := [8]) (by kernel_rfl) (by simp) ?_
              refine AllReadyJ.cons (i := 8) (o := ?oo10) ?ho10 (fun K9 hK9 => ?hstep10) AllReadyJ.nil
              case ho10 => simp only [List.getElem?_toArray, List.getElem?_cons_zero, List.getElem?_cons_succ]; rfl
              go_simp
              clear hHeld
              refine hK9.out _ _ ⟨keep_cell ((Below.refl wp8.heap.size wp8).alloc (Nat.le_refl _) _) t0, keep_cell ((Below.refl wp8.heap.size wp8).alloc (Nat.le_refl _) _) t1, keep_below_alloc hw _⟩ (fun hHeld => ?_)
              clear hK9 K9
              (try simp only [Act.put, List.setIfInBounds_toArray, List.set_cons_zero, List.set_cons_succ])
              refine wpAnyJ_name hHeld (fun wa10 hHa hwz => ?_)
              have hbA : Below wp8.heap.size wp8 wa10 := by rw [hwz]; exact (Below.refl wp8.heap.size wp8).alloc (Nat.le_refl _) _
              have hn8 : NewsQ wa10 wp8.heap.size (.int .i64 yv) := by rw [hwz]; exact World.news_of_block (cs := #[.int .i64 yv]) (t := 3) (fr := (0, 0)) (heap_alloc_new _ _)
              have hns8 : wp8.heap.size = wp8.heap.size := rfl
              have hnv8 : True ∧ (Value.slice A1 k c1).ownBlock ≠ some wp8.heap.size := ⟨trivial, fun e => by have := (ho1.lt _ e).2; omega⟩
              replace t0 := keep_cell hbA t0
              replace t1 := keep_cell hbA t1
              replace hbl := hbl.below hbA
              replace ho1 := own_below ho1 hbA
              replace hkb := hkb.post hbA
              replace hown5 := own_below hown5 hbA
              replace hw := keep_below hbA hw
              have hsz8 := hns8
              generalize wp8.heap.size = g8 at hn8 hns8 hsz8 hnv8 ⊢
              clear hHeld hbA hwz
              have hHeld := hHa
              clear hHa
              refine wpAnyJ_ready (rs := [9]) (by kernel_rfl) (by simp) ?_
              refine AllReadyJ.cons (i := 9) (o := ?oo11) ?ho11 (fun K9 hK9 => ?hstep11) AllReadyJ.nil
              case ho11 => simp only [List.getElem?_toArray, List.getElem?_cons_zero, List.getElem?_cons_succ]; rfl
              clear hHeld
              refine step_append_elder _ (by rfl) _ _ 24 (by rfl) w1.heap.size 3 i0 (.int .i64 0) 1 8 Tryz.underlying24 hi hz0 hz1 hz2 rfl (by decide) _ _ _ (by rfl) ho1 ⟨g8, 0, none⟩ 1 1 [.int .i64 yv] (by rfl) rfl hn8 (by simp [Value.oneCell']) (by unfold maxLen; omega) (by omega) hkb.size ?_
              intro v7 wp11 hown7 hg7 hat7 _
              obtain ⟨Av7, cv7, rfl⟩ := own_slice hown7
              have hv7 : (Value.slice Av7 (k + 1) cv7).ownBlock ≠ some gT ∧ ∀ g, (Value.slice Av5 (k + 1) cv5).ownBlock = some g → (Value.slice Av7 (k + 1) cv7).ownBlock ≠ some g := by
                have h := new_apart hbl.lt hne1 hown5 (fun g e e2 => hv5.2 g e2 e) hat7
                exact ⟨h.1, fun g e e2 => h.2 g e2 e⟩
              have hr7 : ∀ g, (Value.slice A1 k c1).ownBlock = some g → w1.heap.size ≤ g := fun g e => (ho1.lt g e).1
              replace t0 := grown_cell hg7 t0 hne1
              replace t1 := grown_cell hg7 t1 hne1
              replace hbl := hbl.grown hg7 hne1
              replace hown5 := own_keptv hown5 hg7 (fun g e e2 => hv5.2 g e e2)
              replace hw := Below.grown hw hg7 hw.size (fun g e => Nat.le_trans hwle (hr7 g e))
              replace hkb := kept_grown hkb hg7 hr7
              clear ho1 hn8 hr7 hg7 hat7
              refine hK9.out _ _ ⟨t0, t1, hw⟩ (fun hHeld => ?_)
              clear hK9 K9
              (try simp only [Act.put, List.setIfInBounds_toArray, List.set_cons_zero, List.set_cons_succ])
              refine wpAnyJ_ready (rs := [11]) (by kernel_rfl) (by simp) ?_
              refine AllReadyJ.free (i := 11) (o := ?oo12) ?ho12 (by rfl) (fun K9 hK9 => ?hstep12) AllReadyJ.nil
              case ho12 => simp only [List.getElem?_toArray, List.getElem?_cons_zero, List.getElem?_cons_succ]; rfl
              have hff := hbl.free 0
              go_simp
              refine hK9.out _ _ trivial (fun _ => ?_)
              clear hK9 K9
              (try simp only [Act.put, List.setIfInBounds_toArray, List.set_cons_zero, List.set_cons_succ])
              refine wpAnyJ_call (fun wv12 hwz => ?_)
              replace hbl := hbl.set0 (Value.slice Av5 (k + 1) cv5)
              replace hown5 := own_keptv hown5 (grown_set1 _ gT 0 (Value.slice Av5 (k + 1) cv5)) (fun g e e2 => hv5.1 (by rw [e, ← e2]))
              replace hown7 := own_keptv hown7 (grown_set1 _ gT 0 (Value.slice Av5 (k + 1) cv5)) (fun g e e2 => hv7.1 (by rw [e, ← e2]))
              replace hkb := hkb.setg 0 (Value.slice Av5 (k + 1) cv5)
              replace hw := Below.setCell' (p := ⟨gT, 0, none⟩) hwT hw (Value.slice Av5 (k + 1) cv5)
              rw [← hwz] at hbl hown5 hown7 hkb hw
              clear t0 t1 hff
              have t0 := hbl.c0
              have t1 := hbl.c1
              clear hwz
              refine wpAnyJ_pure (i := 12) (oi := ?oo13) (v := ?vv13) ?hi13 (by kernel_rfl) (by kernel_rfl) (by kernel_rfl) (by rfl) ?hq13 (Or.inl ⟨?hg13, ?hy13⟩) ?rest13
              case hi13 => simp only [List.getElem?_toArray, List.getElem?_cons_zero, List.getElem?_cons_succ]; rfl
              case hq13 => exact fun _ _ _ h => h
              case hg13 => rfl
              case hy13 =>
                intro wq _
                go_simp
                (try with_reducible rfl)
              (try simp only [Act.put, List.setIfInBounds_toArray, List.set_cons_zero, List.set_cons_succ])
              refine wpAnyJ_ready (rs := [13]) (by kernel_rfl) (by simp) ?_
              refine AllReadyJ.free (i := 13) (o := ?oo14) ?ho14 (by rfl) (fun K9 hK9 => ?hstep14) AllReadyJ.nil
              case ho14 => simp only [List.getElem?_toArray, List.getElem?_cons_zero, List.getElem?_cons_succ]; rfl
              have hff := hbl.free 1
              go_simp
              refine hK9.out _ _ trivial (fun _ => ?_)
              clear hK9 K9
              (try simp only [Act.put, List.setIfInBounds_toArray, List.set_cons_zero, List.set_cons_succ])
              refine wpAnyJ_call (fun wv14 hwz => ?_)
              replace hbl := hbl.set1 (Value.slice Av7 (k + 1) cv7)
              replace hown5 := own_keptv hown5 (grown_set1 _ gT 1 (Value.slice Av7 (k + 1) cv7)) (fun g e e2 => hv5.1 (by rw [e, ← e2]))
              replace hown7 := own_keptv hown7 (grown_set1 _ gT 1 (Value.slice Av7 (k + 1) cv7)) (fun g e e2 => hv7.1 (by rw [e, ← e2]))
              replace hkb := hkb.setg 1 (Value.slice Av7 (k + 1) cv7)
              replace hw := Below.setCell' (p := ⟨gT, 1, none⟩) hwT hw (Value.slice Av7 (k + 1) cv7)
              rw [← hwz] at hbl hown5 hown7 hkb hw
              clear t0 t1 hff
              have t0 := hbl.c0
              have t1 := hbl.c1
              clear hwz
              clear hHeld
              refine wpAnyJ_done (by kernel_rfl) ?_ _
              have h4 : Two wv14 w1.heap.size gT (Value.slice Av5 (k + 1) cv5) (Value.slice Av7 (k + 1) cv7) (k + 1) (k + 1) (pX (L.take (k + 1))) (pY (L.take (k + 1))) := ⟨hbl, by rw [HNX.out, i64s_app]; exact hown5, by rw [HNY.out, i64s_app]; exact hown7, hv5.1, hv7.1, hv7.2⟩
              have hwo : wOk x.data.toList = true := by rw [HWO.out]; rfl
              have HW2 := Lib.hid (HW.out.next HX.out hwo)
              clear hbl hown5 hown7 t0 t1 hwo
              go_wp2
              go_roundw
              case rel => exact ⟨k + 1, _, _, by omega, by omega, by go_num, HW2, h4, hkb⟩
              case measure => simp [intOf]; omega
            refine AllReadyJ.cons (i := 8) (o := ?oo15) ?ho15 (fun K9 hK9 => ?hstep15) ?more15
            case ho15 => simp only [List.getElem?_toArray, List.getElem?_cons_zero, List.getElem?_cons_succ]; rfl
            case hstep15 =>
              go_simp
              clear hHeld
              refine hK9.out _ _ ⟨keep_cell ((Below.refl wa7.heap.size wa7).alloc (Nat.le_refl _) _) t0, keep_cell ((Below.refl wa7.heap.size wa7).alloc (Nat.le_refl _) _) t1, keep_below_alloc hw _⟩ (fun hHeld => ?_)
              clear hK9 K9
              (try simp only [Act.put, List.setIfInBounds_toArray, List.set_cons_zero, List.set_cons_succ])
              refine wpAnyJ_name hHeld (fun wa15 hHa hwz => ?_)
              have hbA : Below wa7.heap.size wa7 wa15 := by rw [hwz]; exact (Below.refl wa7.heap.size wa7).alloc (Nat.le_refl _) _
              have hn8 : NewsQ wa15 wa7.heap.size (.int .i64 yv) := by rw [hwz]; exact World.news_of_block (cs := #[.int .i64 yv]) (t := 3) (fr := (0, 0)) (heap_alloc_new _ _)
              have hns8 : wa7.heap.size = wa7.heap.size := rfl
              have hnv8 : (Value.slice A0 k c0).ownBlock ≠ some wa7.heap.size ∧ (Value.slice A1 k c1).ownBlock ≠ some wa7.heap.size := ⟨fun e => by have := (ho0.lt _ e).2; omega, fun e => by have := (ho1.lt _ e).2; omega⟩
              replace t0 := keep_cell hbA t0
              replace t1 := keep_cell hbA t1
              replace hbl := hbl.below hbA
              replace ho0 := own_below ho0 hbA
              replace ho1 := own_below ho1 hbA
              replace hkb := hkb.post hbA
              replace hn3 := hn3.below hbA
              replace hw := keep_below hbA hw
              have hsz8 := hns8
              generalize wa7.heap.size = g8 at hn8 hns8 hsz8 hnv8 ⊢
              clear hHeld hbA hwz
              have hHeld := hHa
              clear hHa
              refine wpAnyJ_ready (rs := [4]) (by kernel_rfl) (by simp) ?_
              refine AllReadyJ.cons (i := 4) (o := ?oo16) ?ho16 (fun K9 hK9 => ?hstep16) AllReadyJ.nil
              case ho16 => simp only [List.getElem?_toArray, List.getElem?_cons_zero, List.getElem?_cons_succ]; rfl
              clear hHeld
              refine step_append_elder _ (by rfl) _ _ 24 (by rfl) w1.heap.size 3 i0 (.int .i64 0) 1 8 Tryz.underlying24 hi hz0 hz1 hz2 rfl (by decide) _ _ _ (by rfl) ho0 ⟨g3, 0, none⟩ 1 1 [.int .i64 xv] (by rfl) rfl hn3 (by simp [Value.oneCell']) (by unfold maxLen; omega) (by omega) hkb.size ?_
              intro v5 wp16 hown5 hg5 hat5 _
              obtain ⟨Av5, cv5, rfl⟩ := own_slice hown5
              have hv5 := new_apart hbl.lt hne0 ho1 hap hat5
              have hr5 : ∀ g, (Value.slice A0 k c0).ownBlock = some g → w1.heap.size ≤ g := fun g e => (ho0.lt g e).1
              replace t0 := grown_cell hg5 t0 hne0
              replace t1 := grown_cell hg5 t1 hne0
              replace hbl := hbl.grown hg5 hne0
              replace ho1 := own_keptv ho1 hg5 (fun g e e2 => hap g e2 e)
              replace hn8 := hn8.grown hg5 hnv8.1
              replace hw := Below.grown hw hg5 hw.size (fun g e => Nat.le_trans hwle (hr5 g e))
              replace hkb := kept_grown hkb hg5 hr5
              clear ho0 hn3 hr5 hg5 hat5
              refine hK9.out _ _ ⟨t0, t1, hw⟩ (fun hHeld => ?_)
              clear hK9 K9
              (try simp only [Act.put, List.setIfInBounds_toArray, List.set_cons_zero, List.set_cons_succ])
              refine wpAnyJ_pure (i := 10) (oi := ?oo17) (v := ?vv17) ?hi17 (by kernel_rfl) (by kernel_rfl) (by kernel_rfl) (by rfl) ?hq17 (Or.inl ⟨?hg17, ?hy17⟩) ?rest17
              case hi17 => simp only [List.getElem?_toArray, List.getElem?_cons_zero, List.getElem?_cons_succ]; rfl
              case hq17 => exact fun _ _ _ h => h
              case hg17 => rfl
              case hy17 =>
                intro wq _
                go_simp
                (try with_reducible rfl)
              (try simp only [Act.put, List.setIfInBounds_toArray, List.set_cons_zero, List.set_cons_succ])
              refine wpAnyJ_ready (rs := [9]) (by kernel_rfl) (by simp) ?_
              refine AllReadyJ.cons (i := 9) (o := ?oo18) ?ho18 (fun K9 hK9 => ?hstep18) AllReadyJ.nil
              case ho18 => simp only [List.getElem?_toArray, List.getElem?_cons_zero, List.getElem?_cons_succ]; rfl
              clear hHeld
              refine step_append_elder _ (by rfl) _ _ 24 (by rfl) w1.heap.size 3 i0 (.int .i64 0) 1 8 Tryz.underlying24 hi hz0 hz1 hz2 rfl (by decide) _ _ _ (by rfl) ho1 ⟨g8, 0, none⟩ 1 1 [.int .i64 yv] (by rfl) rfl hn8 (by simp [Value.oneCell']) (by unfold maxLen; omega) (by omega) hkb.size ?_
              intro v7 wp18 hown7 hg7 hat7 _
              obtain ⟨Av7, cv7, rfl⟩ := own_slice hown7
              have hv7 : (Value.slice Av7 (k + 1) cv7).ownBlock ≠ some gT ∧ ∀ g, (Value.slice Av5 (k + 1) cv5).ownBlock = some g → (Value.slice Av7 (k + 1) cv7).ownBlock ≠ some g := by
                have h := new_apart hbl.lt hne1 hown5 (fun g e e2 => hv5.2 g e2 e) hat7
                exact ⟨h.1, fun g e e2 => h.2 g e2 e⟩
              have hr7 : ∀ g, (Value.slice A1 k c1).ownBlock = some g → w1.heap.size ≤ g := fun g e => (ho1.lt g e).1
              replace t0 := grown_cell hg7 t0 hne1
              replace t1 := grown_cell hg7 t1 hne1
              replace hbl := hbl.grown hg7 hne1
              replace hown5 := own_keptv hown5 hg7 (fun g e e2 => hv5.2 g e e2)
              replace hw := Below.grown hw hg7 hw.size (fun g e => Nat.le_trans hwle (hr7 g e))
              replace hkb := kept_grown hkb hg7 hr7
              clear ho1 hn8 hr7 hg7 hat7
              refine hK9.out _ _ ⟨t0, t1, hw⟩ (fun hHeld => ?_)
              clear hK9 K9
              (try simp only [Act.put, List.setIfInBounds_toArray, List.set_cons_zero, List.set_cons_succ])
              refine wpAnyJ_ready (rs := [11]) (by kernel_rfl) (by simp) ?_
              refine AllReadyJ.free (i := 11) (o := ?oo19) ?ho19 (by rfl) (fun K9 hK9 => ?hstep19) AllReadyJ.nil
              case ho19 => simp only [List.getElem?_toArray, List.getElem?_cons_zero, List.getElem?_cons_succ]; rfl
              have hff := hbl.free 0
              go_simp
              refine hK9.out _ _ trivial (fun _ => ?_)
              clear hK9 K9
              (try simp only [Act.put, List.setIfInBounds_toArray, List.set_cons_zero, List.set_cons_succ])
              refine wpAnyJ_call (fun wv19 hwz => ?_)
              replace hbl := hbl.set0 (Value.slice Av5 (k + 1) cv5)
              replace hown5 := own_keptv hown5 (grown_set1 _ gT 0 (Value.slice Av5 (k + 1) cv5)) (fun g e e2 => hv5.1 (by rw [e, ← e2]))
              replace hown7 := own_keptv hown7 (grown_set1 _ gT 0 (Value.slice Av5 (k + 1) cv5)) (fun g e e2 => hv7.1 (by rw [e, ← e2]))
              replace hkb := hkb.setg 0 (Value.slice Av5 (k + 1) cv5)
              replace hw := Below.setCell' (p := ⟨gT, 0, none⟩) hwT hw (Value.slice Av5 (k + 1) cv5)
              rw [← hwz] at hbl hown5 hown7 hkb hw
              clear t0 t1 hff
              have t0 := hbl.c0
              have t1 := hbl.c1
              clear hwz
              refine wpAnyJ_pure (i := 12) (oi := ?oo20) (v := ?vv20) ?hi20 (by kernel_rfl) (by kernel_rfl) (by kernel_rfl) (by rfl) ?hq20 (Or.inl ⟨?hg20, ?hy20⟩) ?rest20
              case hi20 => simp only [List.getElem?_toArray, List.getElem?_cons_zero, List.getElem?_cons_succ]; rfl
              case hq20 => exact fun _ _ _ h => h
              case hg20 => rfl
              case hy20 =>
                intro wq _
                go_simp
                (try with_reducible rfl)
              (try simp only [Act.put, List.setIfInBounds_toArray, List.set_cons_zero, List.set_cons_succ])
              refine wpAnyJ_ready (rs := [13]) (by kernel_rfl) (by simp) ?_
              refine AllReadyJ.free (i := 13) (o := ?oo21) ?ho21 (by rfl) (fun K9 hK9 => ?hstep21) AllReadyJ.nil
              case ho21 => simp only [List.getElem?_toArray, List.getElem?_cons_zero, List.getElem?_cons_succ]; rfl
              have hff := hbl.free 1
              go_simp
              refine hK9.out _ _ trivial (fun _ => ?_)
              clear hK9 K9
              (try simp only [Act.put, List.setIfInBounds_toArray, List.set_cons_zero, List.set_cons_succ])
              refine wpAnyJ_call (fun wv21 hwz => ?_)
              replace hbl := hbl.set1 (Value.slice Av7 (k + 1) cv7)
              replace hown5 := own_keptv hown5 (grown_set1 _ gT 1 (Value.slice Av7 (k + 1) cv7)) (fun g e e2 => hv5.1 (by rw [e, ← e2]))
              replace hown7 := own_keptv hown7 (grown_set1 _ gT 1 (Value.slice Av7 (k + 1) cv7)) (fun g e e2 => hv7.1 (by rw [e, ← e2]))
              replace hkb := hkb.setg 1 (Value.slice Av7 (k + 1) cv7)
              replace hw := Below.setCell' (p := ⟨gT, 1, none⟩) hwT hw (Value.slice Av7 (k + 1) cv7)
              rw [← hwz] at hbl hown5 hown7 hkb hw
              clear t0 t1 hff
              have t0 := hbl.c0
              have t1 := hbl.c1
              clear hwz
              clear hHeld
              refine wpAnyJ_done (by kernel_rfl) ?_ _
              have h4 : Two wv21 w1.heap.size gT (Value.slice Av5 (k + 1) cv5) (Value.slice Av7 (k + 1) cv7) (k + 1) (k + 1) (pX (L.take (k + 1))) (pY (L.take (k + 1))) := ⟨hbl, by rw [HNX.out, i64s_app]; exact hown5, by rw [HNY.out, i64s_app]; exact hown7, hv5.1, hv7.1, hv7.2⟩
              have hwo : wOk x.data.toList = true := by rw [HWO.out]; rfl
              have HW2 := Lib.hid (HW.out.next HX.out hwo)
              clear hbl hown5 hown7 t0 t1 hwo
              go_wp2
              go_roundw
              case rel => exact ⟨k + 1, _, _, by omega, by omega, by go_num, HW2, h4, hkb⟩
              case measure => simp [intOf]; omega
            exact AllReadyJ.nil
          refine AllReadyJ.cons (i := 8) (o := ?oo22) ?ho22 (fun K9 hK9 => ?hstep22) ?more22
          case ho22 => simp only [List.getElem?_toArray, List.getElem?_cons_zero, List.getElem?_cons_succ]; rfl
          case hstep22 =>
            go_simp
            clear hHeld
            refine hK9.out _ _ ⟨keep_cell (Below.drew ((Below.refl w4.heap.size w4).alloc (Nat.le_refl _) _)) t0, keep_cell (Below.drew ((Below.refl w4.heap.size w4).alloc (Nat.le_refl _) _)) t1, Below.drew (keep_below_alloc hw _)⟩ (fun hHeld => ?_)
            clear hK9 K9
            (try simp only [Act.put, List.setIfInBounds_toArray, List.set_cons_zero, List.set_cons_succ])
            refine wpAnyJ_name hHeld (fun wa22 hHa hwz => ?_)
            have hbA : Below w4.heap.size w4 wa22 := by rw [hwz]; exact Below.drew ((Below.refl w4.heap.size w4).alloc (Nat.le_refl _) _)
            have hn8 : NewsQ wa22 w4.heap.size (.int .i64 yv) := by rw [hwz]; exact World.news_of_block (cs := #[.int .i64 yv]) (t := 3) (fr := (0, 0)) (heap_alloc_new _ _)
            have hns8 : w4.heap.size = w4.heap.size := rfl
            have hnv8 : (Value.slice A0 k c0).ownBlock ≠ some w4.heap.size ∧ (Value.slice A1 k c1).ownBlock ≠ some w4.heap.size := ⟨fun e => by have := (ho0.lt _ e).2; omega, fun e => by have := (ho1.lt _ e).2; omega⟩
            replace t0 := keep_cell hbA t0
            replace t1 := keep_cell hbA t1
            replace hbl := hbl.below hbA
            replace ho0 := own_below ho0 hbA
            replace ho1 := own_below ho1 hbA
            replace hkb := hkb.post hbA
            replace hw := keep_below hbA hw
            have hsz8 := hns8
            generalize w4.heap.size = g8 at hn8 hns8 hsz8 hnv8 ⊢
            clear hHeld hbA hwz
            have hHeld := hHa
            clear hHa
            refine wpAnyJ_ready (rs := [3]) (by kernel_rfl) (by simp) ?_
            refine AllReadyJ.cons (i := 3) (o := ?oo23) ?ho23 (fun K9 hK9 => ?hstep23) AllReadyJ.nil
            case ho23 => simp only [List.getElem?_toArray, List.getElem?_cons_zero, List.getElem?_cons_succ]; rfl
            go_simp
            clear hHeld
            refine hK9.out _ _ ⟨keep_cell ((Below.refl wa22.heap.size wa22).alloc (Nat.le_refl _) _) t0, keep_cell ((Below.refl wa22.heap.size wa22).alloc (Nat.le_refl _) _) t1, keep_below_alloc hw _⟩ (fun hHeld => ?_)
            clear hK9 K9
            (try simp only [Act.put, List.setIfInBounds_toArray, List.set_cons_zero, List.set_cons_succ])
            refine wpAnyJ_name hHeld (fun wa23 hHa hwz => ?_)
            have hbA : Below wa22.heap.size wa22 wa23 := by rw [hwz]; exact (Below.refl wa22.heap.size wa22).alloc (Nat.le_refl _) _
            have hn3 : NewsQ wa23 wa22.heap.size (.int .i64 xv) := by rw [hwz]; exact World.news_of_block (cs := #[.int .i64 xv]) (t := 3) (fr := (0, 0)) (heap_alloc_new _ _)
            have hns3 : wa22.heap.size = wa22.heap.size := rfl
            have hnv3 : (Value.slice A0 k c0).ownBlock ≠ some wa22.heap.size ∧ (Value.slice A1 k c1).ownBlock ≠ some wa22.heap.size := ⟨fun e => by have := (ho0.lt _ e).2; omega, fun e => by have := (ho1.lt _ e).2; omega⟩
            replace t0 := keep_cell hbA t0
            replace t1 := keep_cell hbA t1
            replace hbl := hbl.below hbA
            replace ho0 := own_below ho0 hbA
            replace ho1 := own_below ho1 hbA
            replace hkb := hkb.post hbA
            replace hn8 := hn8.below hbA
            replace hw := keep_below hbA hw
            have hsz3 := hns3
            generalize wa22.heap.size = g3 at hn3 hns3 hsz3 hnv3 ⊢
            clear hHeld hbA hwz
            have hHeld := hHa
            clear hHa
            refine wpAnyJ_ready (rs := [4]) (by kernel_rfl) (by simp) ?_
            refine AllReadyJ.cons (i := 4) (o := ?oo24) ?ho24 (fun K9 hK9 => ?hstep24) AllReadyJ.nil
            case ho24 => simp only [List.getElem?_toArray, List.getElem?_cons_zero, List.getElem?_cons_succ]; rfl
            clear hHeld
            refine step_append_elder _ (by rfl) _ _ 24 (by rfl) w1.heap.size 3 i0 (.int .i64 0) 1 8 Tryz.underlying24 hi hz0 hz1 hz2 rfl (by decide) _ _ _ (by rfl) ho0 ⟨g3, 0, none⟩ 1 1 [.int .i64 xv] (by rfl) rfl hn3 (by simp [Value.oneCell']) (by unfold maxLen; omega) (by omega) hkb.size ?_
            intro v5 wp24 hown5 hg5 hat5 _
            obtain ⟨Av5, cv5, rfl⟩ := own_slice hown5
            have hv5 := new_apart hbl.lt hne0 ho1 hap hat5
            have hr5 : ∀ g, (Value.slice A0 k c0).ownBlock = some g → w1.heap.size ≤ g := fun g e => (ho0.lt g e).1
            replace t0 := grown_cell hg5 t0 hne0
            replace t1 := grown_cell hg5 t1 hne0
            replace hbl := hbl.grown hg5 hne0
            replace ho1 := own_keptv ho1 hg5 (fun g e e2 => hap g e2 e)
            replace hn8 := hn8.grown hg5 hnv8.1
            replace hw := Below.grown hw hg5 hw.size (fun g e => Nat.le_trans hwle (hr5 g e))
            replace hkb := kept_grown hkb hg5 hr5
            clear ho0 hn3 hr5 hg5 hat5
            refine hK9.out _ _ ⟨t0, t1, hw⟩ (fun hHeld => ?_)
            clear hK9 K9
            (try simp only [Act.put, List.setIfInBounds_toArray, List.set_cons_zero, List.set_cons_succ])
            refine wpAnyJ_pure (i := 10) (oi := ?oo25) (v := ?vv25) ?hi25 (by kernel_rfl) (by kernel_rfl) (by kernel_rfl) (by rfl) ?hq25 (Or.inl ⟨?hg25, ?hy25⟩) ?rest25
            case hi25 => simp only [List.getElem?_toArray, List.getElem?_cons_zero, List.getElem?_cons_succ]; rfl
            case hq25 => exact fun _ _ _ h => h
            case hg25 => rfl
            case hy25 =>
              intro wq _
              go_simp
              (try with_reducible rfl)
            (try simp only [Act.put, List.setIfInBounds_toArray, List.set_cons_zero, List.set_cons_succ])
            refine wpAnyJ_ready (rs := [9]) (by kernel_rfl) (by simp) ?_
            refine AllReadyJ.cons (i := 9) (o := ?oo26) ?ho26 (fun K9 hK9 => ?hstep26) AllReadyJ.nil
            case ho26 => simp only [List.getElem?_toArray, List.getElem?_cons_zero, List.getElem?_cons_succ]; rfl
            clear hHeld
            refine step_append_elder _ (by rfl) _ _ 24 (by rfl) w1.heap.size 3 i0 (.int .i64 0) 1 8 Tryz.underlying24 hi hz0 hz1 hz2 rfl (by decide) _ _ _ (by rfl) ho1 ⟨g8, 0, none⟩ 1 1 [.int .i64 yv] (by rfl) rfl hn8 (by simp [Value.oneCell']) (by unfold maxLen; omega) (by omega) hkb.size ?_
            intro v7 wp26 hown7 hg7 hat7 _
            obtain ⟨Av7, cv7, rfl⟩ := own_slice hown7
            have hv7 : (Value.slice Av7 (k + 1) cv7).ownBlock ≠ some gT ∧ ∀ g, (Value.slice Av5 (k + 1) cv5).ownBlock = some g → (Value.slice Av7 (k + 1) cv7).ownBlock ≠ some g := by
              have h := new_apart hbl.lt hne1 hown5 (fun g e e2 => hv5.2 g e2 e) hat7
              exact ⟨h.1, fun g e e2 => h.2 g e2 e⟩
            have hr7 : ∀ g, (Value.slice A1 k c1).ownBlock = some g → w1.heap.size ≤ g := fun g e => (ho1.lt g e).1
            replace t0 := grown_cell hg7 t0 hne1
            replace t1 := grown_cell hg7 t1 hne1
            replace hbl := hbl.grown hg7 hne1
            replace hown5 := own_keptv hown5 hg7 (fun g e e2 => hv5.2 g e e2)
            replace hw := Below.grown hw hg7 hw.size (fun g e => Nat.le_trans hwle (hr7 g e))
            replace hkb := kept_grown hkb hg7 hr7
            clear ho1 hn8 hr7 hg7 hat7
            refine hK9.out _ _ ⟨t0, t1, hw⟩ (fun hHeld => ?_)
            clear hK9 K9
            (try simp only [Act.put, List.setIfInBounds_toArray, List.set_cons_zero, List.set_cons_succ])
            refine wpAnyJ_ready (rs := [11]) (by kernel_rfl) (by simp) ?_
            refine AllReadyJ.free (i := 11) (o := ?oo27) ?ho27 (by rfl) (fun K9 hK9 => ?hstep27) AllReadyJ.nil
            case ho27 => simp only [List.getElem?_toArray, List.getElem?_cons_zero, List.getElem?_cons_succ]; rfl
            have hff := hbl.free 0
            go_simp
            refine hK9.out _ _ trivial (fun _ => ?_)
            clear hK9 K9
            (try simp only [Act.put, List.setIfInBounds_toArray, List.set_cons_zero, List.set_cons_succ])
            refine wpAnyJ_call (fun wv27 hwz => ?_)
            replace hbl := hbl.set0 (Value.slice Av5 (k + 1) cv5)
            replace hown5 := own_keptv hown5 (grown_set1 _ gT 0 (Value.slice Av5 (k + 1) cv5)) (fun g e e2 => hv5.1 (by rw [e, ← e2]))
            replace hown7 := own_keptv hown7 (grown_set1 _ gT 0 (Value.slice Av5 (k + 1) cv5)) (fun g e e2 => hv7.1 (by rw [e, ← e2]))
            replace hkb := hkb.setg 0 (Value.slice Av5 (k + 1) cv5)
            replace hw := Below.setCell' (p := ⟨gT, 0, none⟩) hwT hw (Value.slice Av5 (k + 1) cv5)
            rw [← hwz] at hbl hown5 hown7 hkb hw
            clear t0 t1 hff
            have t0 := hbl.c0
            have t1 := hbl.c1
            clear hwz
            refine wpAnyJ_pure (i := 12) (oi := ?oo28) (v := ?vv28) ?hi28 (by kernel_rfl) (by kernel_rfl) (by kernel_rfl) (by rfl) ?hq28 (Or.inl ⟨?hg28, ?hy28⟩) ?rest28
            case hi28 => simp only [List.getElem?_toArray, List.getElem?_cons_zero, List.getElem?_cons_succ]; rfl
            case hq28 => exact fun _ _ _ h => h
            case hg28 => rfl
            case hy28 =>
              intro wq _
              go_simp
              (try with_reducible rfl)
            (try simp only [Act.put, List.setIfInBounds_toArray, List.set_cons_zero, List.set_cons_succ])
            refine wpAnyJ_ready (rs := [13]) (by kernel_rfl) (by simp) ?_
            refine AllReadyJ.free (i := 13) (o := ?oo29) ?ho29 (by rfl) (fun K9 hK9 => ?hstep29) AllReadyJ.nil
            case ho29 => simp only [List.getElem?_toArray, List.getElem?_cons_zero, List.getElem?_cons_succ]; rfl
            have hff := hbl.free 1
            go_simp
            refine hK9.out _ _ trivial (fun _ => ?_)
            clear hK9 K9
            (try simp only [Act.put, List.setIfInBounds_toArray, List.set_cons_zero, List.set_cons_succ])
            refine wpAnyJ_call (fun wv29 hwz => ?_)
            replace hbl := hbl.set1 (Value.slice Av7 (k + 1) cv7)
            replace hown5 := own_keptv hown5 (grown_set1 _ gT 1 (Value.slice Av7 (k + 1) cv7)) (fun g e e2 => hv5.1 (by rw [e, ← e2]))
            replace hown7 := own_keptv hown7 (grown_set1 _ gT 1 (Value.slice Av7 (k + 1) cv7)) (fun g e e2 => hv7.1 (by rw [e, ← e2]))
            replace hkb := hkb.setg 1 (Value.slice Av7 (k + 1) cv7)
            replace hw := Below.setCell' (p := ⟨gT, 1, none⟩) hwT hw (Value.slice Av7 (k + 1) cv7)
            rw [← hwz] at hbl hown5 hown7 hkb hw
            clear t0 t1 hff
            have t0 := hbl.c0
            have t1 := hbl.c1
            clear hwz
            clear hHeld
            refine wpAnyJ_done (by kernel_rfl) ?_ _
            have h4 : Two wv29 w1.heap.size gT (Value.slice Av5 (k + 1) cv5) (Value.slice Av7 (k + 1) cv7) (k + 1) (k + 1) (pX (L.take (k + 1))) (pY (L.take (k + 1))) := ⟨hbl, by rw [HNX.out, i64s_app]; exact hown5, by rw [HNY.out, i64s_app]; exact hown7, hv5.1, hv7.1, hv7.2⟩
            have hwo : wOk x.data.toList = true := by rw [HWO.out]; rfl
            have HW2 := Lib.hid (HW.out.next HX.out hwo)
            clear hbl hown5 hown7 t0 t1 hwo
            go_wp2
            go_roundw
            case rel => exact ⟨k + 1, _, _, by omega, by omega, by go_num, HW2, h4, hkb⟩
            case measure => simp [intOf]; omega
          exact AllReadyJ.nil
      all_goals
        obtain rfl := hbx rfl
        clear hbx HWO HX
        have hr0 := hRs.c0
        have hr1 := hRs.c1
        have hf0 := hRs.free 0
        have hf1 := hRs.free 1
        go_wp2
        refine bodyPost_ret (v := .tuple #[.agg #[.slice none 0 0, .slice none 0 0], .bool false]) (by simp (maxDischargeDepth := 9) [results, Tryz.results19, go_sem, *]) rfl ⟨none, 0, none, 0, rfl, .inl ⟨rfl, rfl⟩, .inl ⟨rfl, rfl⟩, (fun _ _ e1 => by cases e1), ?_⟩
        (repeat (first | with_reducible exact Below.refl _ _ | with_reducible assumption | with_reducible refine Below.alloc' ?_ ?_ _ | with_reducible refine Below.setCell' ?_ ?_ _ | with_reducible refine Below.drewN' ?_ _ | with_reducible refine Below.drew ?_ | with_reducible refine Below.transA ?_ (by assumption) ?_ | omega | (focus (simp; done)) | (focus (simp; omega))))
    · have hkl : k = L.length := by omega
      have hend := HEn.out k hk (.inl hkl) HW.out
      have hsm := p_small (L.take k)
      have hbx := pX_bd (L.take k)
      have hby := pY_bd (L.take k)
      have hfX := pX_len hk
      have hfY := pY_len hk
      have hXL : pX (L.take k) = pX L ∧ pY (L.take k) = pY L := by rw [hkl, List.take_length]; exact ⟨rfl, rfl⟩
      have i1 : ¬ (k : Int) < L.length := by omega
      generalize pX (L.take k) = X at *
      generalize pY (L.take k) = Y at *
      obtain ⟨A1, c1, A2, c2, rfl, rfl, hO1, hO2, hap, -, -⟩ := h2.forms
      have hbl := h2.blk
      have t0 := hbl.c0
      have t1 := hbl.c1
      clear h2 HW
      cases hg : good X Y with
      | false =>
        obtain rfl : b = false := hend.1 hg
        have HG := Lib.hid (fun W (h : IntS W A1 X) (k : IntS W A2 Y) => isTree_r hg A1 A2 c1 c2 W h k hbx hby (by omega) (by omega))
        clear hend hg hbx hby hsm hXL hlt hkl hfX hfY
        go_wp2_with fail
        refine (HG.out _ (hO1.ints.below (Below.refl _ _)) (hO2.ints.below (Below.refl _ _))).mono ?_
        rintro e5 w5 ⟨rfl, hb5⟩
        replace hRs := hRs.below hb5
        replace hw := keep_below hb5 hw
        replace hO1 := hO1.below hb5
        replace hO2 := hO2.below hb5
        replace hbl := hbl.below hb5
        clear HG t0 t1 hb5
        have hr0 := hRs.c0
        have hr1 := hRs.c1
        have hf0 := hRs.free 0
        have hf1 := hRs.free 1
        go_wp2
        refine bodyPost_ret (v := .tuple #[.agg #[.slice none 0 0, .slice none 0 0], .bool false]) (by simp (maxDischargeDepth := 9) [results, Tryz.results19, go_sem, *]) rfl ⟨none, 0, none, 0, rfl, .inl ⟨rfl, rfl⟩, .inl ⟨rfl, rfl⟩, (fun _ _ e1 => by cases e1), ?_⟩
        (repeat (first | with_reducible exact Below.refl _ _ | with_reducible assumption | with_reducible refine Below.alloc' ?_ ?_ _ | with_reducible refine Below.setCell' ?_ ?_ _ | with_reducible refine Below.drewN' ?_ _ | with_reducible refine Below.drew ?_ | with_reducible refine Below.transA ?_ (by assumption) ?_ | omega | (focus (simp; done)) | (focus (simp; omega))))
      | true =>
        obtain ⟨-, hiff⟩ := hend.2 hg
        obtain ⟨hX, hY⟩ := hXL
        have HG := Lib.hid (fun W (h : IntS W A1 X) (k : IntS W A2 Y) => isTree_r hg A1 A2 c1 c2 W h k hbx hby (by omega) (by omega))
        have hgl := good_len hg
        have HT := Lib.hid (fun W (h : IntS W A1 X) (k : IntS W A2 Y) (hT : TabE W) => treeText_any A1 A2 c1 c2 X Y W h k hgl.2.1 hgl.1 hgl.2.2 hsm hT)
        have hcmp := bytes_eq (a := txB X Y) (b := s)
        have HXe := Lib.hid hX.symm
        have HYe := Lib.hid hY.symm
        clear hend hg hbx hby hsm hX hY hgl hfX hfY hlt hkl
        generalize txB X Y = Z at *
        by_cases hZ : Z = s
        · obtain rfl : b = true := hiff.2 hZ
          replace hcmp := hcmp.trans (decide_eq_true hZ)
          clear hiff hZ
          go_wp2_with fail
          refine (HG.out _ (hO1.ints.below (Below.refl _ _)) (hO2.ints.below (Below.refl _ _))).mono ?_
          rintro e5 w5 ⟨rfl, hb5⟩
          replace hRs := hRs.below hb5
          replace hw := keep_below hb5 hw
          replace hO1 := hO1.below hb5
          replace hO2 := hO2.below hb5
          replace hbl := hbl.below hb5
          clear HG t0 t1 hb5
          have t0 := hbl.c0
          have t1 := hbl.c1
          have hT5 := HTw.out _ hw
          go_wp2_with fail
          refine (HT.out _ hO1.ints hO2.ints hT5).mono ?_
          rintro e6 w6 ⟨rfl, hb6⟩
          replace hRs := hRs.below hb6
          replace hw := keep_below hb6 hw
          replace hO1 := hO1.below hb6
          replace hO2 := hO2.below hb6
          replace hbl := hbl.below hb6
          clear HT t0 t1 hb6 hT5
          have t0 := hbl.c0
          have t1 := hbl.c1
          have hr0 := hRs.c0
          have hr1 := hRs.c1
          have hf0 := hRs.free 0
          have hf1 := hRs.free 1
          have hkb2 := ((KeptBut.refl2 w6 w.heap.size).setg 0 (.slice A1 X.length c1)).setg 1 (.slice A2 Y.length c2)
          have hO1' := hkb2.own hO1 hwg hwg
          have hO2' := hkb2.own hO2 hwg hwg
          clear hkb2 hO1 hO2
          go_wp2
          refine bodyPost_ret (v := .tuple #[.agg #[.slice A1 X.length c1, .slice A2 Y.length c2], .bool true]) (by simp (maxDischargeDepth := 9) [results, Tryz.results19, go_sem, *]) rfl ⟨A1, c1, A2, c2, by rw [HXe.out, HYe.out]; rfl, by rw [HXe.out]; exact hO1'.mono (Nat.le_of_lt hwg), by rw [HYe.out]; exact hO2'.mono (Nat.le_of_lt hwg), hap, ?_⟩
          (repeat (first | with_reducible exact Below.refl _ _ | with_reducible assumption | with_reducible refine Below.alloc' ?_ ?_ _ | with_reducible refine Below.setCell' ?_ ?_ _ | with_reducible refine Below.drewN' ?_ _ | with_reducible refine Below.drew ?_ | with_reducible refine Below.transA ?_ (by assumption) ?_ | omega | (focus (simp; done)) | (focus (simp; omega))))
        · have hbf : b = false := by cases b with | false => rfl | true => exact absurd (hiff.1 rfl) hZ
          subst hbf
          replace hcmp := hcmp.trans (decide_eq_false hZ)
          clear hiff hZ
          go_wp2_with fail
          refine (HG.out _ (hO1.ints.below (Below.refl _ _)) (hO2.ints.below (Below.refl _ _))).mono ?_
          rintro e5 w5 ⟨rfl, hb5⟩
          replace hRs := hRs.below hb5
          replace hw := keep_below hb5 hw
          replace hO1 := hO1.below hb5
          replace hO2 := hO2.below hb5
          replace hbl := hbl.below hb5
          clear HG t0 t1 hb5
          have t0 := hbl.c0
          have t1 := hbl.c1
          have hT5 := HTw.out _ hw
          go_wp2_with fail
          refine (HT.out _ hO1.ints hO2.ints hT5).mono ?_
          rintro e6 w6 ⟨rfl, hb6⟩
          replace hRs := hRs.below hb6
          replace hw := keep_below hb6 hw
          replace hO1 := hO1.below hb6
          replace hO2 := hO2.below hb6
          replace hbl := hbl.below hb6
          clear HT t0 t1 hb6 hT5
          have hr0 := hRs.c0
          have hr1 := hRs.c1
          have hf0 := hRs.free 0
          have hf1 := hRs.free 1
          go_wp2
          refine bodyPost_ret (v := .tuple #[.agg #[.slice none 0 0, .slice none 0 0], .bool false]) (by simp (maxDischargeDepth := 9) [results, Tryz.results19, go_sem, *]) rfl ⟨none, 0, none, 0, rfl, .inl ⟨rfl, rfl⟩, .inl ⟨rfl, rfl⟩, (fun _ _ e1 => by cases e1), ?_⟩
          (repeat (first | with_reducible exact Below.refl _ _ | with_reducible assumption | with_reducible refine Below.alloc' ?_ ?_ _ | with_reducible refine Below.setCell' ?_ ?_ _ | with_reducible refine Below.drewN' ?_ _ | with_reducible refine Below.drew ?_ | with_reducible refine Below.transA ?_ (by assumption) ?_ | omega | (focus (simp; done)) | (focus (simp; omega))))
end Go.Proofs.YtgccidkkfalaeaaGreatDoor
