/- Contracts: CountStops. -/
import Derived.Test.YtgpacchbojnheaaRowX
namespace Go.Proofs.Ytgpacchbojnheaa
open Go.ChangeShapes Go.WideShapes Go.ChangeAt Go.RowKit

def wr64 (a : Int) : Int := wrap64 a
/-- The product over a node's children. -/
def prodK (L K : List Int) (k : Nat) : Int := (K.take k).foldl (fun p y => wr64 (p * nth L y.toNat)) 1
theorem prodK_succ (L K : List Int) (k : Nat) (hk : k < K.length) : prodK L K (k + 1) = wr64 (prodK L K k * nth L (nth K k).toNat) := by
  unfold prodK
  rw [List.take_succ_eq_append_getElem hk, List.foldl_append]
  simp [nth, List.getD, hk]
/-- What stands at node x. -/
def cntV (xs L : List Int) (x : Nat) : Int :=
  if pick (isKidI xs x) xs.length = [] then 1 else wr64 (prodK L (pick (isKidI xs x) xs.length) (pick (isKidI xs x) xs.length).length + 1)
/-- The list after k nodes from the end. -/
def cntS (xs : List Int) : Nat → List Int
  | 0 => List.replicate xs.length 0
  | k + 1 => (cntS xs k).set (xs.length - 1 - k) (cntV xs (cntS xs k) (xs.length - 1 - k))
theorem cntS_len (xs : List Int) (k : Nat) : (cntS xs k).length = xs.length := by
  induction k with
  | zero => simp [cntS]
  | succ k ih => simp [cntS, ih]
theorem pick_mem {f : Nat → Bool} {k j : Nat} (h : j < (pick f k).length) : ∃ y : Nat, nth (pick f k) j = y ∧ y < k ∧ f y = true := by
  have hm : (pick f k)[j] ∈ pick f k := List.getElem_mem h
  have hn : nth (pick f k) j = (pick f k)[j] := by simp [nth, List.getD, h]
  rw [hn]
  obtain ⟨y, hy, he⟩ := List.mem_map.1 hm
  have := List.mem_filter.1 hy
  exact ⟨y, he.symm, List.mem_range.1 this.1, this.2⟩
noncomputable def csR (xs ys : List Int) : Int := if good xs ys then nth (cntS xs xs.length) 0 else 0

set_option maxHeartbeats 4000000 in
set_option maxRecDepth 100000 in
theorem specCountStops_any (A B : Option Addr) (c e : Nat) (xs ys : List Int) (w : World) (h : IntS w A xs) (k : IntS w B ys) (hx : Bd xs) (hy : Bd ys) (hn : xs.length ≤ 1048576) (hm : ys.length ≤ 1048576) :
    Calls Try.prog 45 #[.agg #[.slice A xs.length c, .slice B ys.length e]] w fun e1 w' => e1 = .returned (.tuple #[.int .i64 (csR xs ys), .bool (good xs ys)]) ∧ Below w.heap.size w w' := by
  cases hg : good xs ys
  · have hR : csR xs ys = 0 := by unfold csR; rw [hg]; rfl
    have HG := Lib.hid (fun W (h : IntS W A xs) (k : IntS W B ys) => l2Good_r hg A B c e W h k hx hy hn hm)
    rw [hR]
    clear hx hy hg hR
    go_enter Try.func45, Try.ntmps45
    go_wp2_with fail
    refine (HG.out _ (h.alloc _) (k.alloc _)).mono ?_
    rintro e1 w1 ⟨rfl, hb1⟩
    go_wp2
    go_ret2
    exact ⟨rfl, below_alloc hb1⟩
  · have hR : csR xs ys = nth (cntS xs xs.length) 0 := by unfold csR; rw [hg]; rfl
    have HG := Lib.hid (fun W (h : IntS W A xs) (k : IntS W B ys) => l2Good_r hg A B c e W h k hx hy hn hm)
    have hgl := good_len hg
    have HK := Lib.hid (fun W (x : Nat) (hxl : x < xs.length) (h : IntS W A xs) => l2Kids_any A B c ys.length e x xs W h (by omega) hxl)
    have HS := Lib.hid (fun x => kid_same hg x)
    obtain ⟨n, hn'⟩ : ∃ n, n = xs.length := ⟨_, rfl⟩
    have HN : Hid (n = xs.length) := hn'
    rw [hR]
    generalize hr : nth (cntS xs xs.length) 0 = r
    have HR := Lib.hid hr
    rw [← hn'] at hn hgl HR HG HK HS ⊢
    obtain ⟨n0, n1, n2⟩ := hgl
    rw [n2] at HG HK ⊢
    clear n2 hm
    have hmk := run_makeI n hn
    clear hx hy hg hR hr hn'
    go_enter Try.func45, Try.ntmps45
    go_wp2_with fail
    refine (HG.out _ (h.alloc _) (k.alloc _)).mono ?_
    rintro e1 w1 ⟨rfl, hb1⟩
    have hx0 := keep_cell hb1 (cell_new _ _ _ 0 _ rfl)
    have hx1 := keep_cell hb1 (cell_new _ _ _ 1 _ rfl)
    simp at hx0 hx1
    have hg1 : w.heap.size < w1.heap.size := World.block_lt_of_cell? _ _ hx0
    replace hb1 := below_alloc hb1
    go_wp2
    go_loopw [5, 6, 7, 8] (fun i _ _ _ wr => ∃ j : Nat, j ≤ n ∧ i = .int .i64 ((n : Int) - 1 - j) ∧ RowX wr w1.heap.size (cntS xs j) ∧ wr.cell? ⟨w.heap.size, 0, none⟩ = some (.slice A n c) ∧ wr.cell? ⟨w.heap.size, 1, none⟩ = some (.slice B n e) ∧ Below w.heap.size w wr) (fun i _ _ _ _ => (intOf i + 1).toNat)
    case atStart =>
      refine ⟨0, by omega, by go_num, ?_, ?_, ?_, ?_⟩
      · have : (cntS xs 0) = List.replicate n 0 := by rw [HN.out]; rfl
        rw [this]; exact RowX.zero _ _ rfl
      · rw [World.cell?_alloc_lt _ _ _ (World.block_lt_of_cell? _ _ hx0)]; exact hx0
      · rw [World.cell?_alloc_lt _ _ _ (World.block_lt_of_cell? _ _ hx1)]; exact hx1
      · exact keep_below_alloc hb1 _
    case round =>
      obtain ⟨j, hj, rfl, hrx, hx0, hx1, hb1⟩ := hrel
      by_cases hlt : j < n
      · obtain ⟨x, hxe⟩ : ∃ x : Nat, x + 1 + j = n := ⟨n - 1 - j, by omega⟩
        have hxi : (n : Int) - 1 - j = (x : Int) := by omega
        rw [hxi]
        go_wp2_with fail
        refine (HK.out _ x (by omega) (h.below hb1)).mono ?_
        rintro e1 w2 ⟨A', c', rfl, ho, hb2⟩
        rw [HS.out x] at ho ⊢
        have hPm : Hid (∀ q, q < (pick (isKidI xs (x : Int)) n).length → ∃ y : Nat, nth (pick (isKidI xs (x : Int)) n) q = y ∧ y < n ∧ isKidI xs x y = true) := fun q hq => pick_mem hq
        have hnext : Hid (cntS xs (j + 1) = (cntS xs j).set x (if pick (isKidI xs (x : Int)) n = [] then 1 else wr64 (prodK (cntS xs j) (pick (isKidI xs (x : Int)) n) (pick (isKidI xs (x : Int)) n).length + 1))) := by
          show _ = _
          have e : xs.length - 1 - j = x := by rw [← HN.out]; omega
          simp only [cntS, cntV, e]
          rw [← HN.out]
        have hlL : (cntS xs j).length = n := by rw [cntS_len, ← HN.out]
        have HLl := Lib.hid hlL
        have hPl := pick_len (isKidI xs (x : Int)) n
        clear hlL
        replace hrx := hrx.below hb2
        replace hx0 := keep_cell hb2 hx0
        replace hx1 := keep_cell hb2 hx1
        replace hb1 := keep_below hb2 hb1
        clear hb2
        generalize pick (isKidI xs (x : Int)) n = P at *
        have hI := ho.ints
        clear ho
        go_wp2
        go_loop [7, 8] (fun p i => ∃ q : Nat, q ≤ P.length ∧ i = .int .i64 q ∧ p = .int .i64 (prodK (cntS xs j) P q)) (fun _ i => P.length - (intOf i).toNat)
        case atStart => exact ⟨0, by omega, rfl, rfl⟩
        case round =>
          obtain ⟨q, hq, rfl, rfl⟩ := hrel
          by_cases hlq : q < P.length
          · obtain ⟨b, o, rfl, hc⟩ := hI.at_ hlq
            obtain ⟨y, hy, hyn, _⟩ := hPm.out q hlq
            rw [hy] at hc
            have hcy := hrx.cell (j := y) (by rw [HLl.out]; exact hyn)
            have hps : Hid (prodK (cntS xs j) P (q + 1) = wr64 (prodK (cntS xs j) P q * nth (cntS xs j) y)) := by
              show _ = _; rw [prodK_succ _ _ _ hlq, hy]; rfl
            clear hy
            go_wp2
            go_round
            case rel => exact ⟨q + 1, by omega, by go_num, by rw [hps.out]; rfl⟩
            case measure => simp [intOf]; omega
          · have hqe : q = P.length := by omega
            subst hqe
            have hfr := hrx.free x
            have hcx := hrx.cell (j := x) (by rw [HLl.out]; omega)
            have hfx := fun v => cell_far (g := w1.heap.size) (u := v) hx0 (by simp; omega) x
            have hfy := fun v => cell_far (g := w1.heap.size) (u := v) hx1 (by simp; omega) x
            have hfb := fun v => below_far (g := w1.heap.size) (v := v) hb1 (by omega) x
            by_cases hP : P = []
            · subst hP
              have hset := hrx.set x 1
              rw [← (show cntS xs (j + 1) = (cntS xs j).set x 1 from by rw [hnext.out, if_pos rfl])] at hset
              have hp1 : Hid (prodK (cntS xs j) [] 0 = 1) := rfl
              have HF := Lib.hid (hfx (.int .i64 1))
              have HY := Lib.hid (hfy (.int .i64 1))
              have HB := Lib.hid (hfb (.int .i64 1))
              simp only [List.length_nil, Int.natCast_zero] at *
              rw [hp1.out]
              clear hfx hfy hfb hx0 hx1 hb1 hrx hPm hnext hI
              go_wp2
              go_roundw
              case rel => exact ⟨j + 1, by omega, by congr 1; omega, hset, HF.out, HY.out, HB.out⟩
              case measure => simp only [intOf]; omega
            · have hpos : 0 < P.length := List.length_pos_iff.2 hP
              have hpi : (0 : Int) < (P.length : Int) := by omega
              obtain ⟨v, hv⟩ : ∃ v, wr64 (prodK (cntS xs j) P P.length + 1) = v := ⟨_, rfl⟩
              have hset := hrx.set x v
              rw [← (show cntS xs (j + 1) = (cntS xs j).set x v from by rw [hnext.out, if_neg hP, hv])] at hset
              have HF := Lib.hid (hfx (.int .i64 v))
              have HY := Lib.hid (hfy (.int .i64 v))
              have HB := Lib.hid (hfb (.int .i64 v))
              have hv' : wrap64 (prodK (cntS xs j) P P.length + 1) = v := hv
              clear hfx hfy hfb hx0 hx1 hb1 hrx hPm hnext hI hP hv
              go_wp2
              go_roundw
              case rel => exact ⟨j + 1, by omega, by congr 1; omega, hset, HF.out, HY.out, HB.out⟩
              case measure => simp only [intOf]; omega
      · have hjn : j = n := by omega
        subst hjn
        have hc0 := hrx.cell (j := 0) (by rw [cntS_len, ← HN.out]; omega)
        rw [HR.out] at hc0
        go_wp2
        go_ret2
        exact ⟨rfl, hb1⟩
set_option maxHeartbeats 4000000 in
set_option maxRecDepth 100000 in
theorem implCountStops_any (A B : Option Addr) (c e : Nat) (xs ys : List Int) (w : World) (h : IntS w A xs) (k : IntS w B ys) (hx : Bd xs) (hy : Bd ys) (hn : xs.length ≤ 1048576) (hm : ys.length ≤ 1048576) :
    Calls Try.prog 46 #[.agg #[.slice A xs.length c, .slice B ys.length e]] w fun e1 w' => e1 = .returned (.tuple #[.int .i64 (csR xs ys), .bool (good xs ys)]) ∧ Below w.heap.size w w' := by
  cases hg : good xs ys
  · have hR : csR xs ys = 0 := by unfold csR; rw [hg]; rfl
    have HG := Lib.hid (fun W (h : IntS W A xs) (k : IntS W B ys) => isTree_r hg A B c e W h k hx hy hn hm)
    rw [hR]
    clear hx hy hg hR
    go_enter Try.func46, Try.ntmps46
    go_wp2_with fail
    refine (HG.out _ (h.alloc _) (k.alloc _)).mono ?_
    rintro e1 w1 ⟨rfl, hb1⟩
    go_wp2
    go_ret2
    exact ⟨rfl, below_alloc hb1⟩
  · have hR : csR xs ys = nth (cntS xs xs.length) 0 := by unfold csR; rw [hg]; rfl
    have HG := Lib.hid (fun W (h : IntS W A xs) (k : IntS W B ys) => isTree_r hg A B c e W h k hx hy hn hm)
    have hgl := good_len hg
    have HK := Lib.hid (fun W (x : Int) (h : IntS W A xs) => children_any A B c ys.length e x xs W h (by omega))
    obtain ⟨n, hn'⟩ : ∃ n, n = xs.length := ⟨_, rfl⟩
    have HN : Hid (n = xs.length) := hn'
    rw [hR]
    generalize hr : nth (cntS xs xs.length) 0 = r
    have HR := Lib.hid hr
    rw [← hn'] at hn hgl HR HG HK ⊢
    obtain ⟨n0, n1, n2⟩ := hgl
    rw [n2] at HG HK ⊢
    clear n2 hm
    have hmk := run_makeI n hn
    clear hx hy hg hR hr hn'
    go_enter Try.func46, Try.ntmps46
    go_wp2_with fail
    refine (HG.out _ (h.alloc _) (k.alloc _)).mono ?_
    rintro e1 w1 ⟨rfl, hb1⟩
    have hx0 := keep_cell hb1 (cell_new _ _ _ 0 _ rfl)
    have hx1 := keep_cell hb1 (cell_new _ _ _ 1 _ rfl)
    simp at hx0 hx1
    have hg1 : w.heap.size < w1.heap.size := World.block_lt_of_cell? _ _ hx0
    replace hb1 := below_alloc hb1
    go_wp2
    go_loopw [5, 6, 7, 9] (fun i _ _ _ wr => ∃ j : Nat, j ≤ n ∧ i = .int .i64 ((n : Int) - 1 - j) ∧ RowX wr w1.heap.size (cntS xs j) ∧ wr.cell? ⟨w.heap.size, 0, none⟩ = some (.slice A n c) ∧ wr.cell? ⟨w.heap.size, 1, none⟩ = some (.slice B n e) ∧ Below w.heap.size w wr) (fun i _ _ _ _ => (intOf i + 1).toNat)
    case atStart =>
      refine ⟨0, by omega, by go_num, ?_, ?_, ?_, ?_⟩
      · have : (cntS xs 0) = List.replicate n 0 := by rw [HN.out]; rfl
        rw [this]; exact RowX.zero _ _ rfl
      · rw [World.cell?_alloc_lt _ _ _ (World.block_lt_of_cell? _ _ hx0)]; exact hx0
      · rw [World.cell?_alloc_lt _ _ _ (World.block_lt_of_cell? _ _ hx1)]; exact hx1
      · exact keep_below_alloc hb1 _
    case round =>
      obtain ⟨j, hj, rfl, hrx, hx0, hx1, hb1⟩ := hrel
      by_cases hlt : j < n
      · obtain ⟨x, hxe⟩ : ∃ x : Nat, x + 1 + j = n := ⟨n - 1 - j, by omega⟩
        have hxi : (n : Int) - 1 - j = (x : Int) := by omega
        rw [hxi]
        go_wp2_with fail
        refine (HK.out _ x (h.below hb1)).mono ?_
        rintro e1 w2 ⟨A', c', rfl, ho, hb2⟩
        have hPm : Hid (∀ q, q < (pick (isKidI xs (x : Int)) n).length → ∃ y : Nat, nth (pick (isKidI xs (x : Int)) n) q = y ∧ y < n ∧ isKidI xs x y = true) := fun q hq => pick_mem hq
        have hnext : Hid (cntS xs (j + 1) = (cntS xs j).set x (if pick (isKidI xs (x : Int)) n = [] then 1 else wr64 (prodK (cntS xs j) (pick (isKidI xs (x : Int)) n) (pick (isKidI xs (x : Int)) n).length + 1))) := by
          show _ = _
          have e : xs.length - 1 - j = x := by rw [← HN.out]; omega
          simp only [cntS, cntV, e]
          rw [← HN.out]
        have hlL : (cntS xs j).length = n := by rw [cntS_len, ← HN.out]
        have HLl := Lib.hid hlL
        have hPl := pick_len (isKidI xs (x : Int)) n
        clear hlL
        replace hrx := hrx.below hb2
        replace hx0 := keep_cell hb2 hx0
        replace hx1 := keep_cell hb2 hx1
        replace hb1 := keep_below hb2 hb1
        clear hb2
        generalize pick (isKidI xs (x : Int)) n = P at *
        have hI := ho.ints
        clear ho
        have hfr := hrx.free x
        have hcx := hrx.cell (j := x) (by rw [HLl.out]; omega)
        have hfx := fun v => cell_far (g := w1.heap.size) (u := v) hx0 (by simp; omega) x
        have hfy := fun v => cell_far (g := w1.heap.size) (u := v) hx1 (by simp; omega) x
        have hfb := fun v => below_far (g := w1.heap.size) (v := v) hb1 (by omega) x
        by_cases hP : P = []
        · subst hP
          have hset := hrx.set x 1
          rw [← (show cntS xs (j + 1) = (cntS xs j).set x 1 from by rw [hnext.out, if_pos rfl])] at hset
          have HF := Lib.hid (hfx (.int .i64 1))
          have HY := Lib.hid (hfy (.int .i64 1))
          have HB := Lib.hid (hfb (.int .i64 1))
          clear hfx hfy hfb hx0 hx1 hb1 hrx hPm hnext hI
          go_wp2
          go_roundw
          case rel => exact ⟨j + 1, by omega, by congr 1; omega, hset, HF.out, HY.out, HB.out⟩
          case measure => simp only [intOf]; omega
        · have hpos : 0 < P.length := List.length_pos_iff.2 hP
          have hpz : ((P.length : Int) == 0) = false := by simp; omega
          obtain ⟨v, hv⟩ : ∃ v, wr64 (prodK (cntS xs j) P P.length + 1) = v := ⟨_, rfl⟩
          have hset := hrx.set x v
          rw [← (show cntS xs (j + 1) = (cntS xs j).set x v from by rw [hnext.out, if_neg hP, hv])] at hset
          have HF := Lib.hid (hfx (.int .i64 v))
          have HY := Lib.hid (hfy (.int .i64 v))
          have HB := Lib.hid (hfb (.int .i64 v))
          have HV : Hid (wrap64 (prodK (cntS xs j) P P.length + 1) = v) := hv
          clear hfx hfy hfb hx0 hx1 hb1 hnext hP hv
          go_wp2
          go_loop [7, 9, 35] (fun p _ i => ∃ q : Nat, q ≤ P.length ∧ i = .int .i64 q ∧ p = .int .i64 (prodK (cntS xs j) P q)) (fun _ _ i => P.length - (intOf i).toNat)
          case atStart => exact ⟨0, by omega, rfl, rfl⟩
          case round =>
            obtain ⟨q, hq, rfl, rfl⟩ := hrel
            by_cases hlq : q < P.length
            · obtain ⟨b, o, rfl, hc⟩ := hI.at_ hlq
              obtain ⟨y, hy, hyn, _⟩ := hPm.out q hlq
              rw [hy] at hc
              have hcy := hrx.cell (j := y) (by rw [HLl.out]; exact hyn)
              have hps : Hid (prodK (cntS xs j) P (q + 1) = wr64 (prodK (cntS xs j) P q * nth (cntS xs j) y)) := by
                show _ = _; rw [prodK_succ _ _ _ hlq, hy]; rfl
              clear hy
              go_wp2
              go_round
              case rel => exact ⟨q + 1, by omega, by go_num, by rw [hps.out]; rfl⟩
              case measure => simp only [intOf]; omega
            · have hqe : q = P.length := by omega
              subst hqe
              have hv' := HV.out
              clear hrx hPm hI
              go_wp2
              go_roundw
              case rel => exact ⟨j + 1, by omega, by congr 1; omega, hset, HF.out, HY.out, HB.out⟩
              case measure => simp only [intOf]; omega
      · have hjn : j = n := by omega
        subst hjn
        have hc0 := hrx.cell (j := 0) (by rw [cntS_len, ← HN.out]; omega)
        rw [HR.out] at hc0
        go_wp2
        go_ret2
        exact ⟨rfl, hb1⟩
end Go.Proofs.Ytgpacchbojnheaa
