/- Contracts: DoobParts. -/
import Derived.Test.YtombfbmcplefgaaDoobP
import Derived.Test.YtombfbmcplefgaaMem2
import Derived.StillTailTactics
import Derived.Deep.DeepCutAuto
namespace Go.Proofs.Ytombfbmcplefgaa
open Go.ChangeShapes Go.WideShapes Go.ChangeAt Go.RowKit

theorem Row2.far {w : World} {g : Nat} {L : List (Int × Int)} (h : Row2 w g L) {q : Nat} (hq : g ≠ q) (k : Nat) (v : Value) : Row2 (w.setCell ⟨q, k, none⟩ v) g L :=
  h.of_block (Below.heap_setCell _ _ _ _ hq)
theorem own2_head {w : World} {B g c n : Nat} {L : List (Int × Int)} (h : w.ownsRow B 51 2 (.slice (some ⟨g, 0, none⟩) n c) n (i64p L)) : OwnS2 w B (some ⟨g, 0, none⟩) L ∧ L.length = n := by
  obtain ⟨A, c', hv, hO⟩ := own_form2 h
  injection hv with h1 h2 _
  exact ⟨by rw [h1]; exact hO, h2.symm⟩
theorem Row2.news {w : World} {g : Nat} {a b : Int} (h : Row2 w g [(a, b)]) : ∀ (j : Nat) (u : Value), [Value.int .i64 a, Value.int .i64 b][j]? = some u → w.cell? ((⟨g, 0, none⟩ : Addr).add j) = some u := by
  intro j u hu
  have h0 := h.cell0 (j := 0) (by simp)
  have h1 := h.cell1 (j := 0) (by simp)
  rw [Addr.add_lit]
  match j with
  | 0 => simp at hu; rw [← hu]; simpa [nthp] using h0
  | 1 => simp at hu; rw [← hu]; simpa [nthp] using h1
  | j + 2 => simp at hu
theorem ne_or {v u : Value} (h : ∀ g : Nat, v.ownBlock = some g → u.ownBlock ≠ some g) : v.ownBlock = none ∨ v.ownBlock ≠ u.ownBlock := by
  cases e : v.ownBlock with
  | none => exact .inl rfl
  | some g => exact .inr (fun h2 => h g e h2.symm)
theorem pair_set {W : World} {g : Nat} {a b : Value} (u v : Value) (h0 : W.cell? ⟨g, 0, none⟩ = some a) (h1 : W.cell? ⟨g, 1, none⟩ = some b) :
    ((W.setCell ⟨g, 0, none⟩ u).setCell ⟨g, 1, none⟩ v).cell? ⟨g, 0, none⟩ = some u ∧ ((W.setCell ⟨g, 0, none⟩ u).setCell ⟨g, 1, none⟩ v).cell? ⟨g, 1, none⟩ = some v :=
  by
  have e1 : (W.setCell ⟨g, 0, none⟩ u).cell? ⟨g, 1, none⟩ = some b := (World.cell?_setCell_other _ _ _ _ (by simp)).trans h1
  have e0 : (W.setCell ⟨g, 0, none⟩ u).cell? ⟨g, 0, none⟩ = some u := World.cell?_setCell_same _ _ _ h0
  exact ⟨(World.cell?_setCell_other _ _ _ _ (by simp)).trans e0, World.cell?_setCell_same _ _ _ e1⟩
theorem new_nil2 (W : World) (B : Nat) (hB : B ≤ W.heap.size) : OwnS2 ((W.alloc (.cells #[] 51)).alloc (.cells #[] 51)) B (some ⟨W.heap.size, 0, none⟩) [] ∧ OwnS2 ((W.alloc (.cells #[] 51)).alloc (.cells #[] 51)) B (some ⟨W.heap.size + 1, 0, none⟩) [] :=
  ⟨(own2_head (L := []) ((own_empty2 W B W.heap.size rfl hB).alloc _)).1, (own2_head (L := []) (own_empty2 (W.alloc _) B (W.heap.size + 1) (by simp) (by omega))).1⟩
theorem own_first2 (W : World) (o : Obj) (B : Nat) (hB : B ≤ W.heap.size + 1) : (((W.alloc o).alloc (.cells #[] 51)).alloc (.cells #[] 51)).ownsRow B 51 2 (.slice (some ⟨W.heap.size + 1, 0, none⟩) 0 0) 0 [] :=
  (own_empty2 (W.alloc o) B (W.heap.size + 1) (by simp) hB).alloc _
theorem own_second2 (W : World) (o : Obj) (B : Nat) (hB : B ≤ W.heap.size + 1) : (((W.alloc o).alloc (.cells #[] 51)).alloc (.cells #[] 51)).ownsRow B 51 2 (.slice (some ⟨W.heap.size + 1 + 1, 0, none⟩) 0 0) 0 [] :=
  own_empty2 ((W.alloc o).alloc _) B (W.heap.size + 1 + 1) (by simp) (by omega)
set_option maxHeartbeats 4000000 in
set_option maxRecDepth 100000 in
theorem specDoobParts_any (A B : Option Addr) (c e : Nat) (xs ys : List Int) (P : Option Addr) (cp : Nat) (ps : List Int) (w : World) (h : IntS w A xs) (k : IntS w B ys) (zp : IntS w P ps) (_hx : Bd xs) (_hy : Bd ys) (_bp : Bd ps) (hn : xs.length ≤ 1048576) (hm : ys.length ≤ 1048576) (lp : ps.length ≤ 1048576) :
    Calls Try.prog 28 #[.agg #[.slice A xs.length c, .slice B ys.length e], .slice P ps.length cp] w (RetPPB w (dbRF xs ys ps) (dbRK xs ys ps) (dbOk xs ys ps)) := by
  obtain ⟨r1, q1⟩ : ∃ r, (good xs ys && isProc xs.length ps) = r := ⟨_, rfl⟩
  cases r1
  case false =>
    have hO : procOk xs ys ps = false := by unfold procOk ; simp [q1]
    have hV_dbRF := dbRF_no hO
    have hV_dbRK := dbRK_no hO
    have hV_dbOk := dbOk_no hO
    rw [hV_dbRF]
    rw [hV_dbRK]
    rw [hV_dbOk]
    (try rw [hO])
    clear hO hV_dbRF hV_dbRK hV_dbOk
    have HG1 := Lib.hid (fun W (h : IntS W A xs) (k : IntS W B ys) (zp : IntS W P ps) => l3Good_any A B P c e cp xs ys ps W h k zp _hx _hy hn hm lp)
    rw [q1] at HG1
    clear q1 _hx _hy _bp
    go_enter Try.func28, Try.ntmps28
    go_wp2_with fail
    refine (HG1.out _ (((h.alloc _).alloc _).alloc _) (((k.alloc _).alloc _).alloc _) (((zp.alloc _).alloc _).alloc _)).mono ?_
    rintro e1 w1 ⟨rfl, hb⟩
    have hx0 : w1.cell? ⟨w.heap.size, 0, none⟩ = some (.slice A xs.length c) := keep_cell hb (by simp (maxDischargeDepth := 9) [go_sem])
    have hx1 : w1.cell? ⟨w.heap.size, 1, none⟩ = some (.slice B ys.length e) := keep_cell hb (by simp (maxDischargeDepth := 9) [go_sem])
    have hown1 := own_below (own_first2 w _ (w.heap.size + 1) (by omega)) hb
    have hown2 := own_below (own_second2 w _ (w.heap.size + 1) (by omega)) hb
    have hw : Below w.heap.size w w1 := below_alloc (below_alloc (below_alloc (hb)))
    clear hb
    go_wp2
    go_ret3
    exact ⟨_, _, _, _, rfl, (own2_head (L := []) hown1).1.mono (by omega), (own2_head (L := []) hown2).1.mono (by omega), fun g g' e1 e2 => by injection e1 with e1; injection e1 with e1; injection e2 with e2; injection e2 with e2; omega, hw⟩
  case true =>
    have hO : procOk xs ys ps = true := by unfold procOk ; simp [q1]
    have hV_dbRF := dbRF_yes hO
    have hV_dbRK := dbRK_yes hO
    have hV_dbOk := dbOk_yes hO
    rw [hV_dbRF]
    rw [hV_dbRK]
    rw [hV_dbOk]
    (try rw [hO])
    clear hO hV_dbRF hV_dbRK hV_dbOk
    have HG1 := Lib.hid (fun W (h : IntS W A xs) (k : IntS W B ys) (zp : IntS W P ps) => l3Good_any A B P c e cp xs ys ps W h k zp _hx _hy hn hm lp)
    rw [q1] at HG1
    have hgl := good_len (Bool.and_eq_true_iff.1 q1).1
    have hpp := isProc_iff (Bool.and_eq_true_iff.1 q1).2
    have hn24 : xs.length ≤ 24 := hgl.2.1
    have HPL : Hid (ps.length = xs.length) := hpp.1
    have HPN : Hid (xs.length = ps.length) := hpp.1.symm
    have HPB := Lib.hid hpp.2
    have HDr := Lib.hid (fun W (h : IntS W A xs) (k : IntS W B ys) (zp : IntS W P ps) => l3Drifts_good (Bool.and_eq_true_iff.1 q1).1 A B P c e cp ps W h k zp hpp.1 hpp.2)
    have hdl := dftK_len xs ys ps xs.length
    have HDL := Lib.hid hdl
    have HD1 : Hid (1 ≤ (dftK xs ys ps xs.length).length) := by show 1 ≤ _; omega
    have HDN := Lib.hid (fun j (hj : j < xs.length) => dftK_nth xs ys ps hj)
    have HU := Lib.hid (good_upL (Bool.and_eq_true_iff.1 q1).1)
    have HST := Lib.hid (fun (x p : Nat) (h1 : 1 ≤ x) (hx : x < xs.length) (hpx : nth xs x = p) (hl : p < x) (hf : isFrac (dbS xs ys ps p).1 (dbS xs ys ps p).2 = true) => db_step (Bool.and_eq_true_iff.1 q1).1 hpp.2 h1 hx hpx hl hf)
    have HDF := Lib.hid (fun (x : Nat) (hx : x < xs.length) => dft_frac (Bool.and_eq_true_iff.1 q1).1 hpp.2 hx)
    have HS0 := Lib.hid (db_root xs ys ps)
    have HRD : Hid (∀ x, dbR xs ys ps x = (lowX (nth ps x * (dbS xs ys ps x).2 - (dbS xs ys ps x).1) (dbS xs ys ps x).2, lowY (nth ps x * (dbS xs ys ps x).2 - (dbS xs ys ps x).1) (dbS xs ys ps x).2)) := fun x => rfl
    have HOD : Hid (∀ x, dbOne xs ys ps x = (isFrac (dbS xs ys ps x).1 (dbS xs ys ps x).2 && isFrac (dbR xs ys ps x).1 (dbR xs ys ps x).2)) := fun x => rfl
    have HKS := Lib.hid (fun k => dbK_succ xs ys ps k)
    have HKL := Lib.hid (fun k => dbK_len xs ys ps k)
    have HKN := Lib.hid (fun (k j : Nat) (hj : j < k) => dbK_nth xs ys ps hj)
    have HFS := Lib.hid (fun k => dbF_succ xs ys ps k)
    have HFL := Lib.hid (fun k => dbF_len xs ys ps k)
    have HK0 : Hid (dbK xs ys ps 0 = []) := rfl
    have HF0 : Hid (dbF xs ys ps 0 = []) := rfl
    have HAN := Lib.hid (fun (j : Nat) (hj : j < xs.length) (h : dbOne xs ys ps j = false) => dbAll_no hj h)
    have HAY := Lib.hid (fun (h : ∀ j, j < xs.length → dbOne xs ys ps j = true) => dbAll_yes h)
    obtain ⟨r, hr⟩ : ∃ r, dbAll xs ys ps xs.length = r := ⟨_, rfl⟩
    rw [hr]
    have HR := Lib.hid hr
    clear hgl hpp hdl hr
    generalize dbAll xs ys ps xs.length = AL at *
    generalize dbOne xs ys ps = ON at *
    generalize dbR xs ys ps = RR at *
    generalize dbS xs ys ps = SS at *
    generalize dbK xs ys ps = K at *
    generalize dbF xs ys ps = F at *
    generalize dftK xs ys ps xs.length = DK at *
    generalize dftP xs ys ps = DP at *
    clear q1 _hx _hy _bp
    go_enter Try.func28, Try.ntmps28
    go_wp2_with fail
    refine (HG1.out _ (((h.alloc _).alloc _).alloc _) (((k.alloc _).alloc _).alloc _) (((zp.alloc _).alloc _).alloc _)).mono ?_
    rintro e1 w1 ⟨rfl, hb⟩
    have hx0 : w1.cell? ⟨w.heap.size, 0, none⟩ = some (.slice A xs.length c) := keep_cell hb (by simp (maxDischargeDepth := 9) [go_sem])
    have hx1 : w1.cell? ⟨w.heap.size, 1, none⟩ = some (.slice B ys.length e) := keep_cell hb (by simp (maxDischargeDepth := 9) [go_sem])
    have hown1 := own_below (own_first2 w _ (w.heap.size + 1) (by omega)) hb
    have hown2 := own_below (own_second2 w _ (w.heap.size + 1) (by omega)) hb
    have hw : Below w.heap.size w w1 := below_alloc (below_alloc (below_alloc (hb)))
    clear hb
    clear HG1
    obtain ⟨i0, hi, hz0, hz1, hz2⟩ := info_parts info_A2
    have hs1 := (hown1.lt _ rfl).2
    have hs2 := (hown2.lt _ rfl).2
    go_wp2_with fail
    refine (HDr.out _ (h.below hw) (k.below hw) (zp.below hw)).mono ?_
    rintro e1 w9 ⟨A1, c1, rfl, ho, hb⟩
    obtain ⟨gD, rfl, hgD, hrD⟩ := ho.pos HD1.out
    replace hown1 := own_below hown1 hb
    replace hown2 := own_below hown2 hb
    replace hx0 := keep_cell hb hx0
    replace hx1 := keep_cell hb hx1
    replace hw := keep_below hb hw
    clear ho hb
    go_wp2
    go_loopw [7, 8, 10] (fun fv kv iv wr => ∃ x : Nat, x ≤ ps.length ∧ iv = .int .i64 x ∧ wr.ownsRow (w.heap.size + 1) 51 2 fv x (i64p (F x)) ∧ wr.ownsRow (w.heap.size + 1) 51 2 kv x (i64p (K x)) ∧ (∀ g : Nat, fv.ownBlock = some g → kv.ownBlock ≠ some g) ∧ fv.ownBlock ≠ some gD ∧ kv.ownBlock ≠ some gD ∧ Hid (∀ j, j < x → ON j = true) ∧ Row2 wr gD DK ∧ wr.cell? ⟨w.heap.size, 0, none⟩ = some (.slice A xs.length c) ∧ wr.cell? ⟨w.heap.size, 1, none⟩ = some (.slice B ys.length e) ∧ Below w.heap.size w wr) (fun _ _ iv _ => ps.length - (intOf iv).toNat)
    case atStart => exact ⟨0, by omega, rfl, by rw [HF0.out]; exact hown1, by rw [HK0.out]; exact hown2, by simp [Value.ownBlock], by simp [Value.ownBlock]; omega, by simp [Value.ownBlock]; omega, fun j hj => by omega, hrD, hx0, hx1, hw⟩
    case round =>
      clear hown1 hown2 hrD hx0 hx1 hw hs1 hs2
      obtain ⟨x, hx, rfl, hownF, hownK, hFK, hFD, hKD, HA, hrD, hx0, hx1, hw⟩ := hrel
      by_cases hlt : x < ps.length
      · have hxn : x < xs.length := by rw [HPN.out]; exact hlt
        have i1 : (x : Int) < ps.length := by omega
        have i2 : (x : Int) < xs.length := by omega
        have hlw : w.heap.size < wr.heap.size := World.block_lt_of_cell? _ _ hx0
        by_cases hz : x = 0
        · have g2 : ¬ ((x : Int) > 0) := by omega
          have g1 : decide ((x : Int) > 0) = false := decide_eq_false g2
          have hss : SS x = (0, 1) := by rw [hz]; exact HS0.out
          clear hz
          go_upto_region 9 with (fail)
          obtain ⟨wa, hwa⟩ : ∃ wa, wa = wr.alloc (.cells #[.int .i64 0, .int .i64 1] 51) := ⟨_, rfl⟩
          rw [← hwa]
          have hbA : Below wr.heap.size wr wa := by rw [hwa]; exact (Below.refl _ _).alloc (Nat.le_refl _) _
          have hs0 : wa.cell? ⟨wr.heap.size, 0, none⟩ = some (.int .i64 0) := by rw [hwa]; simp
          have hs1 : wa.cell? ⟨wr.heap.size, 1, none⟩ = some (.int .i64 1) := by rw [hwa]; simp
          have hq0 : wa.frozen? ⟨wr.heap.size, 0, none⟩ = false := by rw [hwa]; simp
          have hq1 : wa.frozen? ⟨wr.heap.size, 1, none⟩ = false := by rw [hwa]; simp
          have hFS := own_ne_ge (g := wr.heap.size) hownF (Nat.le_refl _)
          have hKS := own_ne_ge (g := wr.heap.size) hownK (Nat.le_refl _)
          have hDS : gD < wr.heap.size := hrD.lt
          have hSw : wr.heap.size < wa.heap.size := World.block_lt_of_cell? _ _ hs0
          replace hownF := own_below hownF hbA
          replace hownK := own_below hownK hbA
          replace hrD := hrD.below hbA
          replace hx0 := keep_cell hbA hx0
          replace hx1 := keep_cell hbA hx1
          replace hw := keep_below hbA hw
          clear hwa hbA
          generalize wr.heap.size = gS at hs0 hs1 hq0 hq1 hFS hKS hDS hSw hlw ⊢
          have hsb1 : -24000000000000 ≤ (SS x).1 ∧ (SS x).1 ≤ 24000000000000 := by rw [hss]; exact ⟨by decide, by decide⟩
          have hsb2 : 1 ≤ (SS x).2 ∧ (SS x).2 ≤ 480000000 := by rw [hss]; exact ⟨by decide, by decide⟩
          replace hs0 : wa.cell? ⟨gS, 0, none⟩ = some (.int .i64 (SS x).1) := by rw [hss]; exact hs0
          replace hs1 : wa.cell? ⟨gS, 1, none⟩ = some (.int .i64 (SS x).2) := by rw [hss]; exact hs1
          clear hss
          go_upto_region 11 with (fail)
          obtain ⟨b8, o8, rfl, hc8⟩ := (zp.below hw).at_ (j := x) hlt
          have HWh := Lib.hid (fun W => l2Add_whole (nth ps x) (SS x).1 (SS x).2 W (HPB.out x) hsb1 hsb2)
          have hrd := HRD.out x
          have e1 : lowX (nth ps x * (SS x).2 - (SS x).1) (SS x).2 = (RR x).1 := by rw [hrd]
          have e2 : lowY (nth ps x * (SS x).2 - (SS x).1) (SS x).2 = (RR x).2 := by rw [hrd]
          rw [e1, e2] at HWh
          clear hrd e1 e2
          have hone := HOD.out x
          have hks := HKS.out x
          have hfs := HFS.out x
          obtain ⟨a9, ha9⟩ : ∃ a, (SS x).1 = a := ⟨_, rfl⟩
          obtain ⟨b9, hb9⟩ : ∃ a, (SS x).2 = a := ⟨_, rfl⟩
          have hks2 : i64p (K (x + 1)) = i64p (K x) ++ [Value.int .i64 a9, Value.int .i64 b9] := by rw [hks, ← ha9, ← hb9]; exact i64p_app _ _ _
          obtain ⟨f9, hf9⟩ : ∃ a, (RR x).1 = a := ⟨_, rfl⟩
          obtain ⟨h9, hh9⟩ : ∃ a, (RR x).2 = a := ⟨_, rfl⟩
          have hfs2 : i64p (F (x + 1)) = i64p (F x) ++ [Value.int .i64 f9, Value.int .i64 h9] := by rw [hfs, ← hf9, ← hh9]; exact i64p_app _ _ _
          rw [ha9] at hone HWh hsb1 hs0
          rw [hb9] at hone HWh hsb2 hs1
          rw [hf9, hh9] at hone HWh
          have HKX := Lib.hid hks2
          have HFX := Lib.hid hfs2
          have HOne := Lib.hid hone
          have hneg : IntKind.i64.wrap (-a9) = -a9 := IntWalk.i64_in _ (by omega)
          clear hks hfs hks2 hfs2 hone ha9 hb9 hf9 hh9
          obtain ⟨n9, hn9⟩ : ∃ a, nth ps x = a := ⟨_, rfl⟩
          rw [hn9] at hc8 HWh
          clear hn9
          go_cut [12] (fun s12 wx => ∃ gR : Nat, s12 = .pointer (some ⟨gR, 0, none⟩) ∧ wx.cell? ⟨gR, 0, none⟩ = some (.int .i64 f9) ∧ wx.cell? ⟨gR, 1, none⟩ = some (.int .i64 h9) ∧ u7.ownBlock ≠ some gR ∧ u8.ownBlock ≠ some gR ∧ gD < gR ∧ gS < gR ∧ w.heap.size < gR ∧ wx.ownsRow (w.heap.size + 1) 51 2 u7 x (i64p (F x)) ∧ wx.ownsRow (w.heap.size + 1) 51 2 u8 x (i64p (K x)) ∧ Row2 wx gD DK ∧ wx.cell? ⟨gS, 0, none⟩ = some (.int .i64 a9) ∧ wx.cell? ⟨gS, 1, none⟩ = some (.int .i64 b9) ∧ wx.cell? ⟨w.heap.size, 0, none⟩ = some (.slice A xs.length c) ∧ wx.cell? ⟨w.heap.size, 1, none⟩ = some (.slice B ys.length e) ∧ Below w.heap.size w wx)
          case first =>
            refine wp_region_held_drew (S := fun w' => w'.cell? ⟨gS, 0, none⟩ = some (.int .i64 a9) ∧ w'.cell? ⟨gS, 1, none⟩ = some (.int .i64 b9) ∧ w'.cell? ⟨b8, o8 + x, none⟩ = some (.int .i64 n9) ∧ w'.cell? ⟨w.heap.size, 0, none⟩ = some (.slice A xs.length c) ∧ w'.cell? ⟨w.heap.size, 1, none⟩ = some (.slice B ys.length e) ∧ Below w.heap.size w w') (by kernel_rfl) ⟨hs0, hs1, hc8, hx0, hx1, hw.drew⟩ (fun hHeld => ?_)
            refine wpAnyH_take (i := 0) (oi := ?oog1) (v := ?vvg1) ?hig1 (by kernel_rfl) (by kernel_rfl) (by kernel_rfl) ?hqg1 (Or.inl ⟨?hgg1, ?hyg1⟩) (by assumption) ?restg1
            case hig1 => simp only [List.getElem?_toArray, List.getElem?_cons_zero, List.getElem?_cons_succ]; rfl
            case hqg1 => exact fun _ _ _ h => h
            case hgg1 => rfl
            case hyg1 =>
              intro wq hSw
              obtain ⟨hs0, hs1, hc8, hx0, hx1, hw⟩ := hSw
              go_simp
              (try with_reducible rfl)
            (try simp only [Act.put, List.setIfInBounds_toArray, List.set_cons_zero, List.set_cons_succ])
            refine wpAnyH_take (i := 1) (oi := ?oog2) (v := ?vvg2) ?hig2 (by kernel_rfl) (by kernel_rfl) (by kernel_rfl) ?hqg2 (Or.inl ⟨?hgg2, ?hyg2⟩) (by assumption) ?restg2
            case hig2 => simp only [List.getElem?_toArray, List.getElem?_cons_zero, List.getElem?_cons_succ]; rfl
            case hqg2 => exact fun _ _ _ h => h
            case hgg2 => rfl
            case hyg2 =>
              intro wq hSw
              obtain ⟨hs0, hs1, hc8, hx0, hx1, hw⟩ := hSw
              go_simp
              (try with_reducible rfl)
            (try simp only [Act.put, List.setIfInBounds_toArray, List.set_cons_zero, List.set_cons_succ])
            refine wpAnyH_take (i := 2) (oi := ?oog3) (v := ?vvg3) ?hig3 (by kernel_rfl) (by kernel_rfl) (by kernel_rfl) ?hqg3 (Or.inl ⟨?hgg3, ?hyg3⟩) (by assumption) ?restg3
            case hig3 => simp only [List.getElem?_toArray, List.getElem?_cons_zero, List.getElem?_cons_succ]; rfl
            case hqg3 => exact fun _ _ _ h => h
            case hgg3 => rfl
            case hyg3 =>
              intro wq hSw
              obtain ⟨hs0, hs1, hc8, hx0, hx1, hw⟩ := hSw
              go_simp
              (try with_reducible rfl)
            (try simp only [Act.put, List.setIfInBounds_toArray, List.set_cons_zero, List.set_cons_succ])
            refine wpAnyH_take (i := 3) (oi := ?oog4) (v := ?vvg4) ?hig4 (by kernel_rfl) (by kernel_rfl) (by kernel_rfl) ?hqg4 (Or.inl ⟨?hgg4, ?hyg4⟩) (by assumption) ?restg4
            case hig4 => simp only [List.getElem?_toArray, List.getElem?_cons_zero, List.getElem?_cons_succ]; rfl
            case hqg4 => exact fun _ _ _ h => h
            case hgg4 => rfl
            case hyg4 =>
              intro wq hSw
              obtain ⟨hs0, hs1, hc8, hx0, hx1, hw⟩ := hSw
              go_simp
              (try with_reducible rfl)
            (try simp only [Act.put, List.setIfInBounds_toArray, List.set_cons_zero, List.set_cons_succ])
            refine wpAnyH_take (i := 4) (oi := ?oog5) (v := ?vvg5) ?hig5 (by kernel_rfl) (by kernel_rfl) (by kernel_rfl) ?hqg5 (Or.inl ⟨?hgg5, ?hyg5⟩) (by assumption) ?restg5
            case hig5 => simp only [List.getElem?_toArray, List.getElem?_cons_zero, List.getElem?_cons_succ]; rfl
            case hqg5 => exact fun _ _ _ h => h
            case hgg5 => rfl
            case hyg5 =>
              intro wq hSw
              obtain ⟨hs0, hs1, hc8, hx0, hx1, hw⟩ := hSw
              go_simp
              (try with_reducible rfl)
            (try simp only [Act.put, List.setIfInBounds_toArray, List.set_cons_zero, List.set_cons_succ])
            refine wpAnyH_take (i := 5) (oi := ?oog6) (v := ?vvg6) ?hig6 (by kernel_rfl) (by kernel_rfl) (by kernel_rfl) ?hqg6 (Or.inl ⟨?hgg6, ?hyg6⟩) (by assumption) ?restg6
            case hig6 => simp only [List.getElem?_toArray, List.getElem?_cons_zero, List.getElem?_cons_succ]; rfl
            case hqg6 => exact fun _ _ _ h => h
            case hgg6 => rfl
            case hyg6 =>
              intro wq hSw
              obtain ⟨hs0, hs1, hc8, hx0, hx1, hw⟩ := hSw
              go_simp
              (try with_reducible rfl)
            (try simp only [Act.put, List.setIfInBounds_toArray, List.set_cons_zero, List.set_cons_succ])
            refine wpAnyH_take (i := 6) (oi := ?oog7) (v := ?vvg7) ?hig7 (by kernel_rfl) (by kernel_rfl) (by kernel_rfl) ?hqg7 (Or.inl ⟨?hgg7, ?hyg7⟩) (by assumption) ?restg7
            case hig7 => simp only [List.getElem?_toArray, List.getElem?_cons_zero, List.getElem?_cons_succ]; rfl
            case hqg7 => exact fun _ _ _ h => h
            case hgg7 => rfl
            case hyg7 =>
              intro wq hSw
              obtain ⟨hs0, hs1, hc8, hx0, hx1, hw⟩ := hSw
              go_simp
              (try with_reducible rfl)
            (try simp only [Act.put, List.setIfInBounds_toArray, List.set_cons_zero, List.set_cons_succ])
            refine wpAnyH_take (i := 7) (oi := ?oog8) (v := ?vvg8) ?hig8 (by kernel_rfl) (by kernel_rfl) (by kernel_rfl) ?hqg8 (Or.inl ⟨?hgg8, ?hyg8⟩) (by assumption) ?restg8
            case hig8 => simp only [List.getElem?_toArray, List.getElem?_cons_zero, List.getElem?_cons_succ]; rfl
            case hqg8 => exact fun _ _ _ h => h
            case hgg8 => rfl
            case hyg8 =>
              intro wq hSw
              obtain ⟨hs0, hs1, hc8, hx0, hx1, hw⟩ := hSw
              go_simp
              (try with_reducible rfl)
            (try simp only [Act.put, List.setIfInBounds_toArray, List.set_cons_zero, List.set_cons_succ])
            refine wpAnyH_take (i := 8) (oi := ?oog9) (v := ?vvg9) ?hig9 (by kernel_rfl) (by kernel_rfl) (by kernel_rfl) ?hqg9 (Or.inl ⟨?hgg9, ?hyg9⟩) (by assumption) ?restg9
            case hig9 => simp only [List.getElem?_toArray, List.getElem?_cons_zero, List.getElem?_cons_succ]; rfl
            case hqg9 => exact fun _ _ _ h => h
            case hgg9 => rfl
            case hyg9 =>
              intro wq hSw
              obtain ⟨hs0, hs1, hc8, hx0, hx1, hw⟩ := hSw
              go_simp
              (try with_reducible rfl)
            (try simp only [Act.put, List.setIfInBounds_toArray, List.set_cons_zero, List.set_cons_succ])
            refine wpAnyH_take (i := 9) (oi := ?oog10) (v := ?vvg10) ?hig10 (by kernel_rfl) (by kernel_rfl) (by kernel_rfl) ?hqg10 (Or.inl ⟨?hgg10, ?hyg10⟩) (by assumption) ?restg10
            case hig10 => simp only [List.getElem?_toArray, List.getElem?_cons_zero, List.getElem?_cons_succ]; rfl
            case hqg10 => exact fun _ _ _ h => h
            case hgg10 => rfl
            case hyg10 =>
              intro wq hSw
              obtain ⟨hs0, hs1, hc8, hx0, hx1, hw⟩ := hSw
              go_simp
              (try with_reducible rfl)
            (try simp only [Act.put, List.setIfInBounds_toArray, List.set_cons_zero, List.set_cons_succ])
            refine wpAnyH_take (i := 10) (oi := ?oog11) (v := ?vvg11) ?hig11 (by kernel_rfl) (by kernel_rfl) (by kernel_rfl) ?hqg11 (Or.inl ⟨?hgg11, ?hyg11⟩) (by assumption) ?restg11
            case hig11 => simp only [List.getElem?_toArray, List.getElem?_cons_zero, List.getElem?_cons_succ]; rfl
            case hqg11 => exact fun _ _ _ h => h
            case hgg11 => rfl
            case hyg11 =>
              intro wq hSw
              obtain ⟨hs0, hs1, hc8, hx0, hx1, hw⟩ := hSw
              go_simp
              (try with_reducible rfl)
            (try simp only [Act.put, List.setIfInBounds_toArray, List.set_cons_zero, List.set_cons_succ])
            refine wpAnyH_ready (rs := [11, 12]) (by kernel_rfl) (by simp) ?_
            refine AllReadyH.cons (i := 11) (o := ?oog12) ?hog12 (fun K9 hK9 => ?hstepg12) ?moreg12
            case hog12 => simp only [List.getElem?_toArray, List.getElem?_cons_zero, List.getElem?_cons_succ]; rfl
            case hstepg12 =>
              go_simp
              refine (HWh.out _).mono ?_
              rintro e1 wzg12 ⟨rfl, hb⟩
              replace hb : Below wa.heap.size wa wzg12 := ⟨hb.os, hb.tape, hb.output, hb.size, hb.block⟩
              replace hs0 := keep_cell hb hs0
              replace hs1 := keep_cell hb hs1
              replace hc8 := keep_cell hb hc8
              replace hx0 := keep_cell hb hx0
              replace hx1 := keep_cell hb hx1
              replace hownF := own_below hownF hb
              replace hownK := own_below hownK hb
              replace hrD := hrD.below hb
              replace hw := keep_below hb hw
              clear hHeld
              go_wp2_with fail
              refine hK9.out _ _ ⟨hs0, hs1, hc8, hx0, hx1, hw⟩ (fun hHeld => ?_)
              clear hK9 K9 hb
              (try simp only [Act.put, List.setIfInBounds_toArray, List.set_cons_zero, List.set_cons_succ])
              refine wpAnyH_ready (rs := [12]) (by kernel_rfl) (by simp) ?_
              refine AllReadyH.cons (i := 12) (o := ?oog13) ?hog13 (fun K9 hK9 => ?hstepg13) AllReadyH.nil
              case hog13 => simp only [List.getElem?_toArray, List.getElem?_cons_zero, List.getElem?_cons_succ]; rfl
              go_simp
              clear hHeld
              refine hK9.out _ _ ⟨keep_cell ((Below.refl wzg12.heap.size wzg12).alloc (Nat.le_refl _) _) hs0, keep_cell ((Below.refl wzg12.heap.size wzg12).alloc (Nat.le_refl _) _) hs1, keep_cell ((Below.refl wzg12.heap.size wzg12).alloc (Nat.le_refl _) _) hc8, keep_cell ((Below.refl wzg12.heap.size wzg12).alloc (Nat.le_refl _) _) hx0, keep_cell ((Below.refl wzg12.heap.size wzg12).alloc (Nat.le_refl _) _) hx1, keep_below_alloc hw _⟩ (fun hHeld => ?_)
              clear hK9 K9
              (try simp only [Act.put, List.setIfInBounds_toArray, List.set_cons_zero, List.set_cons_succ])
              refine wpAnyH_name hHeld (fun wag13 hHa hwz => ?_)
              have hbA : Below wzg12.heap.size wzg12 wag13 := by rw [hwz]; exact (Below.refl wzg12.heap.size wzg12).alloc (Nat.le_refl _) _
              have hFR := own_ne_ge (g := wzg12.heap.size) hownF (Nat.le_refl _)
              have hKR := own_ne_ge (g := wzg12.heap.size) hownK (Nat.le_refl _)
              have hDR : gD < wzg12.heap.size := hrD.lt
              have hSR : gS < wzg12.heap.size := World.block_lt_of_cell? _ _ hs0
              have hWR : w.heap.size < wzg12.heap.size := World.block_lt_of_cell? _ _ hx0
              have hCR : b8 < wzg12.heap.size := World.block_lt_of_cell? _ _ hc8
              replace hs0 := keep_cell hbA hs0
              replace hs1 := keep_cell hbA hs1
              replace hc8 := keep_cell hbA hc8
              replace hx0 := keep_cell hbA hx0
              replace hx1 := keep_cell hbA hx1
              replace hownF := own_below hownF hbA
              replace hownK := own_below hownK hbA
              replace hrD := hrD.below hbA
              replace hw := keep_below hbA hw
              have hr0 : wag13.cell? ⟨wzg12.heap.size, 0, none⟩ = some (.int .i64 0) := by rw [hwz]; simp
              have hr1 : wag13.cell? ⟨wzg12.heap.size, 1, none⟩ = some (.int .i64 0) := by rw [hwz]; simp
              have hy0 : wag13.frozen? ⟨wzg12.heap.size, 0, none⟩ = false := by rw [hwz]; simp
              have hy1 : wag13.frozen? ⟨wzg12.heap.size, 1, none⟩ = false := by rw [hwz]; simp
              generalize wzg12.heap.size = gR at hr0 hr1 hy0 hy1 hFR hKR hDR hSR hWR hCR ⊢
              clear hHeld hbA hwz
              have hHeld := hHa
              clear hHa
              refine wpAnyH_ready (rs := [13]) (by kernel_rfl) (by simp) ?_
              refine AllReadyH.cons (i := 13) (o := ?oog14) ?hog14 (fun K9 hK9 => ?hstepg14) AllReadyH.nil
              case hog14 => simp only [List.getElem?_toArray, List.getElem?_cons_zero, List.getElem?_cons_succ]; rfl
              go_simp
              clear hHeld
              refine hK9.out _ _ ⟨cell_far (g := gR) (cell_far (g := gR) hs0 (by simp; omega) 0) (by simp; omega) 1, cell_far (g := gR) (cell_far (g := gR) hs1 (by simp; omega) 0) (by simp; omega) 1, cell_far (g := gR) (cell_far (g := gR) hc8 (by simp; omega) 0) (by simp; omega) 1, cell_far (g := gR) (cell_far (g := gR) hx0 (by simp; omega) 0) (by simp; omega) 1, cell_far (g := gR) (cell_far (g := gR) hx1 (by simp; omega) 0) (by simp; omega) 1, Below.setCell' (p := ⟨gR, 1, none⟩) (by simp; omega) (Below.setCell' (p := ⟨gR, 0, none⟩) (by simp; omega) hw _) _⟩ (fun hHeld => ?_)
              clear hK9 K9
              (try simp only [Act.put, List.setIfInBounds_toArray, List.set_cons_zero, List.set_cons_succ])
              clear hHeld
              refine wpAnyH_done (by kernel_rfl) ?_ _
              go_wp2_with fail
              go_meet
              go_split_ands
              exact ⟨_, rfl, (pair_set _ _ hr0 hr1).1, (pair_set _ _ hr0 hr1).2, hFR, hKR, hDR, hSR, hWR, own_far (own_far hownF hFR) hFR, own_far (own_far hownK hKR) hKR, (hrD.far (by omega) _ _).far (by omega) _ _, cell_far (cell_far hs0 (by simp; omega) 0) (by simp; omega) 1, cell_far (cell_far hs1 (by simp; omega) 0) (by simp; omega) 1, cell_far (cell_far hx0 (by simp; omega) 0) (by simp; omega) 1, cell_far (cell_far hx1 (by simp; omega) 0) (by simp; omega) 1, Below.setCell' (by simp; omega) (Below.setCell' (by simp; omega) hw _) _⟩
            refine AllReadyH.cons (i := 12) (o := ?oog15) ?hog15 (fun K9 hK9 => ?hstepg15) ?moreg15
            case hog15 => simp only [List.getElem?_toArray, List.getElem?_cons_zero, List.getElem?_cons_succ]; rfl
            case hstepg15 =>
              go_simp
              clear hHeld
              refine hK9.out _ _ ⟨keep_cell (Below.drew ((Below.refl wa.heap.size wa).alloc (Nat.le_refl _) _)) hs0, keep_cell (Below.drew ((Below.refl wa.heap.size wa).alloc (Nat.le_refl _) _)) hs1, keep_cell (Below.drew ((Below.refl wa.heap.size wa).alloc (Nat.le_refl _) _)) hc8, keep_cell (Below.drew ((Below.refl wa.heap.size wa).alloc (Nat.le_refl _) _)) hx0, keep_cell (Below.drew ((Below.refl wa.heap.size wa).alloc (Nat.le_refl _) _)) hx1, Below.drew (keep_below_alloc hw _)⟩ (fun hHeld => ?_)
              clear hK9 K9
              (try simp only [Act.put, List.setIfInBounds_toArray, List.set_cons_zero, List.set_cons_succ])
              refine wpAnyH_name hHeld (fun wag15 hHa hwz => ?_)
              have hbA : Below wa.heap.size wa wag15 := by rw [hwz]; exact Below.drew ((Below.refl wa.heap.size wa).alloc (Nat.le_refl _) _)
              have hFR := own_ne_ge (g := wa.heap.size) hownF (Nat.le_refl _)
              have hKR := own_ne_ge (g := wa.heap.size) hownK (Nat.le_refl _)
              have hDR : gD < wa.heap.size := hrD.lt
              have hSR : gS < wa.heap.size := World.block_lt_of_cell? _ _ hs0
              have hWR : w.heap.size < wa.heap.size := World.block_lt_of_cell? _ _ hx0
              have hCR : b8 < wa.heap.size := World.block_lt_of_cell? _ _ hc8
              replace hs0 := keep_cell hbA hs0
              replace hs1 := keep_cell hbA hs1
              replace hc8 := keep_cell hbA hc8
              replace hx0 := keep_cell hbA hx0
              replace hx1 := keep_cell hbA hx1
              replace hownF := own_below hownF hbA
              replace hownK := own_below hownK hbA
              replace hrD := hrD.below hbA
              replace hw := keep_below hbA hw
              have hr0 : wag15.cell? ⟨wa.heap.size, 0, none⟩ = some (.int .i64 0) := by rw [hwz]; simp
              have hr1 : wag15.cell? ⟨wa.heap.size, 1, none⟩ = some (.int .i64 0) := by rw [hwz]; simp
              have hy0 : wag15.frozen? ⟨wa.heap.size, 0, none⟩ = false := by rw [hwz]; simp
              have hy1 : wag15.frozen? ⟨wa.heap.size, 1, none⟩ = false := by rw [hwz]; simp
              clear hHeld hbA hwz
              have hHeld := hHa
              clear hHa
              refine wpAnyH_ready (rs := [11]) (by kernel_rfl) (by simp) ?_
              refine AllReadyH.cons (i := 11) (o := ?oog16) ?hog16 (fun K9 hK9 => ?hstepg16) AllReadyH.nil
              case hog16 => simp only [List.getElem?_toArray, List.getElem?_cons_zero, List.getElem?_cons_succ]; rfl
              go_simp
              refine (HWh.out _).mono ?_
              rintro e1 wzg16 ⟨rfl, hb⟩
              replace hy0 := keep_froz hb (by rw [hr0]; rfl) hy0
              replace hy1 := keep_froz hb (by rw [hr1]; rfl) hy1
              replace hs0 := keep_cell hb hs0
              replace hs1 := keep_cell hb hs1
              replace hc8 := keep_cell hb hc8
              replace hx0 := keep_cell hb hx0
              replace hx1 := keep_cell hb hx1
              replace hownF := own_below hownF hb
              replace hownK := own_below hownK hb
              replace hrD := hrD.below hb
              replace hr0 := keep_cell hb hr0
              replace hr1 := keep_cell hb hr1
              replace hw := keep_below hb hw
              clear hHeld
              go_wp2_with fail
              refine hK9.out _ _ ⟨hs0, hs1, hc8, hx0, hx1, hw⟩ (fun hHeld => ?_)
              clear hK9 K9 hb
              (try simp only [Act.put, List.setIfInBounds_toArray, List.set_cons_zero, List.set_cons_succ])
              refine wpAnyH_ready (rs := [13]) (by kernel_rfl) (by simp) ?_
              refine AllReadyH.cons (i := 13) (o := ?oog17) ?hog17 (fun K9 hK9 => ?hstepg17) AllReadyH.nil
              case hog17 => simp only [List.getElem?_toArray, List.getElem?_cons_zero, List.getElem?_cons_succ]; rfl
              go_simp
              clear hHeld
              refine hK9.out _ _ ⟨cell_far (g := wa.heap.size) (cell_far (g := wa.heap.size) hs0 (by simp; omega) 0) (by simp; omega) 1, cell_far (g := wa.heap.size) (cell_far (g := wa.heap.size) hs1 (by simp; omega) 0) (by simp; omega) 1, cell_far (g := wa.heap.size) (cell_far (g := wa.heap.size) hc8 (by simp; omega) 0) (by simp; omega) 1, cell_far (g := wa.heap.size) (cell_far (g := wa.heap.size) hx0 (by simp; omega) 0) (by simp; omega) 1, cell_far (g := wa.heap.size) (cell_far (g := wa.heap.size) hx1 (by simp; omega) 0) (by simp; omega) 1, Below.setCell' (p := ⟨wa.heap.size, 1, none⟩) (by simp; omega) (Below.setCell' (p := ⟨wa.heap.size, 0, none⟩) (by simp; omega) hw _) _⟩ (fun hHeld => ?_)
              clear hK9 K9
              (try simp only [Act.put, List.setIfInBounds_toArray, List.set_cons_zero, List.set_cons_succ])
              clear hHeld
              refine wpAnyH_done (by kernel_rfl) ?_ _
              go_wp2_with fail
              go_meet
              go_split_ands
              exact ⟨_, rfl, (pair_set _ _ hr0 hr1).1, (pair_set _ _ hr0 hr1).2, hFR, hKR, hDR, hSR, hWR, own_far (own_far hownF hFR) hFR, own_far (own_far hownK hKR) hKR, (hrD.far (by omega) _ _).far (by omega) _ _, cell_far (cell_far hs0 (by simp; omega) 0) (by simp; omega) 1, cell_far (cell_far hs1 (by simp; omega) 0) (by simp; omega) 1, cell_far (cell_far hx0 (by simp; omega) 0) (by simp; omega) 1, cell_far (cell_far hx1 (by simp; omega) 0) (by simp; omega) 1, Below.setCell' (by simp; omega) (Below.setCell' (by simp; omega) hw _) _⟩
            exact AllReadyH.nil
          case rest =>
            clear hs0 hs1 hq0 hq1 hownF hownK hrD hx0 hx1 hw hc8 HWh hSw
            obtain ⟨gR, rfl, hr0, hr1, hFR, hKR, hDR, hSR, hWR, hownF, hownK, hrD, hs0, hs1, hx0, hx1, hw⟩ := hcut
            obtain ⟨q1, hq1⟩ : ∃ q, isFrac a9 b9 = q := ⟨_, rfl⟩
            obtain ⟨q2, hq2⟩ : ∃ q, isFrac f9 h9 = q := ⟨_, rfl⟩
            have H1 := Lib.hid (fun W => l2Frac_r hq1 W)
            have H2 := Lib.hid (fun W => l2Frac_r hq2 W)
            have hone := HOne.out
            rw [hq1, hq2] at hone
            clear hq1 hq2
            cases q1 with
            | false =>
              have hr : r = false := by rw [← HR.out]; exact HAN.out x hxn (by rw [hone]; rfl)
              subst hr
              clear hone hownF hownK
              go_wp2_with fail
              refine (H1.out _).mono ?_
              rintro e1 wy ⟨rfl, hb⟩
              replace hw := keep_below hb hw
              go_wp2
              go_ret3
              exact ⟨_, _, _, _, rfl, (new_nil2 _ _ hw.size).1, (new_nil2 _ _ hw.size).2, fun g g' e1 e2 => by injection e1 with e1; injection e1 with e1; injection e2 with e2; injection e2 with e2; omega, keep_below_alloc (keep_below_alloc hw _) _⟩
            | true =>
              cases q2 with
              | false =>
                have hr : r = false := by rw [← HR.out]; exact HAN.out x hxn (by rw [hone]; rfl)
                subst hr
                clear hone hownF hownK
                go_wp2_with fail
                refine (H1.out _).mono ?_
                rintro e1 wy ⟨rfl, hb⟩
                replace hr0 := keep_cell hb hr0
                replace hr1 := keep_cell hb hr1
                replace hw := keep_below hb hw
                clear hb
                go_wp2_with fail
                refine (H2.out _).mono ?_
                rintro e1 wy ⟨rfl, hb⟩
                replace hw := keep_below hb hw
                go_wp2
                go_ret3
                exact ⟨_, _, _, _, rfl, (new_nil2 _ _ hw.size).1, (new_nil2 _ _ hw.size).2, fun g g' e1 e2 => by injection e1 with e1; injection e1 with e1; injection e2 with e2; injection e2 with e2; omega, keep_below_alloc (keep_below_alloc hw _) _⟩
              | true =>
                have HA' : Hid (∀ j, j < x + 1 → ON j = true) := fun j hj => by
                  by_cases e : j = x
                  · subst e; rw [hone]; rfl
                  · exact HA.out j (by omega)
                clear hone HA
                go_wp2_with fail
                refine (H1.out _).mono ?_
                rintro e1 wy ⟨rfl, hb⟩
                replace hownF := own_below hownF hb
                replace hownK := own_below hownK hb
                replace hrD := hrD.below hb
                replace hr0 := keep_cell hb hr0
                replace hr1 := keep_cell hb hr1
                replace hs0 := keep_cell hb hs0
                replace hs1 := keep_cell hb hs1
                replace hx0 := keep_cell hb hx0
                replace hx1 := keep_cell hb hx1
                replace hw := keep_below hb hw
                clear hb
                go_wp2_with fail
                refine (H2.out _).mono ?_
                rintro e1 wz ⟨rfl, hb⟩
                replace hownF := own_below hownF hb
                replace hownK := own_below hownK hb
                replace hrD := hrD.below hb
                replace hr0 := keep_cell hb hr0
                replace hr1 := keep_cell hb hr1
                replace hs0 := keep_cell hb hs0
                replace hs1 := keep_cell hb hs1
                replace hx0 := keep_cell hb hx0
                replace hx1 := keep_cell hb hx1
                replace hw := keep_below hb hw
                clear hb
                have hlz : w.heap.size < wz.heap.size := World.block_lt_of_cell? _ _ hx0
                have hown := hownK
                clear hownK
                go_upto_region 15 with ((at_builtin; (refine wpList_append_own_at _ rfl _ _ 44 rfl (w.heap.size + 1) 51 i0 (.agg #[.int .i64 0, .int .i64 0]) 2 16 Try.underlying44 hi hz0 hz1 hz2 rfl (by decide) _ _ _ rfl (hown.alloc _) ⟨wz.heap.size, 0, none⟩ 1 1 [.int .i64 (a9), .int .i64 (b9)] rfl rfl (cells2_new _ _ _ _) (by simp [Value.oneCell']) (by unfold maxLen; omega) (by omega) (by simp; omega) ?_); intro v' w1 hown1 hgrow _ hat))
                have hownF1 := (hownF.alloc (.cells #[.int .i64 a9, .int .i64 b9] 51)).kept hgrow (ne_or hFK)
                have hFl := (hownF.alloc (.cells #[.int .i64 a9, .int .i64 b9] 51)).lt
                have hrD1 := (hrD.alloc (.cells #[.int .i64 a9, .int .i64 b9] 51)).grown hgrow (fun h => hKD (by exact h))
                have hr01 := grown_cell (p := ⟨gR, 0, none⟩) hgrow (by rw [World.cell?_alloc_lt _ _ _ (World.block_lt_of_cell? _ _ hr0)]; exact hr0) (fun h => hKR (by exact h))
                have hr11 := grown_cell (p := ⟨gR, 1, none⟩) hgrow (by rw [World.cell?_alloc_lt _ _ _ (World.block_lt_of_cell? _ _ hr1)]; exact hr1) (fun h => hKR (by exact h))
                have hx01 := grown_cell (p := ⟨w.heap.size, 0, none⟩) hgrow (by rw [World.cell?_alloc_lt _ _ _ (World.block_lt_of_cell? _ _ hx0)]; exact hx0) (own_ne (g := w.heap.size) hown (by omega))
                have hx11 := grown_cell (p := ⟨w.heap.size, 1, none⟩) hgrow (by rw [World.cell?_alloc_lt _ _ _ (World.block_lt_of_cell? _ _ hx1)]; exact hx1) (own_ne (g := w.heap.size) hown (by omega))
                have hb3 : Below w.heap.size w w1 := Below.grown (hw.alloc hw.size _) hgrow (by simp; omega) (fun g hg => by have := (hown.lt g hg).1; omega)
                have hDz := hrD.lt
                have hsz0 : (wz.alloc (.cells #[.int .i64 a9, .int .i64 b9] 51)).heap.size = wz.heap.size + 1 := by simp
                have hszK := hgrow.size
                have hFK1 : ∀ g : Nat, u7.ownBlock = some g → v'.ownBlock ≠ some g := fun g hg => by
                  rcases hat with e | e
                  · rw [e]; exact hFK g hg
                  · rw [e]; intro h'; injection h' with h'; have := (hFl g hg).2; omega
                have hKD1 : v'.ownBlock ≠ some gD := by
                  rcases hat with e | e
                  · rw [e]; exact hKD
                  · rw [e]; intro h'; injection h' with h'; omega
                rw [← HKX.out] at hown1
                have hownK := hown1
                obtain ⟨wk, hwk⟩ : ∃ wk, wk = w1 := ⟨_, rfl⟩
                obtain ⟨kv, hkv⟩ : ∃ kv, kv = v' := ⟨_, rfl⟩
                rw [← hwk] at hownF1 hrD1 hr01 hr11 hx01 hx11 hb3 hownK hszK
                rw [← hkv] at hFK1 hKD1 hownK
                rw [← hwk, ← hkv]
                clear hwk hkv hown1 hown hgrow hat hFK hKD hownF hrD hr0 hr1 hx0 hx1 hs0 hs1 hw hFl hKR
                have hown := hownF1
                clear hownF1
                have hlk : w.heap.size < wk.heap.size := by omega
                go_wp2_with (at_builtin; (refine wpList_append_own_at _ rfl _ _ 44 rfl (w.heap.size + 1) 51 i0 (.agg #[.int .i64 0, .int .i64 0]) 2 16 Try.underlying44 hi hz0 hz1 hz2 rfl (by decide) _ _ _ rfl (hown.alloc _) ⟨wk.heap.size, 0, none⟩ 1 1 [.int .i64 (f9), .int .i64 (h9)] rfl rfl (cells2_new _ _ _ _) (by simp [Value.oneCell']) (by unfold maxLen; omega) (by omega) (by simp; omega) ?_); intro v' w1 hown1 hgrow _ hat)
                have hownK1 := (hownK.alloc (.cells #[.int .i64 f9, .int .i64 h9] 51)).kept hgrow (ne_or (fun g h => fun e => hFK1 g e h))
                have hKl := (hownK.alloc (.cells #[.int .i64 f9, .int .i64 h9] 51)).lt
                have hrD2 := (hrD1.alloc (.cells #[.int .i64 f9, .int .i64 h9] 51)).grown hgrow (fun h => hFD (by exact h))
                have hx02 := grown_cell (p := ⟨w.heap.size, 0, none⟩) hgrow (by rw [World.cell?_alloc_lt _ _ _ (World.block_lt_of_cell? _ _ hx01)]; exact hx01) (own_ne (g := w.heap.size) hown (by omega))
                have hx12 := grown_cell (p := ⟨w.heap.size, 1, none⟩) hgrow (by rw [World.cell?_alloc_lt _ _ _ (World.block_lt_of_cell? _ _ hx11)]; exact hx11) (own_ne (g := w.heap.size) hown (by omega))
                have hb4 : Below w.heap.size w w1 := Below.grown (hb3.alloc hb3.size _) hgrow (by simp; omega) (fun g hg => by have := (hown.lt g hg).1; omega)
                have hDz1 := hrD1.lt
                have hsz1 : (wk.alloc (.cells #[.int .i64 f9, .int .i64 h9] 51)).heap.size = wk.heap.size + 1 := by simp
                have hFK2 : ∀ g : Nat, v'.ownBlock = some g → kv.ownBlock ≠ some g := fun g hg => by
                  rcases hat with e | e
                  · rw [e] at hg; exact hFK1 g hg
                  · rw [e] at hg; injection hg with hg; intro h'; have := (hKl g h').2; omega
                have hFD1 : v'.ownBlock ≠ some gD := by
                  rcases hat with e | e
                  · rw [e]; exact hFD
                  · rw [e]; intro h'; injection h' with h'; omega
                rw [← HFX.out] at hown1
                clear hownK hgrow hat hFK1 hFD hrD1 hr01 hr11 hx01 hx11 hb3 hKl hown
                go_wp2
                go_roundw
                case rel => exact ⟨x + 1, by omega, by go_num, hown1, hownK1, hFK2, hFD1, hKD1, HA', hrD2, hx02, hx12, hb4⟩
                case measure => simp only [intOf]; omega
        · obtain ⟨p, hp, hpx⟩ := HU.out x (by omega) hxn
          have g2 : (x : Int) > 0 := by omega
          have g1 : decide ((x : Int) > 0) = true := decide_eq_true g2
          have hfp : isFrac (SS p).1 (SS p).2 = true := by
            have := HA.out p hpx
            rw [HOD.out] at this
            exact (Bool.and_eq_true_iff.1 this).1
          obtain ⟨e0, _, hsb1, hsb2⟩ := HST.out x p (by omega) hxn hp hpx hfp
          obtain ⟨hdf, hd1, hd2⟩ := HDF.out p (by omega)
          have hfb := frac_bd hfp
          have HP := Lib.hid hp
          have HAd := Lib.hid (fun W => l2Add_any (SS p).1 (SS p).2 (DP p).1 (DP p).2 W (by omega) (by omega) (by omega) (by omega))
          have e1 : lowX ((SS p).1 * (DP p).2 + (DP p).1 * (SS p).2) ((SS p).2 * (DP p).2) = (SS x).1 := by rw [e0]
          have e2 : lowY ((SS p).1 * (DP p).2 + (DP p).1 * (SS p).2) ((SS p).2 * (DP p).2) = (SS x).2 := by rw [e0]
          rw [e1, e2] at HAd
          clear e0 e1 e2 hfp hdf hd1 hd2 hfb hp
          go_upto_region 9 with (fail)
          obtain ⟨wa, hwa⟩ : ∃ wa, wa = wr.alloc (.cells #[.int .i64 0, .int .i64 1] 51) := ⟨_, rfl⟩
          rw [← hwa]
          have hbA : Below wr.heap.size wr wa := by rw [hwa]; exact (Below.refl _ _).alloc (Nat.le_refl _) _
          have hs0 : wa.cell? ⟨wr.heap.size, 0, none⟩ = some (.int .i64 0) := by rw [hwa]; simp
          have hs1 : wa.cell? ⟨wr.heap.size, 1, none⟩ = some (.int .i64 1) := by rw [hwa]; simp
          have hq0 : wa.frozen? ⟨wr.heap.size, 0, none⟩ = false := by rw [hwa]; simp
          have hq1 : wa.frozen? ⟨wr.heap.size, 1, none⟩ = false := by rw [hwa]; simp
          have hFS := own_ne_ge (g := wr.heap.size) hownF (Nat.le_refl _)
          have hKS := own_ne_ge (g := wr.heap.size) hownK (Nat.le_refl _)
          have hDS : gD < wr.heap.size := hrD.lt
          have hSw : wr.heap.size < wa.heap.size := World.block_lt_of_cell? _ _ hs0
          replace hownF := own_below hownF hbA
          replace hownK := own_below hownK hbA
          replace hrD := hrD.below hbA
          replace hx0 := keep_cell hbA hx0
          replace hx1 := keep_cell hbA hx1
          replace hw := keep_below hbA hw
          clear hwa hbA
          generalize wr.heap.size = gS at hs0 hs1 hq0 hq1 hFS hKS hDS hSw hlw ⊢
          obtain ⟨b7, o7, rfl, hc9⟩ := (h.below hw).at_ (j := x) hxn
          rw [HP.out] at hc9
          obtain ⟨A2, c2, rfl, hOK⟩ := own_form2 hownK
          obtain ⟨gK, rfl, _, hrK⟩ := hOK.pos (by rw [HKL.out]; omega)
          have hgKS : gK ≠ gS := fun e => hKS (by rw [e]; rfl)
          have hk0 := hrK.cell0 (j := p) (by rw [HKL.out]; exact hpx)
          have hk1 := hrK.cell1 (j := p) (by rw [HKL.out]; exact hpx)
          rw [HKN.out x p hpx] at hk0 hk1
          have hd0 := hrD.cell0 (j := p) (by rw [HDL.out]; omega)
          have hd1 := hrD.cell1 (j := p) (by rw [HDL.out]; omega)
          rw [HDN.out p (by omega)] at hd0 hd1
          have i4 : (p : Int) < (K x).length := by rw [HKL.out]; omega
          have i5 : (p : Int) < DK.length := by rw [HDL.out]; omega
          go_wp2
          go_still_tail 16, (by kernel_rfl)
          change wpList _ _ _ _ _ wa.drew
          go_wp2_with fail
          refine (HAd.out _).mono ?_
          rintro e1 wb ⟨rfl, hb⟩
          replace hb : Below wa.heap.size wa wb := ⟨hb.os, hb.tape, hb.output, hb.size, hb.block⟩
          replace hq0 := keep_froz hb (by rw [hs0]; rfl) hq0
          replace hq1 := keep_froz hb (by rw [hs1]; rfl) hq1
          replace hs0 := keep_cell hb hs0
          replace hs1 := keep_cell hb hs1
          replace hownF := own_below hownF hb
          replace hownK := own_below hownK hb
          replace hrD := hrD.below hb
          replace hx0 := keep_cell hb hx0
          replace hx1 := keep_cell hb hx1
          replace hw := keep_below hb hw
          clear hb hk0 hk1 hd0 hd1 hc9 hrK hOK
          go_upto_region 11 with (fail)
          obtain ⟨wd, hwd⟩ : ∃ wd, wd = (wb.setCell ⟨gS, 0, none⟩ (.int .i64 (SS x).1)).setCell ⟨gS, 1, none⟩ (.int .i64 (SS x).2) := ⟨_, rfl⟩
          rw [← hwd]
          have hset := pair_set (.int .i64 (SS x).1) (.int .i64 (SS x).2) hs0 hs1
          rw [← hwd] at hset
          obtain ⟨hs0', hs1'⟩ := hset
          replace hs0 := hs0'
          replace hs1 := hs1'
          clear hs0' hs1'
          replace hownF := own_far (k := 1) (u := .int .i64 (SS x).2) (own_far (k := 0) (u := .int .i64 (SS x).1) hownF hFS) hFS
          replace hownK := own_far (k := 1) (u := .int .i64 (SS x).2) (own_far (k := 0) (u := .int .i64 (SS x).1) hownK hKS) hKS
          replace hrD := (hrD.far (q := gS) (by omega) 0 (.int .i64 (SS x).1)).far (q := gS) (by omega) 1 (.int .i64 (SS x).2)
          replace hx0 := cell_far (g := gS) (u := .int .i64 (SS x).2) (cell_far (g := gS) (u := .int .i64 (SS x).1) hx0 (by simp; omega) 0) (by simp; omega) 1
          replace hx1 := cell_far (g := gS) (u := .int .i64 (SS x).2) (cell_far (g := gS) (u := .int .i64 (SS x).1) hx1 (by simp; omega) 0) (by simp; omega) 1
          replace hw := Below.setCell' (p := ⟨gS, 1, none⟩) (by simp; omega) (Below.setCell' (p := ⟨gS, 0, none⟩) (by simp; omega) hw (.int .i64 (SS x).1)) (.int .i64 (SS x).2)
          rw [← hwd] at hownF hownK hrD hx0 hx1 hw
          clear hwd
          obtain ⟨b8, o8, rfl, hc8⟩ := (zp.below hw).at_ (j := x) hlt
          have HWh := Lib.hid (fun W => l2Add_whole (nth ps x) (SS x).1 (SS x).2 W (HPB.out x) hsb1 hsb2)
          have hrd := HRD.out x
          have e1 : lowX (nth ps x * (SS x).2 - (SS x).1) (SS x).2 = (RR x).1 := by rw [hrd]
          have e2 : lowY (nth ps x * (SS x).2 - (SS x).1) (SS x).2 = (RR x).2 := by rw [hrd]
          rw [e1, e2] at HWh
          clear hrd e1 e2
          have hone := HOD.out x
          have hks := HKS.out x
          have hfs := HFS.out x
          obtain ⟨a9, ha9⟩ : ∃ a, (SS x).1 = a := ⟨_, rfl⟩
          obtain ⟨b9, hb9⟩ : ∃ a, (SS x).2 = a := ⟨_, rfl⟩
          have hks2 : i64p (K (x + 1)) = i64p (K x) ++ [Value.int .i64 a9, Value.int .i64 b9] := by rw [hks, ← ha9, ← hb9]; exact i64p_app _ _ _
          obtain ⟨f9, hf9⟩ : ∃ a, (RR x).1 = a := ⟨_, rfl⟩
          obtain ⟨h9, hh9⟩ : ∃ a, (RR x).2 = a := ⟨_, rfl⟩
          have hfs2 : i64p (F (x + 1)) = i64p (F x) ++ [Value.int .i64 f9, Value.int .i64 h9] := by rw [hfs, ← hf9, ← hh9]; exact i64p_app _ _ _
          rw [ha9] at hone HWh hsb1 hs0
          rw [hb9] at hone HWh hsb2 hs1
          rw [hf9, hh9] at hone HWh
          have HKX := Lib.hid hks2
          have HFX := Lib.hid hfs2
          have HOne := Lib.hid hone
          have hneg : IntKind.i64.wrap (-a9) = -a9 := IntWalk.i64_in _ (by omega)
          clear hks hfs hks2 hfs2 hone ha9 hb9 hf9 hh9
          obtain ⟨n9, hn9⟩ : ∃ a, nth ps x = a := ⟨_, rfl⟩
          rw [hn9] at hc8 HWh
          clear hn9
          go_cut [12] (fun s12 wx => ∃ gR : Nat, s12 = .pointer (some ⟨gR, 0, none⟩) ∧ wx.cell? ⟨gR, 0, none⟩ = some (.int .i64 f9) ∧ wx.cell? ⟨gR, 1, none⟩ = some (.int .i64 h9) ∧ u7.ownBlock ≠ some gR ∧ (Value.slice (some ⟨gK, 0, none⟩) (K x).length c2).ownBlock ≠ some gR ∧ gD < gR ∧ gS < gR ∧ w.heap.size < gR ∧ wx.ownsRow (w.heap.size + 1) 51 2 u7 x (i64p (F x)) ∧ wx.ownsRow (w.heap.size + 1) 51 2 (Value.slice (some ⟨gK, 0, none⟩) (K x).length c2) x (i64p (K x)) ∧ Row2 wx gD DK ∧ wx.cell? ⟨gS, 0, none⟩ = some (.int .i64 a9) ∧ wx.cell? ⟨gS, 1, none⟩ = some (.int .i64 b9) ∧ wx.cell? ⟨w.heap.size, 0, none⟩ = some (.slice (some ⟨b7, o7, none⟩) xs.length c) ∧ wx.cell? ⟨w.heap.size, 1, none⟩ = some (.slice B ys.length e) ∧ Below w.heap.size w wx)
          case first =>
            refine wp_region_held_drew (S := fun w' => w'.cell? ⟨gS, 0, none⟩ = some (.int .i64 a9) ∧ w'.cell? ⟨gS, 1, none⟩ = some (.int .i64 b9) ∧ w'.cell? ⟨b8, o8 + x, none⟩ = some (.int .i64 n9) ∧ w'.cell? ⟨w.heap.size, 0, none⟩ = some (.slice (some ⟨b7, o7, none⟩) xs.length c) ∧ w'.cell? ⟨w.heap.size, 1, none⟩ = some (.slice B ys.length e) ∧ Below w.heap.size w w') (by kernel_rfl) ⟨hs0, hs1, hc8, hx0, hx1, hw.drew⟩ (fun hHeld => ?_)
            refine wpAnyH_take (i := 0) (oi := ?ook1) (v := ?vvk1) ?hik1 (by kernel_rfl) (by kernel_rfl) (by kernel_rfl) ?hqk1 (Or.inl ⟨?hgk1, ?hyk1⟩) (by assumption) ?restk1
            case hik1 => simp only [List.getElem?_toArray, List.getElem?_cons_zero, List.getElem?_cons_succ]; rfl
            case hqk1 => exact fun _ _ _ h => h
            case hgk1 => rfl
            case hyk1 =>
              intro wq hSw
              obtain ⟨hs0, hs1, hc8, hx0, hx1, hw⟩ := hSw
              go_simp
              (try with_reducible rfl)
            (try simp only [Act.put, List.setIfInBounds_toArray, List.set_cons_zero, List.set_cons_succ])
            refine wpAnyH_take (i := 1) (oi := ?ook2) (v := ?vvk2) ?hik2 (by kernel_rfl) (by kernel_rfl) (by kernel_rfl) ?hqk2 (Or.inl ⟨?hgk2, ?hyk2⟩) (by assumption) ?restk2
            case hik2 => simp only [List.getElem?_toArray, List.getElem?_cons_zero, List.getElem?_cons_succ]; rfl
            case hqk2 => exact fun _ _ _ h => h
            case hgk2 => rfl
            case hyk2 =>
              intro wq hSw
              obtain ⟨hs0, hs1, hc8, hx0, hx1, hw⟩ := hSw
              go_simp
              (try with_reducible rfl)
            (try simp only [Act.put, List.setIfInBounds_toArray, List.set_cons_zero, List.set_cons_succ])
            refine wpAnyH_take (i := 2) (oi := ?ook3) (v := ?vvk3) ?hik3 (by kernel_rfl) (by kernel_rfl) (by kernel_rfl) ?hqk3 (Or.inl ⟨?hgk3, ?hyk3⟩) (by assumption) ?restk3
            case hik3 => simp only [List.getElem?_toArray, List.getElem?_cons_zero, List.getElem?_cons_succ]; rfl
            case hqk3 => exact fun _ _ _ h => h
            case hgk3 => rfl
            case hyk3 =>
              intro wq hSw
              obtain ⟨hs0, hs1, hc8, hx0, hx1, hw⟩ := hSw
              go_simp
              (try with_reducible rfl)
            (try simp only [Act.put, List.setIfInBounds_toArray, List.set_cons_zero, List.set_cons_succ])
            refine wpAnyH_take (i := 3) (oi := ?ook4) (v := ?vvk4) ?hik4 (by kernel_rfl) (by kernel_rfl) (by kernel_rfl) ?hqk4 (Or.inl ⟨?hgk4, ?hyk4⟩) (by assumption) ?restk4
            case hik4 => simp only [List.getElem?_toArray, List.getElem?_cons_zero, List.getElem?_cons_succ]; rfl
            case hqk4 => exact fun _ _ _ h => h
            case hgk4 => rfl
            case hyk4 =>
              intro wq hSw
              obtain ⟨hs0, hs1, hc8, hx0, hx1, hw⟩ := hSw
              go_simp
              (try with_reducible rfl)
            (try simp only [Act.put, List.setIfInBounds_toArray, List.set_cons_zero, List.set_cons_succ])
            refine wpAnyH_take (i := 4) (oi := ?ook5) (v := ?vvk5) ?hik5 (by kernel_rfl) (by kernel_rfl) (by kernel_rfl) ?hqk5 (Or.inl ⟨?hgk5, ?hyk5⟩) (by assumption) ?restk5
            case hik5 => simp only [List.getElem?_toArray, List.getElem?_cons_zero, List.getElem?_cons_succ]; rfl
            case hqk5 => exact fun _ _ _ h => h
            case hgk5 => rfl
            case hyk5 =>
              intro wq hSw
              obtain ⟨hs0, hs1, hc8, hx0, hx1, hw⟩ := hSw
              go_simp
              (try with_reducible rfl)
            (try simp only [Act.put, List.setIfInBounds_toArray, List.set_cons_zero, List.set_cons_succ])
            refine wpAnyH_take (i := 5) (oi := ?ook6) (v := ?vvk6) ?hik6 (by kernel_rfl) (by kernel_rfl) (by kernel_rfl) ?hqk6 (Or.inl ⟨?hgk6, ?hyk6⟩) (by assumption) ?restk6
            case hik6 => simp only [List.getElem?_toArray, List.getElem?_cons_zero, List.getElem?_cons_succ]; rfl
            case hqk6 => exact fun _ _ _ h => h
            case hgk6 => rfl
            case hyk6 =>
              intro wq hSw
              obtain ⟨hs0, hs1, hc8, hx0, hx1, hw⟩ := hSw
              go_simp
              (try with_reducible rfl)
            (try simp only [Act.put, List.setIfInBounds_toArray, List.set_cons_zero, List.set_cons_succ])
            refine wpAnyH_take (i := 6) (oi := ?ook7) (v := ?vvk7) ?hik7 (by kernel_rfl) (by kernel_rfl) (by kernel_rfl) ?hqk7 (Or.inl ⟨?hgk7, ?hyk7⟩) (by assumption) ?restk7
            case hik7 => simp only [List.getElem?_toArray, List.getElem?_cons_zero, List.getElem?_cons_succ]; rfl
            case hqk7 => exact fun _ _ _ h => h
            case hgk7 => rfl
            case hyk7 =>
              intro wq hSw
              obtain ⟨hs0, hs1, hc8, hx0, hx1, hw⟩ := hSw
              go_simp
              (try with_reducible rfl)
            (try simp only [Act.put, List.setIfInBounds_toArray, List.set_cons_zero, List.set_cons_succ])
            refine wpAnyH_take (i := 7) (oi := ?ook8) (v := ?vvk8) ?hik8 (by kernel_rfl) (by kernel_rfl) (by kernel_rfl) ?hqk8 (Or.inl ⟨?hgk8, ?hyk8⟩) (by assumption) ?restk8
            case hik8 => simp only [List.getElem?_toArray, List.getElem?_cons_zero, List.getElem?_cons_succ]; rfl
            case hqk8 => exact fun _ _ _ h => h
            case hgk8 => rfl
            case hyk8 =>
              intro wq hSw
              obtain ⟨hs0, hs1, hc8, hx0, hx1, hw⟩ := hSw
              go_simp
              (try with_reducible rfl)
            (try simp only [Act.put, List.setIfInBounds_toArray, List.set_cons_zero, List.set_cons_succ])
            refine wpAnyH_take (i := 8) (oi := ?ook9) (v := ?vvk9) ?hik9 (by kernel_rfl) (by kernel_rfl) (by kernel_rfl) ?hqk9 (Or.inl ⟨?hgk9, ?hyk9⟩) (by assumption) ?restk9
            case hik9 => simp only [List.getElem?_toArray, List.getElem?_cons_zero, List.getElem?_cons_succ]; rfl
            case hqk9 => exact fun _ _ _ h => h
            case hgk9 => rfl
            case hyk9 =>
              intro wq hSw
              obtain ⟨hs0, hs1, hc8, hx0, hx1, hw⟩ := hSw
              go_simp
              (try with_reducible rfl)
            (try simp only [Act.put, List.setIfInBounds_toArray, List.set_cons_zero, List.set_cons_succ])
            refine wpAnyH_take (i := 9) (oi := ?ook10) (v := ?vvk10) ?hik10 (by kernel_rfl) (by kernel_rfl) (by kernel_rfl) ?hqk10 (Or.inl ⟨?hgk10, ?hyk10⟩) (by assumption) ?restk10
            case hik10 => simp only [List.getElem?_toArray, List.getElem?_cons_zero, List.getElem?_cons_succ]; rfl
            case hqk10 => exact fun _ _ _ h => h
            case hgk10 => rfl
            case hyk10 =>
              intro wq hSw
              obtain ⟨hs0, hs1, hc8, hx0, hx1, hw⟩ := hSw
              go_simp
              (try with_reducible rfl)
            (try simp only [Act.put, List.setIfInBounds_toArray, List.set_cons_zero, List.set_cons_succ])
            refine wpAnyH_take (i := 10) (oi := ?ook11) (v := ?vvk11) ?hik11 (by kernel_rfl) (by kernel_rfl) (by kernel_rfl) ?hqk11 (Or.inl ⟨?hgk11, ?hyk11⟩) (by assumption) ?restk11
            case hik11 => simp only [List.getElem?_toArray, List.getElem?_cons_zero, List.getElem?_cons_succ]; rfl
            case hqk11 => exact fun _ _ _ h => h
            case hgk11 => rfl
            case hyk11 =>
              intro wq hSw
              obtain ⟨hs0, hs1, hc8, hx0, hx1, hw⟩ := hSw
              go_simp
              (try with_reducible rfl)
            (try simp only [Act.put, List.setIfInBounds_toArray, List.set_cons_zero, List.set_cons_succ])
            refine wpAnyH_ready (rs := [11, 12]) (by kernel_rfl) (by simp) ?_
            refine AllReadyH.cons (i := 11) (o := ?ook12) ?hok12 (fun K9 hK9 => ?hstepk12) ?morek12
            case hok12 => simp only [List.getElem?_toArray, List.getElem?_cons_zero, List.getElem?_cons_succ]; rfl
            case hstepk12 =>
              go_simp
              refine (HWh.out _).mono ?_
              rintro e1 wzk12 ⟨rfl, hb⟩
              replace hb : Below wd.heap.size wd wzk12 := ⟨hb.os, hb.tape, hb.output, hb.size, hb.block⟩
              replace hs0 := keep_cell hb hs0
              replace hs1 := keep_cell hb hs1
              replace hc8 := keep_cell hb hc8
              replace hx0 := keep_cell hb hx0
              replace hx1 := keep_cell hb hx1
              replace hownF := own_below hownF hb
              replace hownK := own_below hownK hb
              replace hrD := hrD.below hb
              replace hw := keep_below hb hw
              clear hHeld
              go_wp2_with fail
              refine hK9.out _ _ ⟨hs0, hs1, hc8, hx0, hx1, hw⟩ (fun hHeld => ?_)
              clear hK9 K9 hb
              (try simp only [Act.put, List.setIfInBounds_toArray, List.set_cons_zero, List.set_cons_succ])
              refine wpAnyH_ready (rs := [12]) (by kernel_rfl) (by simp) ?_
              refine AllReadyH.cons (i := 12) (o := ?ook13) ?hok13 (fun K9 hK9 => ?hstepk13) AllReadyH.nil
              case hok13 => simp only [List.getElem?_toArray, List.getElem?_cons_zero, List.getElem?_cons_succ]; rfl
              go_simp
              clear hHeld
              refine hK9.out _ _ ⟨keep_cell ((Below.refl wzk12.heap.size wzk12).alloc (Nat.le_refl _) _) hs0, keep_cell ((Below.refl wzk12.heap.size wzk12).alloc (Nat.le_refl _) _) hs1, keep_cell ((Below.refl wzk12.heap.size wzk12).alloc (Nat.le_refl _) _) hc8, keep_cell ((Below.refl wzk12.heap.size wzk12).alloc (Nat.le_refl _) _) hx0, keep_cell ((Below.refl wzk12.heap.size wzk12).alloc (Nat.le_refl _) _) hx1, keep_below_alloc hw _⟩ (fun hHeld => ?_)
              clear hK9 K9
              (try simp only [Act.put, List.setIfInBounds_toArray, List.set_cons_zero, List.set_cons_succ])
              refine wpAnyH_name hHeld (fun wak13 hHa hwz => ?_)
              have hbA : Below wzk12.heap.size wzk12 wak13 := by rw [hwz]; exact (Below.refl wzk12.heap.size wzk12).alloc (Nat.le_refl _) _
              have hFR := own_ne_ge (g := wzk12.heap.size) hownF (Nat.le_refl _)
              have hKR := own_ne_ge (g := wzk12.heap.size) hownK (Nat.le_refl _)
              have hDR : gD < wzk12.heap.size := hrD.lt
              have hSR : gS < wzk12.heap.size := World.block_lt_of_cell? _ _ hs0
              have hWR : w.heap.size < wzk12.heap.size := World.block_lt_of_cell? _ _ hx0
              have hCR : b8 < wzk12.heap.size := World.block_lt_of_cell? _ _ hc8
              replace hs0 := keep_cell hbA hs0
              replace hs1 := keep_cell hbA hs1
              replace hc8 := keep_cell hbA hc8
              replace hx0 := keep_cell hbA hx0
              replace hx1 := keep_cell hbA hx1
              replace hownF := own_below hownF hbA
              replace hownK := own_below hownK hbA
              replace hrD := hrD.below hbA
              replace hw := keep_below hbA hw
              have hr0 : wak13.cell? ⟨wzk12.heap.size, 0, none⟩ = some (.int .i64 0) := by rw [hwz]; simp
              have hr1 : wak13.cell? ⟨wzk12.heap.size, 1, none⟩ = some (.int .i64 0) := by rw [hwz]; simp
              have hy0 : wak13.frozen? ⟨wzk12.heap.size, 0, none⟩ = false := by rw [hwz]; simp
              have hy1 : wak13.frozen? ⟨wzk12.heap.size, 1, none⟩ = false := by rw [hwz]; simp
              generalize wzk12.heap.size = gR at hr0 hr1 hy0 hy1 hFR hKR hDR hSR hWR hCR ⊢
              clear hHeld hbA hwz
              have hHeld := hHa
              clear hHa
              refine wpAnyH_ready (rs := [13]) (by kernel_rfl) (by simp) ?_
              refine AllReadyH.cons (i := 13) (o := ?ook14) ?hok14 (fun K9 hK9 => ?hstepk14) AllReadyH.nil
              case hok14 => simp only [List.getElem?_toArray, List.getElem?_cons_zero, List.getElem?_cons_succ]; rfl
              go_simp
              clear hHeld
              refine hK9.out _ _ ⟨cell_far (g := gR) (cell_far (g := gR) hs0 (by simp; omega) 0) (by simp; omega) 1, cell_far (g := gR) (cell_far (g := gR) hs1 (by simp; omega) 0) (by simp; omega) 1, cell_far (g := gR) (cell_far (g := gR) hc8 (by simp; omega) 0) (by simp; omega) 1, cell_far (g := gR) (cell_far (g := gR) hx0 (by simp; omega) 0) (by simp; omega) 1, cell_far (g := gR) (cell_far (g := gR) hx1 (by simp; omega) 0) (by simp; omega) 1, Below.setCell' (p := ⟨gR, 1, none⟩) (by simp; omega) (Below.setCell' (p := ⟨gR, 0, none⟩) (by simp; omega) hw _) _⟩ (fun hHeld => ?_)
              clear hK9 K9
              (try simp only [Act.put, List.setIfInBounds_toArray, List.set_cons_zero, List.set_cons_succ])
              clear hHeld
              refine wpAnyH_done (by kernel_rfl) ?_ _
              go_wp2_with fail
              go_meet
              go_split_ands
              exact ⟨_, rfl, (pair_set _ _ hr0 hr1).1, (pair_set _ _ hr0 hr1).2, hFR, hKR, hDR, hSR, hWR, own_far (own_far hownF hFR) hFR, own_far (own_far hownK hKR) hKR, (hrD.far (by omega) _ _).far (by omega) _ _, cell_far (cell_far hs0 (by simp; omega) 0) (by simp; omega) 1, cell_far (cell_far hs1 (by simp; omega) 0) (by simp; omega) 1, cell_far (cell_far hx0 (by simp; omega) 0) (by simp; omega) 1, cell_far (cell_far hx1 (by simp; omega) 0) (by simp; omega) 1, Below.setCell' (by simp; omega) (Below.setCell' (by simp; omega) hw _) _⟩
            refine AllReadyH.cons (i := 12) (o := ?ook15) ?hok15 (fun K9 hK9 => ?hstepk15) ?morek15
            case hok15 => simp only [List.getElem?_toArray, List.getElem?_cons_zero, List.getElem?_cons_succ]; rfl
            case hstepk15 =>
              go_simp
              clear hHeld
              refine hK9.out _ _ ⟨keep_cell (Below.drew ((Below.refl wd.heap.size wd).alloc (Nat.le_refl _) _)) hs0, keep_cell (Below.drew ((Below.refl wd.heap.size wd).alloc (Nat.le_refl _) _)) hs1, keep_cell (Below.drew ((Below.refl wd.heap.size wd).alloc (Nat.le_refl _) _)) hc8, keep_cell (Below.drew ((Below.refl wd.heap.size wd).alloc (Nat.le_refl _) _)) hx0, keep_cell (Below.drew ((Below.refl wd.heap.size wd).alloc (Nat.le_refl _) _)) hx1, Below.drew (keep_below_alloc hw _)⟩ (fun hHeld => ?_)
              clear hK9 K9
              (try simp only [Act.put, List.setIfInBounds_toArray, List.set_cons_zero, List.set_cons_succ])
              refine wpAnyH_name hHeld (fun wak15 hHa hwz => ?_)
              have hbA : Below wd.heap.size wd wak15 := by rw [hwz]; exact Below.drew ((Below.refl wd.heap.size wd).alloc (Nat.le_refl _) _)
              have hFR := own_ne_ge (g := wd.heap.size) hownF (Nat.le_refl _)
              have hKR := own_ne_ge (g := wd.heap.size) hownK (Nat.le_refl _)
              have hDR : gD < wd.heap.size := hrD.lt
              have hSR : gS < wd.heap.size := World.block_lt_of_cell? _ _ hs0
              have hWR : w.heap.size < wd.heap.size := World.block_lt_of_cell? _ _ hx0
              have hCR : b8 < wd.heap.size := World.block_lt_of_cell? _ _ hc8
              replace hs0 := keep_cell hbA hs0
              replace hs1 := keep_cell hbA hs1
              replace hc8 := keep_cell hbA hc8
              replace hx0 := keep_cell hbA hx0
              replace hx1 := keep_cell hbA hx1
              replace hownF := own_below hownF hbA
              replace hownK := own_below hownK hbA
              replace hrD := hrD.below hbA
              replace hw := keep_below hbA hw
              have hr0 : wak15.cell? ⟨wd.heap.size, 0, none⟩ = some (.int .i64 0) := by rw [hwz]; simp
              have hr1 : wak15.cell? ⟨wd.heap.size, 1, none⟩ = some (.int .i64 0) := by rw [hwz]; simp
              have hy0 : wak15.frozen? ⟨wd.heap.size, 0, none⟩ = false := by rw [hwz]; simp
              have hy1 : wak15.frozen? ⟨wd.heap.size, 1, none⟩ = false := by rw [hwz]; simp
              clear hHeld hbA hwz
              have hHeld := hHa
              clear hHa
              refine wpAnyH_ready (rs := [11]) (by kernel_rfl) (by simp) ?_
              refine AllReadyH.cons (i := 11) (o := ?ook16) ?hok16 (fun K9 hK9 => ?hstepk16) AllReadyH.nil
              case hok16 => simp only [List.getElem?_toArray, List.getElem?_cons_zero, List.getElem?_cons_succ]; rfl
              go_simp
              refine (HWh.out _).mono ?_
              rintro e1 wzk16 ⟨rfl, hb⟩
              replace hy0 := keep_froz hb (by rw [hr0]; rfl) hy0
              replace hy1 := keep_froz hb (by rw [hr1]; rfl) hy1
              replace hs0 := keep_cell hb hs0
              replace hs1 := keep_cell hb hs1
              replace hc8 := keep_cell hb hc8
              replace hx0 := keep_cell hb hx0
              replace hx1 := keep_cell hb hx1
              replace hownF := own_below hownF hb
              replace hownK := own_below hownK hb
              replace hrD := hrD.below hb
              replace hr0 := keep_cell hb hr0
              replace hr1 := keep_cell hb hr1
              replace hw := keep_below hb hw
              clear hHeld
              go_wp2_with fail
              refine hK9.out _ _ ⟨hs0, hs1, hc8, hx0, hx1, hw⟩ (fun hHeld => ?_)
              clear hK9 K9 hb
              (try simp only [Act.put, List.setIfInBounds_toArray, List.set_cons_zero, List.set_cons_succ])
              refine wpAnyH_ready (rs := [13]) (by kernel_rfl) (by simp) ?_
              refine AllReadyH.cons (i := 13) (o := ?ook17) ?hok17 (fun K9 hK9 => ?hstepk17) AllReadyH.nil
              case hok17 => simp only [List.getElem?_toArray, List.getElem?_cons_zero, List.getElem?_cons_succ]; rfl
              go_simp
              clear hHeld
              refine hK9.out _ _ ⟨cell_far (g := wd.heap.size) (cell_far (g := wd.heap.size) hs0 (by simp; omega) 0) (by simp; omega) 1, cell_far (g := wd.heap.size) (cell_far (g := wd.heap.size) hs1 (by simp; omega) 0) (by simp; omega) 1, cell_far (g := wd.heap.size) (cell_far (g := wd.heap.size) hc8 (by simp; omega) 0) (by simp; omega) 1, cell_far (g := wd.heap.size) (cell_far (g := wd.heap.size) hx0 (by simp; omega) 0) (by simp; omega) 1, cell_far (g := wd.heap.size) (cell_far (g := wd.heap.size) hx1 (by simp; omega) 0) (by simp; omega) 1, Below.setCell' (p := ⟨wd.heap.size, 1, none⟩) (by simp; omega) (Below.setCell' (p := ⟨wd.heap.size, 0, none⟩) (by simp; omega) hw _) _⟩ (fun hHeld => ?_)
              clear hK9 K9
              (try simp only [Act.put, List.setIfInBounds_toArray, List.set_cons_zero, List.set_cons_succ])
              clear hHeld
              refine wpAnyH_done (by kernel_rfl) ?_ _
              go_wp2_with fail
              go_meet
              go_split_ands
              exact ⟨_, rfl, (pair_set _ _ hr0 hr1).1, (pair_set _ _ hr0 hr1).2, hFR, hKR, hDR, hSR, hWR, own_far (own_far hownF hFR) hFR, own_far (own_far hownK hKR) hKR, (hrD.far (by omega) _ _).far (by omega) _ _, cell_far (cell_far hs0 (by simp; omega) 0) (by simp; omega) 1, cell_far (cell_far hs1 (by simp; omega) 0) (by simp; omega) 1, cell_far (cell_far hx0 (by simp; omega) 0) (by simp; omega) 1, cell_far (cell_far hx1 (by simp; omega) 0) (by simp; omega) 1, Below.setCell' (by simp; omega) (Below.setCell' (by simp; omega) hw _) _⟩
            exact AllReadyH.nil
          case rest =>
            clear hs0 hs1 hq0 hq1 hownF hownK hrD hx0 hx1 hw hc8 HWh hSw
            obtain ⟨gR, rfl, hr0, hr1, hFR, hKR, hDR, hSR, hWR, hownF, hownK, hrD, hs0, hs1, hx0, hx1, hw⟩ := hcut
            obtain ⟨q1, hq1⟩ : ∃ q, isFrac a9 b9 = q := ⟨_, rfl⟩
            obtain ⟨q2, hq2⟩ : ∃ q, isFrac f9 h9 = q := ⟨_, rfl⟩
            have H1 := Lib.hid (fun W => l2Frac_r hq1 W)
            have H2 := Lib.hid (fun W => l2Frac_r hq2 W)
            have hone := HOne.out
            rw [hq1, hq2] at hone
            clear hq1 hq2
            cases q1 with
            | false =>
              have hr : r = false := by rw [← HR.out]; exact HAN.out x hxn (by rw [hone]; rfl)
              subst hr
              clear hone hownF hownK
              go_wp2_with fail
              refine (H1.out _).mono ?_
              rintro e1 wy ⟨rfl, hb⟩
              replace hw := keep_below hb hw
              go_wp2
              go_ret3
              exact ⟨_, _, _, _, rfl, (new_nil2 _ _ hw.size).1, (new_nil2 _ _ hw.size).2, fun g g' e1 e2 => by injection e1 with e1; injection e1 with e1; injection e2 with e2; injection e2 with e2; omega, keep_below_alloc (keep_below_alloc hw _) _⟩
            | true =>
              cases q2 with
              | false =>
                have hr : r = false := by rw [← HR.out]; exact HAN.out x hxn (by rw [hone]; rfl)
                subst hr
                clear hone hownF hownK
                go_wp2_with fail
                refine (H1.out _).mono ?_
                rintro e1 wy ⟨rfl, hb⟩
                replace hr0 := keep_cell hb hr0
                replace hr1 := keep_cell hb hr1
                replace hw := keep_below hb hw
                clear hb
                go_wp2_with fail
                refine (H2.out _).mono ?_
                rintro e1 wy ⟨rfl, hb⟩
                replace hw := keep_below hb hw
                go_wp2
                go_ret3
                exact ⟨_, _, _, _, rfl, (new_nil2 _ _ hw.size).1, (new_nil2 _ _ hw.size).2, fun g g' e1 e2 => by injection e1 with e1; injection e1 with e1; injection e2 with e2; injection e2 with e2; omega, keep_below_alloc (keep_below_alloc hw _) _⟩
              | true =>
                have HA' : Hid (∀ j, j < x + 1 → ON j = true) := fun j hj => by
                  by_cases e : j = x
                  · subst e; rw [hone]; rfl
                  · exact HA.out j (by omega)
                clear hone HA
                go_wp2_with fail
                refine (H1.out _).mono ?_
                rintro e1 wy ⟨rfl, hb⟩
                replace hownF := own_below hownF hb
                replace hownK := own_below hownK hb
                replace hrD := hrD.below hb
                replace hr0 := keep_cell hb hr0
                replace hr1 := keep_cell hb hr1
                replace hs0 := keep_cell hb hs0
                replace hs1 := keep_cell hb hs1
                replace hx0 := keep_cell hb hx0
                replace hx1 := keep_cell hb hx1
                replace hw := keep_below hb hw
                clear hb
                go_wp2_with fail
                refine (H2.out _).mono ?_
                rintro e1 wz ⟨rfl, hb⟩
                replace hownF := own_below hownF hb
                replace hownK := own_below hownK hb
                replace hrD := hrD.below hb
                replace hr0 := keep_cell hb hr0
                replace hr1 := keep_cell hb hr1
                replace hs0 := keep_cell hb hs0
                replace hs1 := keep_cell hb hs1
                replace hx0 := keep_cell hb hx0
                replace hx1 := keep_cell hb hx1
                replace hw := keep_below hb hw
                clear hb
                have hlz : w.heap.size < wz.heap.size := World.block_lt_of_cell? _ _ hx0
                have hown := hownK
                clear hownK
                go_upto_region 15 with ((at_builtin; (refine wpList_append_own_at _ rfl _ _ 44 rfl (w.heap.size + 1) 51 i0 (.agg #[.int .i64 0, .int .i64 0]) 2 16 Try.underlying44 hi hz0 hz1 hz2 rfl (by decide) _ _ _ rfl (hown.alloc _) ⟨wz.heap.size, 0, none⟩ 1 1 [.int .i64 (a9), .int .i64 (b9)] rfl rfl (cells2_new _ _ _ _) (by simp [Value.oneCell']) (by unfold maxLen; omega) (by omega) (by simp; omega) ?_); intro v' w1 hown1 hgrow _ hat))
                have hownF1 := (hownF.alloc (.cells #[.int .i64 a9, .int .i64 b9] 51)).kept hgrow (ne_or hFK)
                have hFl := (hownF.alloc (.cells #[.int .i64 a9, .int .i64 b9] 51)).lt
                have hrD1 := (hrD.alloc (.cells #[.int .i64 a9, .int .i64 b9] 51)).grown hgrow (fun h => hKD (by exact h))
                have hr01 := grown_cell (p := ⟨gR, 0, none⟩) hgrow (by rw [World.cell?_alloc_lt _ _ _ (World.block_lt_of_cell? _ _ hr0)]; exact hr0) (fun h => hKR (by exact h))
                have hr11 := grown_cell (p := ⟨gR, 1, none⟩) hgrow (by rw [World.cell?_alloc_lt _ _ _ (World.block_lt_of_cell? _ _ hr1)]; exact hr1) (fun h => hKR (by exact h))
                have hx01 := grown_cell (p := ⟨w.heap.size, 0, none⟩) hgrow (by rw [World.cell?_alloc_lt _ _ _ (World.block_lt_of_cell? _ _ hx0)]; exact hx0) (own_ne (g := w.heap.size) hown (by omega))
                have hx11 := grown_cell (p := ⟨w.heap.size, 1, none⟩) hgrow (by rw [World.cell?_alloc_lt _ _ _ (World.block_lt_of_cell? _ _ hx1)]; exact hx1) (own_ne (g := w.heap.size) hown (by omega))
                have hb3 : Below w.heap.size w w1 := Below.grown (hw.alloc hw.size _) hgrow (by simp; omega) (fun g hg => by have := (hown.lt g hg).1; omega)
                have hDz := hrD.lt
                have hsz0 : (wz.alloc (.cells #[.int .i64 a9, .int .i64 b9] 51)).heap.size = wz.heap.size + 1 := by simp
                have hszK := hgrow.size
                have hFK1 : ∀ g : Nat, u7.ownBlock = some g → v'.ownBlock ≠ some g := fun g hg => by
                  rcases hat with e | e
                  · rw [e]; exact hFK g hg
                  · rw [e]; intro h'; injection h' with h'; have := (hFl g hg).2; omega
                have hKD1 : v'.ownBlock ≠ some gD := by
                  rcases hat with e | e
                  · rw [e]; exact hKD
                  · rw [e]; intro h'; injection h' with h'; omega
                rw [← HKX.out] at hown1
                have hownK := hown1
                obtain ⟨wk, hwk⟩ : ∃ wk, wk = w1 := ⟨_, rfl⟩
                obtain ⟨kv, hkv⟩ : ∃ kv, kv = v' := ⟨_, rfl⟩
                rw [← hwk] at hownF1 hrD1 hr01 hr11 hx01 hx11 hb3 hownK hszK
                rw [← hkv] at hFK1 hKD1 hownK
                rw [← hwk, ← hkv]
                clear hwk hkv hown1 hown hgrow hat hFK hKD hownF hrD hr0 hr1 hx0 hx1 hs0 hs1 hw hFl hKR
                have hown := hownF1
                clear hownF1
                have hlk : w.heap.size < wk.heap.size := by omega
                go_wp2_with (at_builtin; (refine wpList_append_own_at _ rfl _ _ 44 rfl (w.heap.size + 1) 51 i0 (.agg #[.int .i64 0, .int .i64 0]) 2 16 Try.underlying44 hi hz0 hz1 hz2 rfl (by decide) _ _ _ rfl (hown.alloc _) ⟨wk.heap.size, 0, none⟩ 1 1 [.int .i64 (f9), .int .i64 (h9)] rfl rfl (cells2_new _ _ _ _) (by simp [Value.oneCell']) (by unfold maxLen; omega) (by omega) (by simp; omega) ?_); intro v' w1 hown1 hgrow _ hat)
                have hownK1 := (hownK.alloc (.cells #[.int .i64 f9, .int .i64 h9] 51)).kept hgrow (ne_or (fun g h => fun e => hFK1 g e h))
                have hKl := (hownK.alloc (.cells #[.int .i64 f9, .int .i64 h9] 51)).lt
                have hrD2 := (hrD1.alloc (.cells #[.int .i64 f9, .int .i64 h9] 51)).grown hgrow (fun h => hFD (by exact h))
                have hx02 := grown_cell (p := ⟨w.heap.size, 0, none⟩) hgrow (by rw [World.cell?_alloc_lt _ _ _ (World.block_lt_of_cell? _ _ hx01)]; exact hx01) (own_ne (g := w.heap.size) hown (by omega))
                have hx12 := grown_cell (p := ⟨w.heap.size, 1, none⟩) hgrow (by rw [World.cell?_alloc_lt _ _ _ (World.block_lt_of_cell? _ _ hx11)]; exact hx11) (own_ne (g := w.heap.size) hown (by omega))
                have hb4 : Below w.heap.size w w1 := Below.grown (hb3.alloc hb3.size _) hgrow (by simp; omega) (fun g hg => by have := (hown.lt g hg).1; omega)
                have hDz1 := hrD1.lt
                have hsz1 : (wk.alloc (.cells #[.int .i64 f9, .int .i64 h9] 51)).heap.size = wk.heap.size + 1 := by simp
                have hFK2 : ∀ g : Nat, v'.ownBlock = some g → kv.ownBlock ≠ some g := fun g hg => by
                  rcases hat with e | e
                  · rw [e] at hg; exact hFK1 g hg
                  · rw [e] at hg; injection hg with hg; intro h'; have := (hKl g h').2; omega
                have hFD1 : v'.ownBlock ≠ some gD := by
                  rcases hat with e | e
                  · rw [e]; exact hFD
                  · rw [e]; intro h'; injection h' with h'; omega
                rw [← HFX.out] at hown1
                clear hownK hgrow hat hFK1 hFD hrD1 hr01 hr11 hx01 hx11 hb3 hKl hown
                go_wp2
                go_roundw
                case rel => exact ⟨x + 1, by omega, by go_num, hown1, hownK1, hFK2, hFD1, hKD1, HA', hrD2, hx02, hx12, hb4⟩
                case measure => simp only [intOf]; omega
      · have hxe : x = xs.length := by rw [HPN.out]; omega
        have hr : r = true := by rw [← HR.out]; exact HAY.out fun j hj => HA.out j (by omega)
        subst hr
        have hi3 : ¬ ((x : Int) < ps.length) := by omega
        obtain ⟨A1', c1', rfl, hO1⟩ := own_form2 hownF
        obtain ⟨A2', c2', rfl, hO2⟩ := own_form2 hownK
        rw [hxe] at hO1 hO2 hFK
        have HL1 : Hid ((F x).length = (F xs.length).length ∧ (K x).length = (K xs.length).length) := by show _ ∧ _; rw [hxe]; exact ⟨rfl, rfl⟩
        clear hownF hownK hrD hFD hKD hxe
        go_wp2
        go_ret3
        exact ⟨A1', c1', A2', c2', by rw [HL1.out.1, HL1.out.2]; rfl, hO1.mono (by omega), hO2.mono (by omega), fun g g' e1 e2 e => hFK g (by rw [e1]; rfl) (by rw [e2, ← e]; rfl), hw⟩
set_option maxHeartbeats 8000000 in
set_option maxRecDepth 100000 in
theorem implDoobParts_any (A B : Option Addr) (c e : Nat) (xs ys : List Int) (P : Option Addr) (cp : Nat) (ps : List Int) (w : World) (h : IntS w A xs) (k : IntS w B ys) (zp : IntS w P ps) (_hx : Bd xs) (_hy : Bd ys) (_bp : Bd ps) (hn : xs.length ≤ 1048576) (hm : ys.length ≤ 1048576) (lp : ps.length ≤ 1048576) :
    Calls Try.prog 29 #[.agg #[.slice A xs.length c, .slice B ys.length e], .slice P ps.length cp] w (RetPPB w (dbRF xs ys ps) (dbRK xs ys ps) (dbOk xs ys ps)) := by
  obtain ⟨r1, q1⟩ : ∃ r, (good xs ys) = r := ⟨_, rfl⟩
  cases r1
  case false =>
    have hO : procOk xs ys ps = false := by unfold procOk ; simp [q1]
    have hV_dbRF := dbRF_no hO
    have hV_dbRK := dbRK_no hO
    have hV_dbOk := dbOk_no hO
    rw [hV_dbRF]
    rw [hV_dbRK]
    rw [hV_dbOk]
    (try rw [hO])
    clear hO hV_dbRF hV_dbRK hV_dbOk
    have HG1 := Lib.hid (fun W (h : IntS W A xs) (k : IntS W B ys) => isTree_any A B c e xs ys W h k _hx _hy hn hm)
    rw [q1] at HG1
    clear q1 _hx _hy _bp
    go_enter Try.func29, Try.ntmps29
    go_wp2_with fail
    refine (HG1.out _ (h.alloc _) (k.alloc _)).mono ?_
    rintro e1 w1 ⟨rfl, hb⟩
    have hx0 : w1.cell? ⟨w.heap.size, 0, none⟩ = some (.slice A xs.length c) := keep_cell hb (by simp)
    have hx1 : w1.cell? ⟨w.heap.size, 1, none⟩ = some (.slice B ys.length e) := keep_cell hb (by simp)
    have hw : Below w.heap.size w w1 := below_alloc (hb)
    clear hb
    go_wp2
    go_ret3
    exact ⟨none, 0, none, 0, rfl, .inl ⟨rfl, rfl⟩, .inl ⟨rfl, rfl⟩, (fun _ _ e1 => by cases e1), hw⟩
  case true =>
    obtain ⟨r2, q2⟩ : ∃ r, (isProc xs.length ps) = r := ⟨_, rfl⟩
    cases r2
    case false =>
      have hO : procOk xs ys ps = false := by unfold procOk ; simp [q1, q2]
      have hV_dbRF := dbRF_no hO
      have hV_dbRK := dbRK_no hO
      have hV_dbOk := dbOk_no hO
      rw [hV_dbRF]
      rw [hV_dbRK]
      rw [hV_dbOk]
      (try rw [hO])
      clear hO hV_dbRF hV_dbRK hV_dbOk
      have HG1 := Lib.hid (fun W (h : IntS W A xs) (k : IntS W B ys) => isTree_any A B c e xs ys W h k _hx _hy hn hm)
      rw [q1] at HG1
      have HG2 := Lib.hid (fun W (zp : IntS W P ps) => isProcess_any A B P c ys.length e cp xs.length ps W zp lp hn)
      rw [q2] at HG2
      clear q1 q2 _hx _hy _bp
      go_enter Try.func29, Try.ntmps29
      go_wp2_with fail
      refine (HG1.out _ (h.alloc _) (k.alloc _)).mono ?_
      rintro e1 w1 ⟨rfl, hb⟩
      have hx0 : w1.cell? ⟨w.heap.size, 0, none⟩ = some (.slice A xs.length c) := keep_cell hb (by simp)
      have hx1 : w1.cell? ⟨w.heap.size, 1, none⟩ = some (.slice B ys.length e) := keep_cell hb (by simp)
      have hw : Below w.heap.size w w1 := below_alloc (hb)
      clear hb
      go_wp2_with fail
      refine (HG2.out _ (zp.below hw)).mono ?_
      rintro e1 w2 ⟨rfl, hb⟩
      replace hx0 := keep_cell hb hx0
      replace hx1 := keep_cell hb hx1
      replace hw := keep_below hb hw
      clear hb
      go_wp2
      go_ret3
      exact ⟨none, 0, none, 0, rfl, .inl ⟨rfl, rfl⟩, .inl ⟨rfl, rfl⟩, (fun _ _ e1 => by cases e1), hw⟩
    case true =>
      have hO : procOk xs ys ps = true := by unfold procOk ; simp [q1, q2]
      have hV_dbRF := dbRF_yes hO
      have hV_dbRK := dbRK_yes hO
      have hV_dbOk := dbOk_yes hO
      rw [hV_dbRF]
      rw [hV_dbRK]
      rw [hV_dbOk]
      (try rw [hO])
      clear hO hV_dbRF hV_dbRK hV_dbOk
      have HG1 := Lib.hid (fun W (h : IntS W A xs) (k : IntS W B ys) => isTree_any A B c e xs ys W h k _hx _hy hn hm)
      rw [q1] at HG1
      have HG2 := Lib.hid (fun W (zp : IntS W P ps) => isProcess_any A B P c ys.length e cp xs.length ps W zp lp hn)
      rw [q2] at HG2
      have hgl := good_len q1
      have hpp := isProc_iff q2
      have hn24 : xs.length ≤ 24 := hgl.2.1
      have HPL : Hid (ps.length = xs.length) := hpp.1
      have HPN : Hid (xs.length = ps.length) := hpp.1.symm
      have HPB := Lib.hid hpp.2
      have HDr := Lib.hid (fun W (h : IntS W A xs) (k : IntS W B ys) (zp : IntS W P ps) => drifts_good q1 A B P c e cp ps W h k zp hpp.1 hpp.2)
      have hdl := dftK_len xs ys ps xs.length
      have HDL := Lib.hid hdl
      have HD1 : Hid (1 ≤ (dftK xs ys ps xs.length).length) := by show 1 ≤ _; omega
      have HDN := Lib.hid (fun j (hj : j < xs.length) => dftK_nth xs ys ps hj)
      have HU := Lib.hid (good_upL q1)
      have HST := Lib.hid (fun (x p : Nat) (h1 : 1 ≤ x) (hx : x < xs.length) (hpx : nth xs x = p) (hl : p < x) (hf : isFrac (dbS xs ys ps p).1 (dbS xs ys ps p).2 = true) => db_step q1 hpp.2 h1 hx hpx hl hf)
      have HDF := Lib.hid (fun (x : Nat) (hx : x < xs.length) => dft_frac q1 hpp.2 hx)
      have HS0 := Lib.hid (db_root xs ys ps)
      have HRD : Hid (∀ x, dbR xs ys ps x = (lowX (nth ps x * (dbS xs ys ps x).2 - (dbS xs ys ps x).1) (dbS xs ys ps x).2, lowY (nth ps x * (dbS xs ys ps x).2 - (dbS xs ys ps x).1) (dbS xs ys ps x).2)) := fun x => rfl
      have HOD : Hid (∀ x, dbOne xs ys ps x = (isFrac (dbS xs ys ps x).1 (dbS xs ys ps x).2 && isFrac (dbR xs ys ps x).1 (dbR xs ys ps x).2)) := fun x => rfl
      have HKS := Lib.hid (fun k => dbK_succ xs ys ps k)
      have HKL := Lib.hid (fun k => dbK_len xs ys ps k)
      have HKN := Lib.hid (fun (k j : Nat) (hj : j < k) => dbK_nth xs ys ps hj)
      have HFS := Lib.hid (fun k => dbF_succ xs ys ps k)
      have HFL := Lib.hid (fun k => dbF_len xs ys ps k)
      have HK0 : Hid (dbK xs ys ps 0 = []) := rfl
      have HF0 : Hid (dbF xs ys ps 0 = []) := rfl
      have HAN := Lib.hid (fun (j : Nat) (hj : j < xs.length) (h : dbOne xs ys ps j = false) => dbAll_no hj h)
      have HAY := Lib.hid (fun (h : ∀ j, j < xs.length → dbOne xs ys ps j = true) => dbAll_yes h)
      obtain ⟨r, hr⟩ : ∃ r, dbAll xs ys ps xs.length = r := ⟨_, rfl⟩
      rw [hr]
      have HR := Lib.hid hr
      clear hgl hpp hdl hr
      generalize dbAll xs ys ps xs.length = AL at *
      generalize dbOne xs ys ps = ON at *
      generalize dbR xs ys ps = RR at *
      generalize dbS xs ys ps = SS at *
      generalize dbK xs ys ps = K at *
      generalize dbF xs ys ps = F at *
      generalize dftK xs ys ps xs.length = DK at *
      generalize dftP xs ys ps = DP at *
      clear q1 q2 _hx _hy _bp
      go_enter Try.func29, Try.ntmps29
      go_wp2_with fail
      refine (HG1.out _ (h.alloc _) (k.alloc _)).mono ?_
      rintro e1 w1 ⟨rfl, hb⟩
      have hx0 : w1.cell? ⟨w.heap.size, 0, none⟩ = some (.slice A xs.length c) := keep_cell hb (by simp)
      have hx1 : w1.cell? ⟨w.heap.size, 1, none⟩ = some (.slice B ys.length e) := keep_cell hb (by simp)
      have hw : Below w.heap.size w w1 := below_alloc (hb)
      clear hb
      go_wp2_with fail
      refine (HG2.out _ (zp.below hw)).mono ?_
      rintro e1 w2 ⟨rfl, hb⟩
      replace hx0 := keep_cell hb hx0
      replace hx1 := keep_cell hb hx1
      replace hw := keep_below hb hw
      clear hb
      clear HG1 HG2
      obtain ⟨i0, hi, hz0, hz1, hz2⟩ := info_parts info_A2
      go_wp2_with fail
      refine (HDr.out _ (h.below hw) (k.below hw) (zp.below hw)).mono ?_
      rintro e1 w9 ⟨A1, c1, rfl, ho, hb⟩
      obtain ⟨gD, rfl, hgD, hrD⟩ := ho.pos HD1.out
      replace hx0 := keep_cell hb hx0
      replace hx1 := keep_cell hb hx1
      replace hw := keep_below hb hw
      clear ho hb
      go_upto_region 4 with (fail)
      have hlw9 : w.heap.size < w9.heap.size := World.block_lt_of_cell? _ _ hx0
      have hDw := hrD.lt
      have hsz : (w9.alloc (.cells #[] 51)).heap.size = w9.heap.size + 1 := by simp
      have hown1 := (own_empty2 w9 (w.heap.size + 1) w9.heap.size rfl (by omega)).alloc (.cells #[] 51)
      have hown2 := own_empty2 (w9.alloc (.cells #[] 51)) (w.heap.size + 1) (w9.heap.size + 1) (by simp) (by omega)
      replace hrD := (hrD.alloc (.cells #[] 51)).alloc (.cells #[] 51)
      have hb9 : Below w9.heap.size w9 ((w9.alloc (.cells #[] 51)).alloc (.cells #[] 51)) := ((Below.refl _ _).alloc (Nat.le_refl _) _).alloc (by simp) _
      replace hx0 := keep_cell hb9 hx0
      replace hx1 := keep_cell hb9 hx1
      replace hw := keep_below hb9 hw
      clear hb9 hsz
      go_wp2
      go_loopw [8, 9, 33] (fun fv kv iv wr => ∃ x : Nat, x ≤ ps.length ∧ iv = .int .i64 x ∧ wr.ownsRow (w.heap.size + 1) 51 2 fv x (i64p (F x)) ∧ wr.ownsRow (w.heap.size + 1) 51 2 kv x (i64p (K x)) ∧ (∀ g : Nat, fv.ownBlock = some g → kv.ownBlock ≠ some g) ∧ fv.ownBlock ≠ some gD ∧ kv.ownBlock ≠ some gD ∧ Hid (∀ j, j < x → ON j = true) ∧ Row2 wr gD DK ∧ wr.cell? ⟨w.heap.size, 0, none⟩ = some (.slice A xs.length c) ∧ wr.cell? ⟨w.heap.size, 1, none⟩ = some (.slice B ys.length e) ∧ Below w.heap.size w wr) (fun _ _ iv _ => ps.length - (intOf iv).toNat)
      case atStart => exact ⟨0, by omega, rfl, by rw [HF0.out]; exact hown1, by rw [HK0.out]; exact hown2, by simp [Value.ownBlock], by simp [Value.ownBlock]; omega, by simp [Value.ownBlock]; omega, fun j hj => by omega, hrD, hx0, hx1, hw⟩
      case round =>
        clear hown1 hown2 hrD hx0 hx1 hw hlw9 hDw
        obtain ⟨x, hx, rfl, hownF, hownK, hFK, hFD, hKD, HA, hrD, hx0, hx1, hw⟩ := hrel
        by_cases hlt : x < ps.length
        · have hxn : x < xs.length := by rw [HPN.out]; exact hlt
          have i1 : (x : Int) < ps.length := by omega
          have i2 : (x : Int) < xs.length := by omega
          have hlw : w.heap.size < wr.heap.size := World.block_lt_of_cell? _ _ hx0
          obtain ⟨b8, o8, rfl, hc8⟩ := (zp.below hw).at_ (j := x) hlt
          obtain ⟨n8, hn8⟩ : ∃ n8, nth ps x = n8 := ⟨_, rfl⟩
          rw [hn8] at hc8
          by_cases hz : x = 0
          · have g2 : ¬ ((x : Int) > 0) := by omega
            have g1 : decide ((x : Int) > 0) = false := decide_eq_false g2
            have hss : SS x = (0, 1) := by rw [hz]; exact HS0.out
            have hfr1 : isFrac (SS x).1 (SS x).2 = true := by rw [hss]; decide
            clear hz
            have HN8 := Lib.hid hn8
            clear hn8
            go_upto_region 8 with (fail)
            obtain ⟨wa, hwa⟩ : ∃ wa, wa = wr.alloc (.cells #[.int .i64 0, .int .i64 1] 51) := ⟨_, rfl⟩
            rw [← hwa]
            have hbA : Below wr.heap.size wr wa := by rw [hwa]; exact (Below.refl _ _).alloc (Nat.le_refl _) _
            have hs0 : wa.cell? ⟨wr.heap.size, 0, none⟩ = some (.int .i64 0) := by rw [hwa]; simp
            have hs1 : wa.cell? ⟨wr.heap.size, 1, none⟩ = some (.int .i64 1) := by rw [hwa]; simp
            have hq0 : wa.frozen? ⟨wr.heap.size, 0, none⟩ = false := by rw [hwa]; simp
            have hq1 : wa.frozen? ⟨wr.heap.size, 1, none⟩ = false := by rw [hwa]; simp
            have hFS := own_ne_ge (g := wr.heap.size) hownF (Nat.le_refl _)
            have hKS := own_ne_ge (g := wr.heap.size) hownK (Nat.le_refl _)
            have hDS : gD < wr.heap.size := hrD.lt
            have hSw : wr.heap.size < wa.heap.size := World.block_lt_of_cell? _ _ hs0
            replace hownF := own_below hownF hbA
            replace hownK := own_below hownK hbA
            replace hrD := hrD.below hbA
            replace hx0 := keep_cell hbA hx0
            replace hx1 := keep_cell hbA hx1
            replace hw := keep_below hbA hw
            clear hwa hbA
            generalize wr.heap.size = gS at hs0 hs1 hq0 hq1 hFS hKS hDS hSw hlw ⊢
            replace hs0 : wa.cell? ⟨gS, 0, none⟩ = some (.int .i64 (SS x).1) := by rw [hss]; exact hs0
            replace hs1 : wa.cell? ⟨gS, 1, none⟩ = some (.int .i64 (SS x).2) := by rw [hss]; exact hs1
            clear hss hc8
            go_upto_region 13 with (fail)
            have hn8 := HN8.out
            have hfb := frac_bd hfr1
            have hm9 := mul_bd (a := nth ps x) (d := (SS x).2) (A := 999) (D := 1000000) (HPB.out x) (by omega)
            have HLo := fun W => lowest_any (nth ps x * (SS x).2 - (SS x).1) (SS x).2 W (by omega) (by omega) (by omega)
            have hq2 := isFrac_low (nth ps x * (SS x).2 - (SS x).1) (SS x).2 (by omega)
            have hrd := HRD.out x
            have e1 : lowX (nth ps x * (SS x).2 - (SS x).1) (SS x).2 = (RR x).1 := by rw [hrd]
            have e2 : lowY (nth ps x * (SS x).2 - (SS x).1) (SS x).2 = (RR x).2 := by rw [hrd]
            rw [e1, e2] at hq2
            have e3 : lowOk (nth ps x * (SS x).2 - (SS x).1) (SS x).2 = true → lowN (nth ps x * (SS x).2 - (SS x).1) (SS x).2 = (RR x).1 ∧ lowM (nth ps x * (SS x).2 - (SS x).1) (SS x).2 = (RR x).2 := fun h => by
              unfold lowN lowM; rw [if_pos h, if_pos h]; exact ⟨e1, e2⟩
            have hone := HOD.out x
            rw [hfr1, hq2, Bool.true_and] at hone
            have hks := HKS.out x
            have hfs := HFS.out x
            clear hrd e1 e2 hq2
            obtain ⟨a9, ha9⟩ : ∃ a, (SS x).1 = a := ⟨_, rfl⟩
            obtain ⟨b9, hb9⟩ : ∃ a, (SS x).2 = a := ⟨_, rfl⟩
            have hks2 : i64p (K (x + 1)) = i64p (K x) ++ [Value.int .i64 a9, Value.int .i64 b9] := by rw [hks, ← ha9, ← hb9]; exact i64p_app _ _ _
            obtain ⟨f9, hf9⟩ : ∃ a, (RR x).1 = a := ⟨_, rfl⟩
            obtain ⟨h9, hh9⟩ : ∃ a, (RR x).2 = a := ⟨_, rfl⟩
            have hfs2 : i64p (F (x + 1)) = i64p (F x) ++ [Value.int .i64 f9, Value.int .i64 h9] := by rw [hfs, ← hf9, ← hh9]; exact i64p_app _ _ _
            rw [ha9] at hone HLo hs0 e3 hfb
            rw [hb9] at hone HLo hs1 e3 hm9 hfb
            rw [hf9, hh9] at e3
            have HKX := Lib.hid hks2
            have HFX := Lib.hid hfs2
            clear hks hfs hks2 hfs2 ha9 hb9 hf9 hh9 hfr1
            obtain ⟨n9, hn9⟩ : ∃ a, nth ps x = a := ⟨_, rfl⟩
            rw [hn9] at HLo hone e3 hm9 hn8
            obtain ⟨m9, hm⟩ : ∃ m, n9 * b9 = m := ⟨_, rfl⟩
            have hw1 : IntKind.i64.wrap (n9 * b9) = m9 := by rw [hm]; exact IntWalk.i64_in _ (by omega)
            rw [hm] at HLo hone e3 hm9
            have hw2 : IntKind.i64.wrap (m9 - a9) = m9 - a9 := IntWalk.i64_in _ (by omega)
            subst hn8
            clear hn9 hm
            obtain ⟨q2, hq2⟩ : ∃ q, lowOk (m9 - a9) b9 = q := ⟨_, rfl⟩
            rw [hq2] at HLo hone e3
            cases q2 with
            | false =>
              have hr : r = false := by rw [← HR.out]; exact HAN.out x hxn hone
              subst hr
              generalize lowN (m9 - a9) b9 = z1 at *
              generalize lowM (m9 - a9) b9 = z2 at *
              replace HLo := Lib.hid HLo
              clear hone hownF hownK e3 hm9 hq2
              go_wp2_with fail
              refine (HLo.out _).mono ?_
              rintro e1 wl ⟨rfl, hb⟩
              replace hw := keep_below_alloc (keep_below hb hw) (.cells #[.int .i64 z1, .int .i64 z2] 51)
              go_wp2
              go_ret3
              exact ⟨none, 0, none, 0, rfl, .inl ⟨rfl, rfl⟩, .inl ⟨rfl, rfl⟩, (fun _ _ e1 => by cases e1), hw⟩
            | true =>
              rw [(e3 rfl).1, (e3 rfl).2] at HLo
              replace HLo := Lib.hid HLo
              have HA' : Hid (∀ j, j < x + 1 → ON j = true) := fun j hj => by
                by_cases e : j = x
                · subst e; exact hone
                · exact HA.out j (by omega)
              clear hone e3 hm9 hq2 HA
              go_wp2_with fail
              refine (HLo.out _).mono ?_
              rintro e1 wl ⟨rfl, hb⟩
              replace hownF := own_below hownF hb
              replace hownK := own_below hownK hb
              replace hrD := hrD.below hb
              replace hs0 := keep_cell hb hs0
              replace hs1 := keep_cell hb hs1
              replace hx0 := keep_cell hb hx0
              replace hx1 := keep_cell hb hx1
              replace hw := keep_below hb hw
              clear hb
              go_upto_region 16 with (fail)
              obtain ⟨wm, hwm⟩ : ∃ wm, wm = wl.alloc (.cells #[.int .i64 f9, .int .i64 h9] 51) := ⟨_, rfl⟩
              rw [← hwm]
              have hbA : Below wl.heap.size wl wm := by rw [hwm]; exact (Below.refl _ _).alloc (Nat.le_refl _) _
              have hr0 : wm.cell? ⟨wl.heap.size, 0, none⟩ = some (.int .i64 f9) := by rw [hwm]; simp
              have hr1 : wm.cell? ⟨wl.heap.size, 1, none⟩ = some (.int .i64 h9) := by rw [hwm]; simp
              have hFR := own_ne_ge (g := wl.heap.size) hownF (Nat.le_refl _)
              have hKR := own_ne_ge (g := wl.heap.size) hownK (Nat.le_refl _)
              replace hownF := own_below hownF hbA
              replace hownK := own_below hownK hbA
              replace hrD := hrD.below hbA
              replace hs0 := keep_cell hbA hs0
              replace hs1 := keep_cell hbA hs1
              replace hx0 := keep_cell hbA hx0
              replace hx1 := keep_cell hbA hx1
              replace hw := keep_below hbA hw
              clear hwm hbA
              generalize wl.heap.size = gR at hr0 hr1 hFR hKR ⊢
              have hKF : ∀ g : Nat, u9.ownBlock = some g → u8.ownBlock ≠ some g := fun g h e => hFK g e h
              refine wp_region_held_drew (S := fun w' => w'.cell? ⟨gR, 0, none⟩ = some (.int .i64 f9) ∧ w'.cell? ⟨gR, 1, none⟩ = some (.int .i64 h9) ∧ w'.cell? ⟨gS, 0, none⟩ = some (.int .i64 a9) ∧ w'.cell? ⟨gS, 1, none⟩ = some (.int .i64 b9) ∧ w'.cell? ⟨w.heap.size, 0, none⟩ = some (.slice A xs.length c) ∧ w'.cell? ⟨w.heap.size, 1, none⟩ = some (.slice B ys.length e) ∧ Below w.heap.size w w') (by kernel_rfl) ⟨hr0, hr1, hs0, hs1, hx0, hx1, hw.drew⟩ (fun hHeld => ?_)
              refine wpAnyH_take (i := 0) (oi := ?oop1) (v := ?vvp1) ?hip1 (by kernel_rfl) (by kernel_rfl) (by kernel_rfl) ?hqp1 (Or.inl ⟨?hgp1, ?hyp1⟩) (by assumption) ?restp1
              case hip1 => simp only [List.getElem?_toArray, List.getElem?_cons_zero, List.getElem?_cons_succ]; rfl
              case hqp1 => exact fun _ _ _ h => h
              case hgp1 => rfl
              case hyp1 =>
                intro wq hSw
                obtain ⟨hr0, hr1, hs0, hs1, hx0, hx1, hw⟩ := hSw
                go_simp
                (try with_reducible rfl)
              (try simp only [Act.put, List.setIfInBounds_toArray, List.set_cons_zero, List.set_cons_succ])
              refine wpAnyH_take (i := 1) (oi := ?oop2) (v := ?vvp2) ?hip2 (by kernel_rfl) (by kernel_rfl) (by kernel_rfl) ?hqp2 (Or.inl ⟨?hgp2, ?hyp2⟩) (by assumption) ?restp2
              case hip2 => simp only [List.getElem?_toArray, List.getElem?_cons_zero, List.getElem?_cons_succ]; rfl
              case hqp2 => exact fun _ _ _ h => h
              case hgp2 => rfl
              case hyp2 =>
                intro wq hSw
                obtain ⟨hr0, hr1, hs0, hs1, hx0, hx1, hw⟩ := hSw
                go_simp
                (try with_reducible rfl)
              (try simp only [Act.put, List.setIfInBounds_toArray, List.set_cons_zero, List.set_cons_succ])
              refine wpAnyH_take (i := 4) (oi := ?oop3) (v := ?vvp3) ?hip3 (by kernel_rfl) (by kernel_rfl) (by kernel_rfl) ?hqp3 (Or.inl ⟨?hgp3, ?hyp3⟩) (by assumption) ?restp3
              case hip3 => simp only [List.getElem?_toArray, List.getElem?_cons_zero, List.getElem?_cons_succ]; rfl
              case hqp3 => exact fun _ _ _ h => h
              case hgp3 => rfl
              case hyp3 =>
                intro wq hSw
                obtain ⟨hr0, hr1, hs0, hs1, hx0, hx1, hw⟩ := hSw
                go_simp
                (try with_reducible rfl)
              (try simp only [Act.put, List.setIfInBounds_toArray, List.set_cons_zero, List.set_cons_succ])
              refine wpAnyH_take (i := 5) (oi := ?oop4) (v := ?vvp4) ?hip4 (by kernel_rfl) (by kernel_rfl) (by kernel_rfl) ?hqp4 (Or.inl ⟨?hgp4, ?hyp4⟩) (by assumption) ?restp4
              case hip4 => simp only [List.getElem?_toArray, List.getElem?_cons_zero, List.getElem?_cons_succ]; rfl
              case hqp4 => exact fun _ _ _ h => h
              case hgp4 => rfl
              case hyp4 =>
                intro wq hSw
                obtain ⟨hr0, hr1, hs0, hs1, hx0, hx1, hw⟩ := hSw
                go_simp
                (try with_reducible rfl)
              (try simp only [Act.put, List.setIfInBounds_toArray, List.set_cons_zero, List.set_cons_succ])
              refine wpAnyH_ready (rs := [2, 6]) (by kernel_rfl) (by simp) ?_
              refine AllReadyH.cons (i := 2) (o := ?oop5) ?hop5 (fun K9 hK9 => ?hstepp5) ?morep5
              case hop5 => simp only [List.getElem?_toArray, List.getElem?_cons_zero, List.getElem?_cons_succ]; rfl
              case hstepp5 =>
                go_simp
                clear hHeld
                refine hK9.out _ _ ⟨keep_cell (Below.drew ((Below.refl wm.heap.size wm).alloc (Nat.le_refl _) _)) hr0, keep_cell (Below.drew ((Below.refl wm.heap.size wm).alloc (Nat.le_refl _) _)) hr1, keep_cell (Below.drew ((Below.refl wm.heap.size wm).alloc (Nat.le_refl _) _)) hs0, keep_cell (Below.drew ((Below.refl wm.heap.size wm).alloc (Nat.le_refl _) _)) hs1, keep_cell (Below.drew ((Below.refl wm.heap.size wm).alloc (Nat.le_refl _) _)) hx0, keep_cell (Below.drew ((Below.refl wm.heap.size wm).alloc (Nat.le_refl _) _)) hx1, Below.drew (keep_below_alloc hw _)⟩ (fun hHeld => ?_)
                clear hK9 K9
                (try simp only [Act.put, List.setIfInBounds_toArray, List.set_cons_zero, List.set_cons_succ])
                refine wpAnyH_name hHeld (fun wap5 hHa hwz => ?_)
                have hbA : Below wm.heap.size wm wap5 := by rw [hwz]; exact Below.drew ((Below.refl wm.heap.size wm).alloc (Nat.le_refl _) _)
                have hKnF := own_ne_ge (g := wm.heap.size) hownK (Nat.le_refl _)
                replace hr0 := keep_cell hbA hr0
                replace hr1 := keep_cell hbA hr1
                replace hs0 := keep_cell hbA hs0
                replace hs1 := keep_cell hbA hs1
                replace hx0 := keep_cell hbA hx0
                replace hx1 := keep_cell hbA hx1
                replace hownF := own_below hownF hbA
                replace hownK := own_below hownK hbA
                replace hrD := hrD.below hbA
                replace hw := keep_below hbA hw
                have hnF : Row2 wap5 wm.heap.size [(f9, h9)] := by rw [hwz]; exact ⟨_, heap_alloc_new wm _, [], rfl⟩
                clear hHeld hbA hwz
                have hHeld := hHa
                clear hHa
                refine wpAnyH_ready (rs := [3, 6]) (by kernel_rfl) (by simp) ?_
                refine AllReadyH.cons (i := 3) (o := ?oop6) ?hop6 (fun K9 hK9 => ?hstepp6) ?morep6
                case hop6 => simp only [List.getElem?_toArray, List.getElem?_cons_zero, List.getElem?_cons_succ]; rfl
                case hstepp6 =>
                  clear hHeld
                  refine step_append_elder _ (by rfl) _ _ 44 (by rfl) (w.heap.size + 1) 51 i0 (.agg #[.int .i64 0, .int .i64 0]) 2 16 Try.underlying44 hi hz0 hz1 hz2 rfl (by decide) _ _ _ (by rfl) hownF ⟨wm.heap.size, 0, none⟩ 1 1 [.int .i64 f9, .int .i64 h9] (by rfl) rfl hnF.news (by simp [Value.oneCell']) (by unfold maxLen; omega) (by omega) (World.block_lt_of_cell? _ _ hx0) ?_
                  intro vF wpp6 hown1 hgrow hat hel
                  have kY := hownK.kept hgrow (ne_or hKF)
                  have kL := hownK.lt
                  have kD := hrD.grown hgrow (fun h => hFD (by exact h))
                  have lD := hrD.lt
                  have khr0 := grown_cell (p := ⟨gR, 0, none⟩) hgrow hr0 (fun h => hFR (by exact h))
                  have khr1 := grown_cell (p := ⟨gR, 1, none⟩) hgrow hr1 (fun h => hFR (by exact h))
                  have khs0 := grown_cell (p := ⟨gS, 0, none⟩) hgrow hs0 (fun h => hFS (by exact h))
                  have khs1 := grown_cell (p := ⟨gS, 1, none⟩) hgrow hs1 (fun h => hFS (by exact h))
                  have khx0 := grown_cell (p := ⟨w.heap.size, 0, none⟩) hgrow hx0 (own_ne (g := w.heap.size) hownF (by omega))
                  have khx1 := grown_cell (p := ⟨w.heap.size, 1, none⟩) hgrow hx1 (own_ne (g := w.heap.size) hownF (by omega))
                  have lR := World.block_lt_of_cell? _ _ hr0
                  have lS := World.block_lt_of_cell? _ _ hs0
                  simp only at lR lS
                  have kw := Below.grown hw hgrow hw.size (fun g hg => by have := (hownF.lt g hg).1; omega)
                  have n1 : vF.ownBlock ≠ some gD := by
                    rcases hat with e | e
                    · rw [e]; exact hFD
                    · rw [e]; intro h'; injection h' with h'; omega
                  have n2 : vF.ownBlock ≠ some gR := by
                    rcases hat with e | e
                    · rw [e]; exact hFR
                    · rw [e]; intro h'; injection h' with h'; omega
                  have n3 : vF.ownBlock ≠ some gS := by
                    rcases hat with e | e
                    · rw [e]; exact hFS
                    · rw [e]; intro h'; injection h' with h'; omega
                  have n5 : ∀ g : Nat, vF.ownBlock = some g → u9.ownBlock ≠ some g := fun g hg => by
                    rcases hat with e | e
                    · rw [e] at hg; exact hFK g hg
                    · rw [e] at hg; injection hg with hg; intro h'; have := (kL g h').2; omega
                  have n6 : ∀ g : Nat, u9.ownBlock = some g → vF.ownBlock ≠ some g := fun g hg h => n5 g h hg
                  rw [← HFX.out] at hown1
                  clear hownF hownK hrD hr0 hr1 hs0 hs1 hx0 hx1 hw hat hel hgrow hFD hFR hFS hFK hKF hnF kL lD lR lS hKnF
                  have hownF := hown1
                  have hownK := kY
                  have hrD := kD
                  have hr0 := khr0
                  have hr1 := khr1
                  have hs0 := khs0
                  have hs1 := khs1
                  have hx0 := khx0
                  have hx1 := khx1
                  have hw := kw
                  have hFD := n1
                  have hFR := n2
                  have hFS := n3
                  have hFK := n5
                  have hKF := n6
                  clear hown1 kY kD khr0 khr1 khs0 khs1 khx0 khx1 kw n1 n2 n3 n5 n6
                  refine hK9.out _ _ ⟨hr0, hr1, hs0, hs1, hx0, hx1, hw⟩ (fun hHeld => ?_)
                  clear hK9 K9
                  (try simp only [Act.put, List.setIfInBounds_toArray, List.set_cons_zero, List.set_cons_succ])
                  refine wpAnyH_ready (rs := [6]) (by kernel_rfl) (by simp) ?_
                  refine AllReadyH.cons (i := 6) (o := ?oop7) ?hop7 (fun K9 hK9 => ?hstepp7) AllReadyH.nil
                  case hop7 => simp only [List.getElem?_toArray, List.getElem?_cons_zero, List.getElem?_cons_succ]; rfl
                  go_simp
                  clear hHeld
                  refine hK9.out _ _ ⟨keep_cell ((Below.refl wpp6.heap.size wpp6).alloc (Nat.le_refl _) _) hr0, keep_cell ((Below.refl wpp6.heap.size wpp6).alloc (Nat.le_refl _) _) hr1, keep_cell ((Below.refl wpp6.heap.size wpp6).alloc (Nat.le_refl _) _) hs0, keep_cell ((Below.refl wpp6.heap.size wpp6).alloc (Nat.le_refl _) _) hs1, keep_cell ((Below.refl wpp6.heap.size wpp6).alloc (Nat.le_refl _) _) hx0, keep_cell ((Below.refl wpp6.heap.size wpp6).alloc (Nat.le_refl _) _) hx1, keep_below_alloc hw _⟩ (fun hHeld => ?_)
                  clear hK9 K9
                  (try simp only [Act.put, List.setIfInBounds_toArray, List.set_cons_zero, List.set_cons_succ])
                  refine wpAnyH_name hHeld (fun wap7 hHa hwz => ?_)
                  have hbA : Below wpp6.heap.size wpp6 wap7 := by rw [hwz]; exact (Below.refl wpp6.heap.size wpp6).alloc (Nat.le_refl _) _
                  have hFnK := own_ne_ge (g := wpp6.heap.size) hownF (Nat.le_refl _)
                  replace hr0 := keep_cell hbA hr0
                  replace hr1 := keep_cell hbA hr1
                  replace hs0 := keep_cell hbA hs0
                  replace hs1 := keep_cell hbA hs1
                  replace hx0 := keep_cell hbA hx0
                  replace hx1 := keep_cell hbA hx1
                  replace hownF := own_below hownF hbA
                  replace hownK := own_below hownK hbA
                  replace hrD := hrD.below hbA
                  replace hw := keep_below hbA hw
                  have hnK : Row2 wap7 wpp6.heap.size [(a9, b9)] := by rw [hwz]; exact ⟨_, heap_alloc_new wpp6 _, [], rfl⟩
                  generalize wpp6.heap.size = gNK at hnK hFnK ⊢
                  clear hHeld hbA hwz
                  have hHeld := hHa
                  clear hHa
                  refine wpAnyH_ready (rs := [7]) (by kernel_rfl) (by simp) ?_
                  refine AllReadyH.cons (i := 7) (o := ?oop8) ?hop8 (fun K9 hK9 => ?hstepp8) AllReadyH.nil
                  case hop8 => simp only [List.getElem?_toArray, List.getElem?_cons_zero, List.getElem?_cons_succ]; rfl
                  clear hHeld
                  refine step_append_elder _ (by rfl) _ _ 44 (by rfl) (w.heap.size + 1) 51 i0 (.agg #[.int .i64 0, .int .i64 0]) 2 16 Try.underlying44 hi hz0 hz1 hz2 rfl (by decide) _ _ _ (by rfl) hownK ⟨gNK, 0, none⟩ 1 1 [.int .i64 a9, .int .i64 b9] (by rfl) rfl hnK.news (by simp [Value.oneCell']) (by unfold maxLen; omega) (by omega) (World.block_lt_of_cell? _ _ hx0) ?_
                  intro vK wpp8 hown1 hgrow hat hel
                  have kY := hownF.kept hgrow (ne_or hFK)
                  have kL := hownF.lt
                  have kD := hrD.grown hgrow (fun h => hKD (by exact h))
                  have lD := hrD.lt
                  have khr0 := grown_cell (p := ⟨gR, 0, none⟩) hgrow hr0 (fun h => hKR (by exact h))
                  have khr1 := grown_cell (p := ⟨gR, 1, none⟩) hgrow hr1 (fun h => hKR (by exact h))
                  have khs0 := grown_cell (p := ⟨gS, 0, none⟩) hgrow hs0 (fun h => hKS (by exact h))
                  have khs1 := grown_cell (p := ⟨gS, 1, none⟩) hgrow hs1 (fun h => hKS (by exact h))
                  have khx0 := grown_cell (p := ⟨w.heap.size, 0, none⟩) hgrow hx0 (own_ne (g := w.heap.size) hownK (by omega))
                  have khx1 := grown_cell (p := ⟨w.heap.size, 1, none⟩) hgrow hx1 (own_ne (g := w.heap.size) hownK (by omega))
                  have lR := World.block_lt_of_cell? _ _ hr0
                  have lS := World.block_lt_of_cell? _ _ hs0
                  simp only at lR lS
                  have kw := Below.grown hw hgrow hw.size (fun g hg => by have := (hownK.lt g hg).1; omega)
                  have n1 : vK.ownBlock ≠ some gD := by
                    rcases hat with e | e
                    · rw [e]; exact hKD
                    · rw [e]; intro h'; injection h' with h'; omega
                  have n2 : vK.ownBlock ≠ some gR := by
                    rcases hat with e | e
                    · rw [e]; exact hKR
                    · rw [e]; intro h'; injection h' with h'; omega
                  have n3 : vK.ownBlock ≠ some gS := by
                    rcases hat with e | e
                    · rw [e]; exact hKS
                    · rw [e]; intro h'; injection h' with h'; omega
                  have n5 : ∀ g : Nat, vK.ownBlock = some g → vF.ownBlock ≠ some g := fun g hg => by
                    rcases hat with e | e
                    · rw [e] at hg; exact hKF g hg
                    · rw [e] at hg; injection hg with hg; intro h'; have := (kL g h').2; omega
                  have n6 : ∀ g : Nat, vF.ownBlock = some g → vK.ownBlock ≠ some g := fun g hg h => n5 g h hg
                  rw [← HKX.out] at hown1
                  clear hownK hownF hrD hr0 hr1 hs0 hs1 hx0 hx1 hw hat hel hgrow hKD hKR hKS hKF hFK hnK kL lD lR lS hFnK
                  have hownK := hown1
                  have hownF := kY
                  have hrD := kD
                  have hr0 := khr0
                  have hr1 := khr1
                  have hs0 := khs0
                  have hs1 := khs1
                  have hx0 := khx0
                  have hx1 := khx1
                  have hw := kw
                  have hKD := n1
                  have hKR := n2
                  have hKS := n3
                  have hKF := n5
                  have hFK := n6
                  clear hown1 kY kD khr0 khr1 khs0 khs1 khx0 khx1 kw n1 n2 n3 n5 n6
                  refine hK9.out _ _ ⟨hr0, hr1, hs0, hs1, hx0, hx1, hw⟩ (fun hHeld => ?_)
                  clear hK9 K9
                  (try simp only [Act.put, List.setIfInBounds_toArray, List.set_cons_zero, List.set_cons_succ])
                  refine wpAnyH_take (i := 8) (oi := ?oop9) (v := ?vvp9) ?hip9 (by kernel_rfl) (by kernel_rfl) (by kernel_rfl) ?hqp9 (Or.inl ⟨?hgp9, ?hyp9⟩) (by assumption) ?restp9
                  case hip9 => simp only [List.getElem?_toArray, List.getElem?_cons_zero, List.getElem?_cons_succ]; rfl
                  case hqp9 => exact fun _ _ _ h => h
                  case hgp9 => rfl
                  case hyp9 =>
                    intro wq hSw
                    obtain ⟨hr0, hr1, hs0, hs1, hx0, hx1, hw⟩ := hSw
                    go_simp
                    (try with_reducible rfl)
                  (try simp only [Act.put, List.setIfInBounds_toArray, List.set_cons_zero, List.set_cons_succ])
                  refine wpAnyH_take (i := 9) (oi := ?oop10) (v := ?vvp10) ?hip10 (by kernel_rfl) (by kernel_rfl) (by kernel_rfl) ?hqp10 (Or.inl ⟨?hgp10, ?hyp10⟩) (by assumption) ?restp10
                  case hip10 => simp only [List.getElem?_toArray, List.getElem?_cons_zero, List.getElem?_cons_succ]; rfl
                  case hqp10 => exact fun _ _ _ h => h
                  case hgp10 => rfl
                  case hyp10 =>
                    intro wq hSw
                    obtain ⟨hr0, hr1, hs0, hs1, hx0, hx1, hw⟩ := hSw
                    go_simp
                    (try with_reducible rfl)
                  (try simp only [Act.put, List.setIfInBounds_toArray, List.set_cons_zero, List.set_cons_succ])
                  clear hHeld
                  refine wpAnyH_done (by kernel_rfl) ?_ _
                  clear hr0 hr1 hs0 hs1 hFR hKR hFS hKS hKF
                  go_wp2
                  go_roundw
                  case rel => exact ⟨x + 1, by omega, by go_num, hownF, hownK, hFK, hFD, hKD, HA', hrD, hx0, hx1, hw⟩
                  case measure => simp only [intOf]; omega
                refine AllReadyH.cons (i := 6) (o := ?oop11) ?hop11 (fun K9 hK9 => ?hstepp11) ?morep11
                case hop11 => simp only [List.getElem?_toArray, List.getElem?_cons_zero, List.getElem?_cons_succ]; rfl
                case hstepp11 =>
                  go_simp
                  clear hHeld
                  refine hK9.out _ _ ⟨keep_cell ((Below.refl wap5.heap.size wap5).alloc (Nat.le_refl _) _) hr0, keep_cell ((Below.refl wap5.heap.size wap5).alloc (Nat.le_refl _) _) hr1, keep_cell ((Below.refl wap5.heap.size wap5).alloc (Nat.le_refl _) _) hs0, keep_cell ((Below.refl wap5.heap.size wap5).alloc (Nat.le_refl _) _) hs1, keep_cell ((Below.refl wap5.heap.size wap5).alloc (Nat.le_refl _) _) hx0, keep_cell ((Below.refl wap5.heap.size wap5).alloc (Nat.le_refl _) _) hx1, keep_below_alloc hw _⟩ (fun hHeld => ?_)
                  clear hK9 K9
                  (try simp only [Act.put, List.setIfInBounds_toArray, List.set_cons_zero, List.set_cons_succ])
                  refine wpAnyH_name hHeld (fun wap11 hHa hwz => ?_)
                  have hbA : Below wap5.heap.size wap5 wap11 := by rw [hwz]; exact (Below.refl wap5.heap.size wap5).alloc (Nat.le_refl _) _
                  have hFnK := own_ne_ge (g := wap5.heap.size) hownF (Nat.le_refl _)
                  replace hr0 := keep_cell hbA hr0
                  replace hr1 := keep_cell hbA hr1
                  replace hs0 := keep_cell hbA hs0
                  replace hs1 := keep_cell hbA hs1
                  replace hx0 := keep_cell hbA hx0
                  replace hx1 := keep_cell hbA hx1
                  replace hownF := own_below hownF hbA
                  replace hownK := own_below hownK hbA
                  replace hrD := hrD.below hbA
                  replace hnF := hnF.below hbA
                  replace hw := keep_below hbA hw
                  have hnK : Row2 wap11 wap5.heap.size [(a9, b9)] := by rw [hwz]; exact ⟨_, heap_alloc_new wap5 _, [], rfl⟩
                  generalize wap5.heap.size = gNK at hnK hFnK ⊢
                  clear hHeld hbA hwz
                  have hHeld := hHa
                  clear hHa
                  refine wpAnyH_ready (rs := [3]) (by kernel_rfl) (by simp) ?_
                  refine AllReadyH.cons (i := 3) (o := ?oop12) ?hop12 (fun K9 hK9 => ?hstepp12) AllReadyH.nil
                  case hop12 => simp only [List.getElem?_toArray, List.getElem?_cons_zero, List.getElem?_cons_succ]; rfl
                  clear hHeld
                  refine step_append_elder _ (by rfl) _ _ 44 (by rfl) (w.heap.size + 1) 51 i0 (.agg #[.int .i64 0, .int .i64 0]) 2 16 Try.underlying44 hi hz0 hz1 hz2 rfl (by decide) _ _ _ (by rfl) hownF ⟨wm.heap.size, 0, none⟩ 1 1 [.int .i64 f9, .int .i64 h9] (by rfl) rfl hnF.news (by simp [Value.oneCell']) (by unfold maxLen; omega) (by omega) (World.block_lt_of_cell? _ _ hx0) ?_
                  intro vF wpp12 hown1 hgrow hat hel
                  have kY := hownK.kept hgrow (ne_or hKF)
                  have kL := hownK.lt
                  have kD := hrD.grown hgrow (fun h => hFD (by exact h))
                  have lD := hrD.lt
                  have khr0 := grown_cell (p := ⟨gR, 0, none⟩) hgrow hr0 (fun h => hFR (by exact h))
                  have khr1 := grown_cell (p := ⟨gR, 1, none⟩) hgrow hr1 (fun h => hFR (by exact h))
                  have khs0 := grown_cell (p := ⟨gS, 0, none⟩) hgrow hs0 (fun h => hFS (by exact h))
                  have khs1 := grown_cell (p := ⟨gS, 1, none⟩) hgrow hs1 (fun h => hFS (by exact h))
                  have khx0 := grown_cell (p := ⟨w.heap.size, 0, none⟩) hgrow hx0 (own_ne (g := w.heap.size) hownF (by omega))
                  have khx1 := grown_cell (p := ⟨w.heap.size, 1, none⟩) hgrow hx1 (own_ne (g := w.heap.size) hownF (by omega))
                  have lR := World.block_lt_of_cell? _ _ hr0
                  have lS := World.block_lt_of_cell? _ _ hs0
                  simp only at lR lS
                  have kw := Below.grown hw hgrow hw.size (fun g hg => by have := (hownF.lt g hg).1; omega)
                  have kn := hnK.grown hgrow (fun h => hFnK (by exact h))
                  have ln := hnK.lt
                  have n1 : vF.ownBlock ≠ some gD := by
                    rcases hat with e | e
                    · rw [e]; exact hFD
                    · rw [e]; intro h'; injection h' with h'; omega
                  have n2 : vF.ownBlock ≠ some gR := by
                    rcases hat with e | e
                    · rw [e]; exact hFR
                    · rw [e]; intro h'; injection h' with h'; omega
                  have n3 : vF.ownBlock ≠ some gS := by
                    rcases hat with e | e
                    · rw [e]; exact hFS
                    · rw [e]; intro h'; injection h' with h'; omega
                  have n4 : vF.ownBlock ≠ some gNK := by
                    rcases hat with e | e
                    · rw [e]; exact hFnK
                    · rw [e]; intro h'; injection h' with h'; omega
                  have n5 : ∀ g : Nat, vF.ownBlock = some g → u9.ownBlock ≠ some g := fun g hg => by
                    rcases hat with e | e
                    · rw [e] at hg; exact hFK g hg
                    · rw [e] at hg; injection hg with hg; intro h'; have := (kL g h').2; omega
                  have n6 : ∀ g : Nat, u9.ownBlock = some g → vF.ownBlock ≠ some g := fun g hg h => n5 g h hg
                  rw [← HFX.out] at hown1
                  clear hownF hownK hrD hr0 hr1 hs0 hs1 hx0 hx1 hw hat hel hgrow hFD hFR hFS hFK hKF hnF kL lD lR lS hnK hFnK ln hKnF
                  have hownF := hown1
                  have hownK := kY
                  have hrD := kD
                  have hr0 := khr0
                  have hr1 := khr1
                  have hs0 := khs0
                  have hs1 := khs1
                  have hx0 := khx0
                  have hx1 := khx1
                  have hw := kw
                  have hFD := n1
                  have hFR := n2
                  have hFS := n3
                  have hFK := n5
                  have hKF := n6
                  have hnK := kn
                  have hFnK := n4
                  clear hown1 kY kD khr0 khr1 khs0 khs1 khx0 khx1 kw n1 n2 n3 n5 n6 kn n4
                  refine hK9.out _ _ ⟨hr0, hr1, hs0, hs1, hx0, hx1, hw⟩ (fun hHeld => ?_)
                  clear hK9 K9
                  (try simp only [Act.put, List.setIfInBounds_toArray, List.set_cons_zero, List.set_cons_succ])
                  refine wpAnyH_ready (rs := [7]) (by kernel_rfl) (by simp) ?_
                  refine AllReadyH.cons (i := 7) (o := ?oop13) ?hop13 (fun K9 hK9 => ?hstepp13) AllReadyH.nil
                  case hop13 => simp only [List.getElem?_toArray, List.getElem?_cons_zero, List.getElem?_cons_succ]; rfl
                  clear hHeld
                  refine step_append_elder _ (by rfl) _ _ 44 (by rfl) (w.heap.size + 1) 51 i0 (.agg #[.int .i64 0, .int .i64 0]) 2 16 Try.underlying44 hi hz0 hz1 hz2 rfl (by decide) _ _ _ (by rfl) hownK ⟨gNK, 0, none⟩ 1 1 [.int .i64 a9, .int .i64 b9] (by rfl) rfl hnK.news (by simp [Value.oneCell']) (by unfold maxLen; omega) (by omega) (World.block_lt_of_cell? _ _ hx0) ?_
                  intro vK wpp13 hown1 hgrow hat hel
                  have kY := hownF.kept hgrow (ne_or hFK)
                  have kL := hownF.lt
                  have kD := hrD.grown hgrow (fun h => hKD (by exact h))
                  have lD := hrD.lt
                  have khr0 := grown_cell (p := ⟨gR, 0, none⟩) hgrow hr0 (fun h => hKR (by exact h))
                  have khr1 := grown_cell (p := ⟨gR, 1, none⟩) hgrow hr1 (fun h => hKR (by exact h))
                  have khs0 := grown_cell (p := ⟨gS, 0, none⟩) hgrow hs0 (fun h => hKS (by exact h))
                  have khs1 := grown_cell (p := ⟨gS, 1, none⟩) hgrow hs1 (fun h => hKS (by exact h))
                  have khx0 := grown_cell (p := ⟨w.heap.size, 0, none⟩) hgrow hx0 (own_ne (g := w.heap.size) hownK (by omega))
                  have khx1 := grown_cell (p := ⟨w.heap.size, 1, none⟩) hgrow hx1 (own_ne (g := w.heap.size) hownK (by omega))
                  have lR := World.block_lt_of_cell? _ _ hr0
                  have lS := World.block_lt_of_cell? _ _ hs0
                  simp only at lR lS
                  have kw := Below.grown hw hgrow hw.size (fun g hg => by have := (hownK.lt g hg).1; omega)
                  have n1 : vK.ownBlock ≠ some gD := by
                    rcases hat with e | e
                    · rw [e]; exact hKD
                    · rw [e]; intro h'; injection h' with h'; omega
                  have n2 : vK.ownBlock ≠ some gR := by
                    rcases hat with e | e
                    · rw [e]; exact hKR
                    · rw [e]; intro h'; injection h' with h'; omega
                  have n3 : vK.ownBlock ≠ some gS := by
                    rcases hat with e | e
                    · rw [e]; exact hKS
                    · rw [e]; intro h'; injection h' with h'; omega
                  have n5 : ∀ g : Nat, vK.ownBlock = some g → vF.ownBlock ≠ some g := fun g hg => by
                    rcases hat with e | e
                    · rw [e] at hg; exact hKF g hg
                    · rw [e] at hg; injection hg with hg; intro h'; have := (kL g h').2; omega
                  have n6 : ∀ g : Nat, vF.ownBlock = some g → vK.ownBlock ≠ some g := fun g hg h => n5 g h hg
                  rw [← HKX.out] at hown1
                  clear hownK hownF hrD hr0 hr1 hs0 hs1 hx0 hx1 hw hat hel hgrow hKD hKR hKS hKF hFK hnK kL lD lR lS hFnK
                  have hownK := hown1
                  have hownF := kY
                  have hrD := kD
                  have hr0 := khr0
                  have hr1 := khr1
                  have hs0 := khs0
                  have hs1 := khs1
                  have hx0 := khx0
                  have hx1 := khx1
                  have hw := kw
                  have hKD := n1
                  have hKR := n2
                  have hKS := n3
                  have hKF := n5
                  have hFK := n6
                  clear hown1 kY kD khr0 khr1 khs0 khs1 khx0 khx1 kw n1 n2 n3 n5 n6
                  refine hK9.out _ _ ⟨hr0, hr1, hs0, hs1, hx0, hx1, hw⟩ (fun hHeld => ?_)
                  clear hK9 K9
                  (try simp only [Act.put, List.setIfInBounds_toArray, List.set_cons_zero, List.set_cons_succ])
                  refine wpAnyH_take (i := 8) (oi := ?oop14) (v := ?vvp14) ?hip14 (by kernel_rfl) (by kernel_rfl) (by kernel_rfl) ?hqp14 (Or.inl ⟨?hgp14, ?hyp14⟩) (by assumption) ?restp14
                  case hip14 => simp only [List.getElem?_toArray, List.getElem?_cons_zero, List.getElem?_cons_succ]; rfl
                  case hqp14 => exact fun _ _ _ h => h
                  case hgp14 => rfl
                  case hyp14 =>
                    intro wq hSw
                    obtain ⟨hr0, hr1, hs0, hs1, hx0, hx1, hw⟩ := hSw
                    go_simp
                    (try with_reducible rfl)
                  (try simp only [Act.put, List.setIfInBounds_toArray, List.set_cons_zero, List.set_cons_succ])
                  refine wpAnyH_take (i := 9) (oi := ?oop15) (v := ?vvp15) ?hip15 (by kernel_rfl) (by kernel_rfl) (by kernel_rfl) ?hqp15 (Or.inl ⟨?hgp15, ?hyp15⟩) (by assumption) ?restp15
                  case hip15 => simp only [List.getElem?_toArray, List.getElem?_cons_zero, List.getElem?_cons_succ]; rfl
                  case hqp15 => exact fun _ _ _ h => h
                  case hgp15 => rfl
                  case hyp15 =>
                    intro wq hSw
                    obtain ⟨hr0, hr1, hs0, hs1, hx0, hx1, hw⟩ := hSw
                    go_simp
                    (try with_reducible rfl)
                  (try simp only [Act.put, List.setIfInBounds_toArray, List.set_cons_zero, List.set_cons_succ])
                  clear hHeld
                  refine wpAnyH_done (by kernel_rfl) ?_ _
                  clear hr0 hr1 hs0 hs1 hFR hKR hFS hKS hKF
                  go_wp2
                  go_roundw
                  case rel => exact ⟨x + 1, by omega, by go_num, hownF, hownK, hFK, hFD, hKD, HA', hrD, hx0, hx1, hw⟩
                  case measure => simp only [intOf]; omega
                exact AllReadyH.nil
              refine AllReadyH.cons (i := 6) (o := ?oop16) ?hop16 (fun K9 hK9 => ?hstepp16) ?morep16
              case hop16 => simp only [List.getElem?_toArray, List.getElem?_cons_zero, List.getElem?_cons_succ]; rfl
              case hstepp16 =>
                go_simp
                clear hHeld
                refine hK9.out _ _ ⟨keep_cell (Below.drew ((Below.refl wm.heap.size wm).alloc (Nat.le_refl _) _)) hr0, keep_cell (Below.drew ((Below.refl wm.heap.size wm).alloc (Nat.le_refl _) _)) hr1, keep_cell (Below.drew ((Below.refl wm.heap.size wm).alloc (Nat.le_refl _) _)) hs0, keep_cell (Below.drew ((Below.refl wm.heap.size wm).alloc (Nat.le_refl _) _)) hs1, keep_cell (Below.drew ((Below.refl wm.heap.size wm).alloc (Nat.le_refl _) _)) hx0, keep_cell (Below.drew ((Below.refl wm.heap.size wm).alloc (Nat.le_refl _) _)) hx1, Below.drew (keep_below_alloc hw _)⟩ (fun hHeld => ?_)
                clear hK9 K9
                (try simp only [Act.put, List.setIfInBounds_toArray, List.set_cons_zero, List.set_cons_succ])
                refine wpAnyH_name hHeld (fun wap16 hHa hwz => ?_)
                have hbA : Below wm.heap.size wm wap16 := by rw [hwz]; exact Below.drew ((Below.refl wm.heap.size wm).alloc (Nat.le_refl _) _)
                have hFnK := own_ne_ge (g := wm.heap.size) hownF (Nat.le_refl _)
                replace hr0 := keep_cell hbA hr0
                replace hr1 := keep_cell hbA hr1
                replace hs0 := keep_cell hbA hs0
                replace hs1 := keep_cell hbA hs1
                replace hx0 := keep_cell hbA hx0
                replace hx1 := keep_cell hbA hx1
                replace hownF := own_below hownF hbA
                replace hownK := own_below hownK hbA
                replace hrD := hrD.below hbA
                replace hw := keep_below hbA hw
                have hnK : Row2 wap16 wm.heap.size [(a9, b9)] := by rw [hwz]; exact ⟨_, heap_alloc_new wm _, [], rfl⟩
                clear hHeld hbA hwz
                have hHeld := hHa
                clear hHa
                refine wpAnyH_ready (rs := [2]) (by kernel_rfl) (by simp) ?_
                refine AllReadyH.cons (i := 2) (o := ?oop17) ?hop17 (fun K9 hK9 => ?hstepp17) AllReadyH.nil
                case hop17 => simp only [List.getElem?_toArray, List.getElem?_cons_zero, List.getElem?_cons_succ]; rfl
                go_simp
                clear hHeld
                refine hK9.out _ _ ⟨keep_cell ((Below.refl wap16.heap.size wap16).alloc (Nat.le_refl _) _) hr0, keep_cell ((Below.refl wap16.heap.size wap16).alloc (Nat.le_refl _) _) hr1, keep_cell ((Below.refl wap16.heap.size wap16).alloc (Nat.le_refl _) _) hs0, keep_cell ((Below.refl wap16.heap.size wap16).alloc (Nat.le_refl _) _) hs1, keep_cell ((Below.refl wap16.heap.size wap16).alloc (Nat.le_refl _) _) hx0, keep_cell ((Below.refl wap16.heap.size wap16).alloc (Nat.le_refl _) _) hx1, keep_below_alloc hw _⟩ (fun hHeld => ?_)
                clear hK9 K9
                (try simp only [Act.put, List.setIfInBounds_toArray, List.set_cons_zero, List.set_cons_succ])
                refine wpAnyH_name hHeld (fun wap17 hHa hwz => ?_)
                have hbA : Below wap16.heap.size wap16 wap17 := by rw [hwz]; exact (Below.refl wap16.heap.size wap16).alloc (Nat.le_refl _) _
                have hKnF := own_ne_ge (g := wap16.heap.size) hownK (Nat.le_refl _)
                replace hr0 := keep_cell hbA hr0
                replace hr1 := keep_cell hbA hr1
                replace hs0 := keep_cell hbA hs0
                replace hs1 := keep_cell hbA hs1
                replace hx0 := keep_cell hbA hx0
                replace hx1 := keep_cell hbA hx1
                replace hownF := own_below hownF hbA
                replace hownK := own_below hownK hbA
                replace hrD := hrD.below hbA
                replace hnK := hnK.below hbA
                replace hw := keep_below hbA hw
                have hnF : Row2 wap17 wap16.heap.size [(f9, h9)] := by rw [hwz]; exact ⟨_, heap_alloc_new wap16 _, [], rfl⟩
                generalize wap16.heap.size = gNF at hnF hKnF ⊢
                clear hHeld hbA hwz
                have hHeld := hHa
                clear hHa
                refine wpAnyH_ready (rs := [3]) (by kernel_rfl) (by simp) ?_
                refine AllReadyH.cons (i := 3) (o := ?oop18) ?hop18 (fun K9 hK9 => ?hstepp18) AllReadyH.nil
                case hop18 => simp only [List.getElem?_toArray, List.getElem?_cons_zero, List.getElem?_cons_succ]; rfl
                clear hHeld
                refine step_append_elder _ (by rfl) _ _ 44 (by rfl) (w.heap.size + 1) 51 i0 (.agg #[.int .i64 0, .int .i64 0]) 2 16 Try.underlying44 hi hz0 hz1 hz2 rfl (by decide) _ _ _ (by rfl) hownF ⟨gNF, 0, none⟩ 1 1 [.int .i64 f9, .int .i64 h9] (by rfl) rfl hnF.news (by simp [Value.oneCell']) (by unfold maxLen; omega) (by omega) (World.block_lt_of_cell? _ _ hx0) ?_
                intro vF wpp18 hown1 hgrow hat hel
                have kY := hownK.kept hgrow (ne_or hKF)
                have kL := hownK.lt
                have kD := hrD.grown hgrow (fun h => hFD (by exact h))
                have lD := hrD.lt
                have khr0 := grown_cell (p := ⟨gR, 0, none⟩) hgrow hr0 (fun h => hFR (by exact h))
                have khr1 := grown_cell (p := ⟨gR, 1, none⟩) hgrow hr1 (fun h => hFR (by exact h))
                have khs0 := grown_cell (p := ⟨gS, 0, none⟩) hgrow hs0 (fun h => hFS (by exact h))
                have khs1 := grown_cell (p := ⟨gS, 1, none⟩) hgrow hs1 (fun h => hFS (by exact h))
                have khx0 := grown_cell (p := ⟨w.heap.size, 0, none⟩) hgrow hx0 (own_ne (g := w.heap.size) hownF (by omega))
                have khx1 := grown_cell (p := ⟨w.heap.size, 1, none⟩) hgrow hx1 (own_ne (g := w.heap.size) hownF (by omega))
                have lR := World.block_lt_of_cell? _ _ hr0
                have lS := World.block_lt_of_cell? _ _ hs0
                simp only at lR lS
                have kw := Below.grown hw hgrow hw.size (fun g hg => by have := (hownF.lt g hg).1; omega)
                have kn := hnK.grown hgrow (fun h => hFnK (by exact h))
                have ln := hnK.lt
                have n1 : vF.ownBlock ≠ some gD := by
                  rcases hat with e | e
                  · rw [e]; exact hFD
                  · rw [e]; intro h'; injection h' with h'; omega
                have n2 : vF.ownBlock ≠ some gR := by
                  rcases hat with e | e
                  · rw [e]; exact hFR
                  · rw [e]; intro h'; injection h' with h'; omega
                have n3 : vF.ownBlock ≠ some gS := by
                  rcases hat with e | e
                  · rw [e]; exact hFS
                  · rw [e]; intro h'; injection h' with h'; omega
                have n4 : vF.ownBlock ≠ some wm.heap.size := by
                  rcases hat with e | e
                  · rw [e]; exact hFnK
                  · rw [e]; intro h'; injection h' with h'; omega
                have n5 : ∀ g : Nat, vF.ownBlock = some g → u9.ownBlock ≠ some g := fun g hg => by
                  rcases hat with e | e
                  · rw [e] at hg; exact hFK g hg
                  · rw [e] at hg; injection hg with hg; intro h'; have := (kL g h').2; omega
                have n6 : ∀ g : Nat, u9.ownBlock = some g → vF.ownBlock ≠ some g := fun g hg h => n5 g h hg
                rw [← HFX.out] at hown1
                clear hownF hownK hrD hr0 hr1 hs0 hs1 hx0 hx1 hw hat hel hgrow hFD hFR hFS hFK hKF hnF kL lD lR lS hnK hFnK ln hKnF
                have hownF := hown1
                have hownK := kY
                have hrD := kD
                have hr0 := khr0
                have hr1 := khr1
                have hs0 := khs0
                have hs1 := khs1
                have hx0 := khx0
                have hx1 := khx1
                have hw := kw
                have hFD := n1
                have hFR := n2
                have hFS := n3
                have hFK := n5
                have hKF := n6
                have hnK := kn
                have hFnK := n4
                clear hown1 kY kD khr0 khr1 khs0 khs1 khx0 khx1 kw n1 n2 n3 n5 n6 kn n4
                refine hK9.out _ _ ⟨hr0, hr1, hs0, hs1, hx0, hx1, hw⟩ (fun hHeld => ?_)
                clear hK9 K9
                (try simp only [Act.put, List.setIfInBounds_toArray, List.set_cons_zero, List.set_cons_succ])
                refine wpAnyH_ready (rs := [7]) (by kernel_rfl) (by simp) ?_
                refine AllReadyH.cons (i := 7) (o := ?oop19) ?hop19 (fun K9 hK9 => ?hstepp19) AllReadyH.nil
                case hop19 => simp only [List.getElem?_toArray, List.getElem?_cons_zero, List.getElem?_cons_succ]; rfl
                clear hHeld
                refine step_append_elder _ (by rfl) _ _ 44 (by rfl) (w.heap.size + 1) 51 i0 (.agg #[.int .i64 0, .int .i64 0]) 2 16 Try.underlying44 hi hz0 hz1 hz2 rfl (by decide) _ _ _ (by rfl) hownK ⟨wm.heap.size, 0, none⟩ 1 1 [.int .i64 a9, .int .i64 b9] (by rfl) rfl hnK.news (by simp [Value.oneCell']) (by unfold maxLen; omega) (by omega) (World.block_lt_of_cell? _ _ hx0) ?_
                intro vK wpp19 hown1 hgrow hat hel
                have kY := hownF.kept hgrow (ne_or hFK)
                have kL := hownF.lt
                have kD := hrD.grown hgrow (fun h => hKD (by exact h))
                have lD := hrD.lt
                have khr0 := grown_cell (p := ⟨gR, 0, none⟩) hgrow hr0 (fun h => hKR (by exact h))
                have khr1 := grown_cell (p := ⟨gR, 1, none⟩) hgrow hr1 (fun h => hKR (by exact h))
                have khs0 := grown_cell (p := ⟨gS, 0, none⟩) hgrow hs0 (fun h => hKS (by exact h))
                have khs1 := grown_cell (p := ⟨gS, 1, none⟩) hgrow hs1 (fun h => hKS (by exact h))
                have khx0 := grown_cell (p := ⟨w.heap.size, 0, none⟩) hgrow hx0 (own_ne (g := w.heap.size) hownK (by omega))
                have khx1 := grown_cell (p := ⟨w.heap.size, 1, none⟩) hgrow hx1 (own_ne (g := w.heap.size) hownK (by omega))
                have lR := World.block_lt_of_cell? _ _ hr0
                have lS := World.block_lt_of_cell? _ _ hs0
                simp only at lR lS
                have kw := Below.grown hw hgrow hw.size (fun g hg => by have := (hownK.lt g hg).1; omega)
                have n1 : vK.ownBlock ≠ some gD := by
                  rcases hat with e | e
                  · rw [e]; exact hKD
                  · rw [e]; intro h'; injection h' with h'; omega
                have n2 : vK.ownBlock ≠ some gR := by
                  rcases hat with e | e
                  · rw [e]; exact hKR
                  · rw [e]; intro h'; injection h' with h'; omega
                have n3 : vK.ownBlock ≠ some gS := by
                  rcases hat with e | e
                  · rw [e]; exact hKS
                  · rw [e]; intro h'; injection h' with h'; omega
                have n5 : ∀ g : Nat, vK.ownBlock = some g → vF.ownBlock ≠ some g := fun g hg => by
                  rcases hat with e | e
                  · rw [e] at hg; exact hKF g hg
                  · rw [e] at hg; injection hg with hg; intro h'; have := (kL g h').2; omega
                have n6 : ∀ g : Nat, vF.ownBlock = some g → vK.ownBlock ≠ some g := fun g hg h => n5 g h hg
                rw [← HKX.out] at hown1
                clear hownK hownF hrD hr0 hr1 hs0 hs1 hx0 hx1 hw hat hel hgrow hKD hKR hKS hKF hFK hnK kL lD lR lS hFnK
                have hownK := hown1
                have hownF := kY
                have hrD := kD
                have hr0 := khr0
                have hr1 := khr1
                have hs0 := khs0
                have hs1 := khs1
                have hx0 := khx0
                have hx1 := khx1
                have hw := kw
                have hKD := n1
                have hKR := n2
                have hKS := n3
                have hKF := n5
                have hFK := n6
                clear hown1 kY kD khr0 khr1 khs0 khs1 khx0 khx1 kw n1 n2 n3 n5 n6
                refine hK9.out _ _ ⟨hr0, hr1, hs0, hs1, hx0, hx1, hw⟩ (fun hHeld => ?_)
                clear hK9 K9
                (try simp only [Act.put, List.setIfInBounds_toArray, List.set_cons_zero, List.set_cons_succ])
                refine wpAnyH_take (i := 8) (oi := ?oop20) (v := ?vvp20) ?hip20 (by kernel_rfl) (by kernel_rfl) (by kernel_rfl) ?hqp20 (Or.inl ⟨?hgp20, ?hyp20⟩) (by assumption) ?restp20
                case hip20 => simp only [List.getElem?_toArray, List.getElem?_cons_zero, List.getElem?_cons_succ]; rfl
                case hqp20 => exact fun _ _ _ h => h
                case hgp20 => rfl
                case hyp20 =>
                  intro wq hSw
                  obtain ⟨hr0, hr1, hs0, hs1, hx0, hx1, hw⟩ := hSw
                  go_simp
                  (try with_reducible rfl)
                (try simp only [Act.put, List.setIfInBounds_toArray, List.set_cons_zero, List.set_cons_succ])
                refine wpAnyH_take (i := 9) (oi := ?oop21) (v := ?vvp21) ?hip21 (by kernel_rfl) (by kernel_rfl) (by kernel_rfl) ?hqp21 (Or.inl ⟨?hgp21, ?hyp21⟩) (by assumption) ?restp21
                case hip21 => simp only [List.getElem?_toArray, List.getElem?_cons_zero, List.getElem?_cons_succ]; rfl
                case hqp21 => exact fun _ _ _ h => h
                case hgp21 => rfl
                case hyp21 =>
                  intro wq hSw
                  obtain ⟨hr0, hr1, hs0, hs1, hx0, hx1, hw⟩ := hSw
                  go_simp
                  (try with_reducible rfl)
                (try simp only [Act.put, List.setIfInBounds_toArray, List.set_cons_zero, List.set_cons_succ])
                clear hHeld
                refine wpAnyH_done (by kernel_rfl) ?_ _
                clear hr0 hr1 hs0 hs1 hFR hKR hFS hKS hKF
                go_wp2
                go_roundw
                case rel => exact ⟨x + 1, by omega, by go_num, hownF, hownK, hFK, hFD, hKD, HA', hrD, hx0, hx1, hw⟩
                case measure => simp only [intOf]; omega
              exact AllReadyH.nil
          · obtain ⟨p, hp, hpx⟩ := HU.out x (by omega) hxn
            have g2 : (x : Int) > 0 := by omega
            have g1 : decide ((x : Int) > 0) = true := decide_eq_true g2
            have hfp : isFrac (SS p).1 (SS p).2 = true := by
              have := HA.out p hpx
              rw [HOD.out] at this
              exact (Bool.and_eq_true_iff.1 this).1
            obtain ⟨e0, hbd0, hsb1, hsb2⟩ := HST.out x p (by omega) hxn hp hpx hfp
            obtain ⟨hdf, hd1, hd2⟩ := HDF.out p (by omega)
            have hfb := frac_bd hfp
            have HP := Lib.hid hp
            have HAd := fun W => implAdd_any (SS p).1 (SS p).2 (DP p).1 (DP p).2 W
            have hok := isFrac_low ((SS p).1 * (DP p).2 + (DP p).1 * (SS p).2) ((SS p).2 * (DP p).2) (by assumption)
            have e1 : lowX ((SS p).1 * (DP p).2 + (DP p).1 * (SS p).2) ((SS p).2 * (DP p).2) = (SS x).1 := by rw [e0]
            have e2 : lowY ((SS p).1 * (DP p).2 + (DP p).1 * (SS p).2) ((SS p).2 * (DP p).2) = (SS x).2 := by rw [e0]
            have e3 : lowOk ((SS p).1 * (DP p).2 + (DP p).1 * (SS p).2) ((SS p).2 * (DP p).2) = true → lowN ((SS p).1 * (DP p).2 + (DP p).1 * (SS p).2) ((SS p).2 * (DP p).2) = (SS x).1 ∧ lowM ((SS p).1 * (DP p).2 + (DP p).1 * (SS p).2) ((SS p).2 * (DP p).2) = (SS x).2 := fun h => by
              unfold lowN lowM; rw [if_pos h, if_pos h]; exact ⟨e1, e2⟩
            rw [e1, e2] at hok
            rw [hfp, hdf, Bool.true_and, Bool.true_and, if_pos rfl, if_pos rfl] at HAd
            clear e0 e1 e2 hfp hdf hd1 hd2 hfb hp
            generalize lowN ((SS p).1 * (DP p).2 + (DP p).1 * (SS p).2) ((SS p).2 * (DP p).2) = z1 at *
            generalize lowM ((SS p).1 * (DP p).2 + (DP p).1 * (SS p).2) ((SS p).2 * (DP p).2) = z2 at *
            generalize lowOk ((SS p).1 * (DP p).2 + (DP p).1 * (SS p).2) ((SS p).2 * (DP p).2) = q1 at *
            unfold FracV at HAd
            have HOk := Lib.hid hok
            have HN8 := Lib.hid hn8
            clear hn8 hok
            cases q1 with
            | false =>
              have hr : r = false := by rw [← HR.out]; exact HAN.out x hxn (by rw [HOD.out, HOk.out]; rfl)
              subst hr
              replace HAd := Lib.hid HAd
              clear e3
              go_upto_region 8 with (fail)
              obtain ⟨wa, hwa⟩ : ∃ wa, wa = wr.alloc (.cells #[.int .i64 0, .int .i64 1] 51) := ⟨_, rfl⟩
              rw [← hwa]
              have hbA : Below wr.heap.size wr wa := by rw [hwa]; exact (Below.refl _ _).alloc (Nat.le_refl _) _
              have hs0 : wa.cell? ⟨wr.heap.size, 0, none⟩ = some (.int .i64 0) := by rw [hwa]; simp
              have hs1 : wa.cell? ⟨wr.heap.size, 1, none⟩ = some (.int .i64 1) := by rw [hwa]; simp
              have hq0 : wa.frozen? ⟨wr.heap.size, 0, none⟩ = false := by rw [hwa]; simp
              have hq1 : wa.frozen? ⟨wr.heap.size, 1, none⟩ = false := by rw [hwa]; simp
              have hFS := own_ne_ge (g := wr.heap.size) hownF (Nat.le_refl _)
              have hKS := own_ne_ge (g := wr.heap.size) hownK (Nat.le_refl _)
              have hDS : gD < wr.heap.size := hrD.lt
              have hSw : wr.heap.size < wa.heap.size := World.block_lt_of_cell? _ _ hs0
              replace hownF := own_below hownF hbA
              replace hownK := own_below hownK hbA
              replace hrD := hrD.below hbA
              replace hx0 := keep_cell hbA hx0
              replace hx1 := keep_cell hbA hx1
              replace hw := keep_below hbA hw
              clear hwa hbA
              generalize wr.heap.size = gS at hs0 hs1 hq0 hq1 hFS hKS hDS hSw hlw ⊢
              obtain ⟨b7, o7, rfl, hc9⟩ := (h.below hw).at_ (j := x) hxn
              rw [HP.out] at hc9
              obtain ⟨A2, c2, rfl, hOK⟩ := own_form2 hownK
              obtain ⟨gK, rfl, _, hrK⟩ := hOK.pos (by rw [HKL.out]; omega)
              have hgKS : gK ≠ gS := fun e => hKS (by rw [e]; rfl)
              have hk0 := hrK.cell0 (j := p) (by rw [HKL.out]; exact hpx)
              have hk1 := hrK.cell1 (j := p) (by rw [HKL.out]; exact hpx)
              rw [HKN.out x p hpx] at hk0 hk1
              have hd0 := hrD.cell0 (j := p) (by rw [HDL.out]; omega)
              have hd1 := hrD.cell1 (j := p) (by rw [HDL.out]; omega)
              rw [HDN.out p (by omega)] at hd0 hd1
              have i4 : (p : Int) < (K x).length := by rw [HKL.out]; omega
              have i5 : (p : Int) < DK.length := by rw [HDL.out]; omega
              go_wp2
              refine wp_region_held_drew (S := fun w' => w'.cell? ⟨gK, p * 2, none⟩ = some (.int .i64 (SS p).1) ∧ w'.cell? ⟨gK, p * 2 + 1, none⟩ = some (.int .i64 (SS p).2) ∧ w'.cell? ⟨gD, p * 2, none⟩ = some (.int .i64 (DP p).1) ∧ w'.cell? ⟨gD, p * 2 + 1, none⟩ = some (.int .i64 (DP p).2) ∧ w'.cell? ⟨w.heap.size, 0, none⟩ = some (.slice (some ⟨b7, o7, none⟩) xs.length c) ∧ w'.cell? ⟨w.heap.size, 1, none⟩ = some (.slice B ys.length e) ∧ Below w.heap.size w w') (by kernel_rfl) ⟨hk0, hk1, hd0, hd1, hx0, hx1, hw.drew⟩ (fun hHeld => ?_)
              refine wpAnyH_take (i := 0) (oi := ?oom1) (v := ?vvm1) ?him1 (by kernel_rfl) (by kernel_rfl) (by kernel_rfl) ?hqm1 (Or.inl ⟨?hgm1, ?hym1⟩) (by assumption) ?restm1
              case him1 => simp only [List.getElem?_toArray, List.getElem?_cons_zero, List.getElem?_cons_succ]; rfl
              case hqm1 => exact fun _ _ _ h => h
              case hgm1 => rfl
              case hym1 =>
                intro wq hSw
                obtain ⟨hk0, hk1, hd0, hd1, hx0, hx1, hw⟩ := hSw
                go_simp
                (try with_reducible rfl)
              (try simp only [Act.put, List.setIfInBounds_toArray, List.set_cons_zero, List.set_cons_succ])
              refine wpAnyH_take (i := 1) (oi := ?oom2) (v := ?vvm2) ?him2 (by kernel_rfl) (by kernel_rfl) (by kernel_rfl) ?hqm2 (Or.inl ⟨?hgm2, ?hym2⟩) (by assumption) ?restm2
              case him2 => simp only [List.getElem?_toArray, List.getElem?_cons_zero, List.getElem?_cons_succ]; rfl
              case hqm2 => exact fun _ _ _ h => h
              case hgm2 => rfl
              case hym2 =>
                intro wq hSw
                obtain ⟨hk0, hk1, hd0, hd1, hx0, hx1, hw⟩ := hSw
                go_simp
                (try with_reducible rfl)
              (try simp only [Act.put, List.setIfInBounds_toArray, List.set_cons_zero, List.set_cons_succ])
              refine wpAnyH_take (i := 2) (oi := ?oom3) (v := ?vvm3) ?him3 (by kernel_rfl) (by kernel_rfl) (by kernel_rfl) ?hqm3 (Or.inl ⟨?hgm3, ?hym3⟩) (by assumption) ?restm3
              case him3 => simp only [List.getElem?_toArray, List.getElem?_cons_zero, List.getElem?_cons_succ]; rfl
              case hqm3 => exact fun _ _ _ h => h
              case hgm3 => rfl
              case hym3 =>
                intro wq hSw
                obtain ⟨hk0, hk1, hd0, hd1, hx0, hx1, hw⟩ := hSw
                go_simp
                (try with_reducible rfl)
              (try simp only [Act.put, List.setIfInBounds_toArray, List.set_cons_zero, List.set_cons_succ])
              refine wpAnyH_take (i := 3) (oi := ?oom4) (v := ?vvm4) ?him4 (by kernel_rfl) (by kernel_rfl) (by kernel_rfl) ?hqm4 (Or.inl ⟨?hgm4, ?hym4⟩) (by assumption) ?restm4
              case him4 => simp only [List.getElem?_toArray, List.getElem?_cons_zero, List.getElem?_cons_succ]; rfl
              case hqm4 => exact fun _ _ _ h => h
              case hgm4 => rfl
              case hym4 =>
                intro wq hSw
                obtain ⟨hk0, hk1, hd0, hd1, hx0, hx1, hw⟩ := hSw
                go_simp
                (try with_reducible rfl)
              (try simp only [Act.put, List.setIfInBounds_toArray, List.set_cons_zero, List.set_cons_succ])
              refine wpAnyH_take (i := 4) (oi := ?oom5) (v := ?vvm5) ?him5 (by kernel_rfl) (by kernel_rfl) (by kernel_rfl) ?hqm5 (Or.inl ⟨?hgm5, ?hym5⟩) (by assumption) ?restm5
              case him5 => simp only [List.getElem?_toArray, List.getElem?_cons_zero, List.getElem?_cons_succ]; rfl
              case hqm5 => exact fun _ _ _ h => h
              case hgm5 => rfl
              case hym5 =>
                intro wq hSw
                obtain ⟨hk0, hk1, hd0, hd1, hx0, hx1, hw⟩ := hSw
                go_simp
                (try with_reducible rfl)
              (try simp only [Act.put, List.setIfInBounds_toArray, List.set_cons_zero, List.set_cons_succ])
              refine wpAnyH_take (i := 5) (oi := ?oom6) (v := ?vvm6) ?him6 (by kernel_rfl) (by kernel_rfl) (by kernel_rfl) ?hqm6 (Or.inl ⟨?hgm6, ?hym6⟩) (by assumption) ?restm6
              case him6 => simp only [List.getElem?_toArray, List.getElem?_cons_zero, List.getElem?_cons_succ]; rfl
              case hqm6 => exact fun _ _ _ h => h
              case hgm6 => rfl
              case hym6 =>
                intro wq hSw
                obtain ⟨hk0, hk1, hd0, hd1, hx0, hx1, hw⟩ := hSw
                go_simp
                (try with_reducible rfl)
              (try simp only [Act.put, List.setIfInBounds_toArray, List.set_cons_zero, List.set_cons_succ])
              refine wpAnyH_take (i := 6) (oi := ?oom7) (v := ?vvm7) ?him7 (by kernel_rfl) (by kernel_rfl) (by kernel_rfl) ?hqm7 (Or.inl ⟨?hgm7, ?hym7⟩) (by assumption) ?restm7
              case him7 => simp only [List.getElem?_toArray, List.getElem?_cons_zero, List.getElem?_cons_succ]; rfl
              case hqm7 => exact fun _ _ _ h => h
              case hgm7 => rfl
              case hym7 =>
                intro wq hSw
                obtain ⟨hk0, hk1, hd0, hd1, hx0, hx1, hw⟩ := hSw
                go_simp
                (try with_reducible rfl)
              (try simp only [Act.put, List.setIfInBounds_toArray, List.set_cons_zero, List.set_cons_succ])
              refine wpAnyH_take (i := 7) (oi := ?oom8) (v := ?vvm8) ?him8 (by kernel_rfl) (by kernel_rfl) (by kernel_rfl) ?hqm8 (Or.inl ⟨?hgm8, ?hym8⟩) (by assumption) ?restm8
              case him8 => simp only [List.getElem?_toArray, List.getElem?_cons_zero, List.getElem?_cons_succ]; rfl
              case hqm8 => exact fun _ _ _ h => h
              case hgm8 => rfl
              case hym8 =>
                intro wq hSw
                obtain ⟨hk0, hk1, hd0, hd1, hx0, hx1, hw⟩ := hSw
                go_simp
                (try with_reducible rfl)
              (try simp only [Act.put, List.setIfInBounds_toArray, List.set_cons_zero, List.set_cons_succ])
              refine wpAnyH_ready (rs := [8]) (by kernel_rfl) (by simp) ?_
              refine AllReadyH.cons (i := 8) (o := ?oom9) ?hom9 (fun K9 hK9 => ?hstepm9) AllReadyH.nil
              case hom9 => simp only [List.getElem?_toArray, List.getElem?_cons_zero, List.getElem?_cons_succ]; rfl
              go_simp
              refine (HAd.out _).mono ?_
              rintro e1 wzm9 ⟨rfl, hb⟩
              replace hb : Below wa.heap.size wa wzm9 := ⟨hb.os, hb.tape, hb.output, hb.size, hb.block⟩
              replace hq0 := keep_froz hb (by rw [hs0]; rfl) hq0
              replace hq1 := keep_froz hb (by rw [hs1]; rfl) hq1
              replace hk0 := keep_cell hb hk0
              replace hk1 := keep_cell hb hk1
              replace hd0 := keep_cell hb hd0
              replace hd1 := keep_cell hb hd1
              replace hx0 := keep_cell hb hx0
              replace hx1 := keep_cell hb hx1
              replace hownF := own_below hownF hb
              replace hownK := own_below hownK hb
              replace hrD := hrD.below hb
              replace hs0 := keep_cell hb hs0
              replace hs1 := keep_cell hb hs1
              replace hw := keep_below hb hw
              clear hHeld
              go_wp2_with fail
              refine hK9.out _ _ ⟨hk0, hk1, hd0, hd1, hx0, hx1, hw⟩ (fun hHeld => ?_)
              clear hK9 K9 hb
              (try simp only [Act.put, List.setIfInBounds_toArray, List.set_cons_zero, List.set_cons_succ])
              refine wpAnyH_take (i := 9) (oi := ?oom10) (v := ?vvm10) ?him10 (by kernel_rfl) (by kernel_rfl) (by kernel_rfl) ?hqm10 (Or.inl ⟨?hgm10, ?hym10⟩) (by assumption) ?restm10
              case him10 => simp only [List.getElem?_toArray, List.getElem?_cons_zero, List.getElem?_cons_succ]; rfl
              case hqm10 => exact fun _ _ _ h => h
              case hgm10 => rfl
              case hym10 =>
                intro wq hSw
                obtain ⟨hk0, hk1, hd0, hd1, hx0, hx1, hw⟩ := hSw
                go_simp
                (try with_reducible rfl)
              (try simp only [Act.put, List.setIfInBounds_toArray, List.set_cons_zero, List.set_cons_succ])
              refine wpAnyH_take (i := 10) (oi := ?oom11) (v := ?vvm11) ?him11 (by kernel_rfl) (by kernel_rfl) (by kernel_rfl) ?hqm11 (Or.inl ⟨?hgm11, ?hym11⟩) (by assumption) ?restm11
              case him11 => simp only [List.getElem?_toArray, List.getElem?_cons_zero, List.getElem?_cons_succ]; rfl
              case hqm11 => exact fun _ _ _ h => h
              case hgm11 => rfl
              case hym11 =>
                intro wq hSw
                obtain ⟨hk0, hk1, hd0, hd1, hx0, hx1, hw⟩ := hSw
                go_simp
                (try with_reducible rfl)
              (try simp only [Act.put, List.setIfInBounds_toArray, List.set_cons_zero, List.set_cons_succ])
              refine wpAnyH_take (i := 11) (oi := ?oom12) (v := ?vvm12) ?him12 (by kernel_rfl) (by kernel_rfl) (by kernel_rfl) ?hqm12 (Or.inl ⟨?hgm12, ?hym12⟩) (by assumption) ?restm12
              case him12 => simp only [List.getElem?_toArray, List.getElem?_cons_zero, List.getElem?_cons_succ]; rfl
              case hqm12 => exact fun _ _ _ h => h
              case hgm12 => rfl
              case hym12 =>
                intro wq hSw
                obtain ⟨hk0, hk1, hd0, hd1, hx0, hx1, hw⟩ := hSw
                go_simp
                (try with_reducible rfl)
              (try simp only [Act.put, List.setIfInBounds_toArray, List.set_cons_zero, List.set_cons_succ])
              refine wpAnyH_ready (rs := [12]) (by kernel_rfl) (by simp) ?_
              refine AllReadyH.cons (i := 12) (o := ?oom13) ?hom13 (fun K9 hK9 => ?hstepm13) AllReadyH.nil
              case hom13 => simp only [List.getElem?_toArray, List.getElem?_cons_zero, List.getElem?_cons_succ]; rfl
              go_simp
              clear hHeld
              refine hK9.out _ _ ⟨cell_far (g := gS) (cell_far (g := gS) hk0 (by simp; omega) 0) (by simp; omega) 1, cell_far (g := gS) (cell_far (g := gS) hk1 (by simp; omega) 0) (by simp; omega) 1, cell_far (g := gS) (cell_far (g := gS) hd0 (by simp; omega) 0) (by simp; omega) 1, cell_far (g := gS) (cell_far (g := gS) hd1 (by simp; omega) 0) (by simp; omega) 1, cell_far (g := gS) (cell_far (g := gS) hx0 (by simp; omega) 0) (by simp; omega) 1, cell_far (g := gS) (cell_far (g := gS) hx1 (by simp; omega) 0) (by simp; omega) 1, Below.setCell' (p := ⟨gS, 1, none⟩) (by simp; omega) (Below.setCell' (p := ⟨gS, 0, none⟩) (by simp; omega) hw _) _⟩ (fun hHeld => ?_)
              clear hK9 K9
              (try simp only [Act.put, List.setIfInBounds_toArray, List.set_cons_zero, List.set_cons_succ])
              refine wpAnyH_take (i := 13) (oi := ?oom14) (v := ?vvm14) ?him14 (by kernel_rfl) (by kernel_rfl) (by kernel_rfl) ?hqm14 (Or.inl ⟨?hgm14, ?hym14⟩) (by assumption) ?restm14
              case him14 => simp only [List.getElem?_toArray, List.getElem?_cons_zero, List.getElem?_cons_succ]; rfl
              case hqm14 => exact fun _ _ _ h => h
              case hgm14 => rfl
              case hym14 =>
                intro wq hSw
                obtain ⟨hk0, hk1, hd0, hd1, hx0, hx1, hw⟩ := hSw
                go_simp
                (try with_reducible rfl)
              (try simp only [Act.put, List.setIfInBounds_toArray, List.set_cons_zero, List.set_cons_succ])
              clear hHeld
              refine wpAnyH_done (by kernel_rfl) ?_ _
              clear hk0 hk1 hd0 hd1 hc9 hrK hOK hownF hownK
              replace hw := Below.setCell' (p := ⟨gS, 1, none⟩) (by simp; omega) (Below.setCell' (p := ⟨gS, 0, none⟩) (by simp; omega) hw (.int .i64 z1)) (.int .i64 z2)
              go_wp2
              go_ret3
              exact ⟨none, 0, none, 0, rfl, .inl ⟨rfl, rfl⟩, .inl ⟨rfl, rfl⟩, (fun _ _ e1 => by cases e1), hw⟩
            | true =>
              have hfr1 : isFrac (SS x).1 (SS x).2 = true := HOk.out
              rw [(e3 rfl).1, (e3 rfl).2] at HAd
              replace HAd := Lib.hid HAd
              clear e3 HOk
              go_upto_region 8 with (fail)
              obtain ⟨wa, hwa⟩ : ∃ wa, wa = wr.alloc (.cells #[.int .i64 0, .int .i64 1] 51) := ⟨_, rfl⟩
              rw [← hwa]
              have hbA : Below wr.heap.size wr wa := by rw [hwa]; exact (Below.refl _ _).alloc (Nat.le_refl _) _
              have hs0 : wa.cell? ⟨wr.heap.size, 0, none⟩ = some (.int .i64 0) := by rw [hwa]; simp
              have hs1 : wa.cell? ⟨wr.heap.size, 1, none⟩ = some (.int .i64 1) := by rw [hwa]; simp
              have hq0 : wa.frozen? ⟨wr.heap.size, 0, none⟩ = false := by rw [hwa]; simp
              have hq1 : wa.frozen? ⟨wr.heap.size, 1, none⟩ = false := by rw [hwa]; simp
              have hFS := own_ne_ge (g := wr.heap.size) hownF (Nat.le_refl _)
              have hKS := own_ne_ge (g := wr.heap.size) hownK (Nat.le_refl _)
              have hDS : gD < wr.heap.size := hrD.lt
              have hSw : wr.heap.size < wa.heap.size := World.block_lt_of_cell? _ _ hs0
              replace hownF := own_below hownF hbA
              replace hownK := own_below hownK hbA
              replace hrD := hrD.below hbA
              replace hx0 := keep_cell hbA hx0
              replace hx1 := keep_cell hbA hx1
              replace hw := keep_below hbA hw
              clear hwa hbA
              generalize wr.heap.size = gS at hs0 hs1 hq0 hq1 hFS hKS hDS hSw hlw ⊢
              obtain ⟨b7, o7, rfl, hc9⟩ := (h.below hw).at_ (j := x) hxn
              rw [HP.out] at hc9
              obtain ⟨A2, c2, rfl, hOK⟩ := own_form2 hownK
              obtain ⟨gK, rfl, _, hrK⟩ := hOK.pos (by rw [HKL.out]; omega)
              have hgKS : gK ≠ gS := fun e => hKS (by rw [e]; rfl)
              have hk0 := hrK.cell0 (j := p) (by rw [HKL.out]; exact hpx)
              have hk1 := hrK.cell1 (j := p) (by rw [HKL.out]; exact hpx)
              rw [HKN.out x p hpx] at hk0 hk1
              have hd0 := hrD.cell0 (j := p) (by rw [HDL.out]; omega)
              have hd1 := hrD.cell1 (j := p) (by rw [HDL.out]; omega)
              rw [HDN.out p (by omega)] at hd0 hd1
              have i4 : (p : Int) < (K x).length := by rw [HKL.out]; omega
              have i5 : (p : Int) < DK.length := by rw [HDL.out]; omega
              go_wp2
              refine wp_region_held_drew (S := fun w' => w'.cell? ⟨gK, p * 2, none⟩ = some (.int .i64 (SS p).1) ∧ w'.cell? ⟨gK, p * 2 + 1, none⟩ = some (.int .i64 (SS p).2) ∧ w'.cell? ⟨gD, p * 2, none⟩ = some (.int .i64 (DP p).1) ∧ w'.cell? ⟨gD, p * 2 + 1, none⟩ = some (.int .i64 (DP p).2) ∧ w'.cell? ⟨w.heap.size, 0, none⟩ = some (.slice (some ⟨b7, o7, none⟩) xs.length c) ∧ w'.cell? ⟨w.heap.size, 1, none⟩ = some (.slice B ys.length e) ∧ Below w.heap.size w w') (by kernel_rfl) ⟨hk0, hk1, hd0, hd1, hx0, hx1, hw.drew⟩ (fun hHeld => ?_)
              refine wpAnyH_take (i := 0) (oi := ?oon1) (v := ?vvn1) ?hin1 (by kernel_rfl) (by kernel_rfl) (by kernel_rfl) ?hqn1 (Or.inl ⟨?hgn1, ?hyn1⟩) (by assumption) ?restn1
              case hin1 => simp only [List.getElem?_toArray, List.getElem?_cons_zero, List.getElem?_cons_succ]; rfl
              case hqn1 => exact fun _ _ _ h => h
              case hgn1 => rfl
              case hyn1 =>
                intro wq hSw
                obtain ⟨hk0, hk1, hd0, hd1, hx0, hx1, hw⟩ := hSw
                go_simp
                (try with_reducible rfl)
              (try simp only [Act.put, List.setIfInBounds_toArray, List.set_cons_zero, List.set_cons_succ])
              refine wpAnyH_take (i := 1) (oi := ?oon2) (v := ?vvn2) ?hin2 (by kernel_rfl) (by kernel_rfl) (by kernel_rfl) ?hqn2 (Or.inl ⟨?hgn2, ?hyn2⟩) (by assumption) ?restn2
              case hin2 => simp only [List.getElem?_toArray, List.getElem?_cons_zero, List.getElem?_cons_succ]; rfl
              case hqn2 => exact fun _ _ _ h => h
              case hgn2 => rfl
              case hyn2 =>
                intro wq hSw
                obtain ⟨hk0, hk1, hd0, hd1, hx0, hx1, hw⟩ := hSw
                go_simp
                (try with_reducible rfl)
              (try simp only [Act.put, List.setIfInBounds_toArray, List.set_cons_zero, List.set_cons_succ])
              refine wpAnyH_take (i := 2) (oi := ?oon3) (v := ?vvn3) ?hin3 (by kernel_rfl) (by kernel_rfl) (by kernel_rfl) ?hqn3 (Or.inl ⟨?hgn3, ?hyn3⟩) (by assumption) ?restn3
              case hin3 => simp only [List.getElem?_toArray, List.getElem?_cons_zero, List.getElem?_cons_succ]; rfl
              case hqn3 => exact fun _ _ _ h => h
              case hgn3 => rfl
              case hyn3 =>
                intro wq hSw
                obtain ⟨hk0, hk1, hd0, hd1, hx0, hx1, hw⟩ := hSw
                go_simp
                (try with_reducible rfl)
              (try simp only [Act.put, List.setIfInBounds_toArray, List.set_cons_zero, List.set_cons_succ])
              refine wpAnyH_take (i := 3) (oi := ?oon4) (v := ?vvn4) ?hin4 (by kernel_rfl) (by kernel_rfl) (by kernel_rfl) ?hqn4 (Or.inl ⟨?hgn4, ?hyn4⟩) (by assumption) ?restn4
              case hin4 => simp only [List.getElem?_toArray, List.getElem?_cons_zero, List.getElem?_cons_succ]; rfl
              case hqn4 => exact fun _ _ _ h => h
              case hgn4 => rfl
              case hyn4 =>
                intro wq hSw
                obtain ⟨hk0, hk1, hd0, hd1, hx0, hx1, hw⟩ := hSw
                go_simp
                (try with_reducible rfl)
              (try simp only [Act.put, List.setIfInBounds_toArray, List.set_cons_zero, List.set_cons_succ])
              refine wpAnyH_take (i := 4) (oi := ?oon5) (v := ?vvn5) ?hin5 (by kernel_rfl) (by kernel_rfl) (by kernel_rfl) ?hqn5 (Or.inl ⟨?hgn5, ?hyn5⟩) (by assumption) ?restn5
              case hin5 => simp only [List.getElem?_toArray, List.getElem?_cons_zero, List.getElem?_cons_succ]; rfl
              case hqn5 => exact fun _ _ _ h => h
              case hgn5 => rfl
              case hyn5 =>
                intro wq hSw
                obtain ⟨hk0, hk1, hd0, hd1, hx0, hx1, hw⟩ := hSw
                go_simp
                (try with_reducible rfl)
              (try simp only [Act.put, List.setIfInBounds_toArray, List.set_cons_zero, List.set_cons_succ])
              refine wpAnyH_take (i := 5) (oi := ?oon6) (v := ?vvn6) ?hin6 (by kernel_rfl) (by kernel_rfl) (by kernel_rfl) ?hqn6 (Or.inl ⟨?hgn6, ?hyn6⟩) (by assumption) ?restn6
              case hin6 => simp only [List.getElem?_toArray, List.getElem?_cons_zero, List.getElem?_cons_succ]; rfl
              case hqn6 => exact fun _ _ _ h => h
              case hgn6 => rfl
              case hyn6 =>
                intro wq hSw
                obtain ⟨hk0, hk1, hd0, hd1, hx0, hx1, hw⟩ := hSw
                go_simp
                (try with_reducible rfl)
              (try simp only [Act.put, List.setIfInBounds_toArray, List.set_cons_zero, List.set_cons_succ])
              refine wpAnyH_take (i := 6) (oi := ?oon7) (v := ?vvn7) ?hin7 (by kernel_rfl) (by kernel_rfl) (by kernel_rfl) ?hqn7 (Or.inl ⟨?hgn7, ?hyn7⟩) (by assumption) ?restn7
              case hin7 => simp only [List.getElem?_toArray, List.getElem?_cons_zero, List.getElem?_cons_succ]; rfl
              case hqn7 => exact fun _ _ _ h => h
              case hgn7 => rfl
              case hyn7 =>
                intro wq hSw
                obtain ⟨hk0, hk1, hd0, hd1, hx0, hx1, hw⟩ := hSw
                go_simp
                (try with_reducible rfl)
              (try simp only [Act.put, List.setIfInBounds_toArray, List.set_cons_zero, List.set_cons_succ])
              refine wpAnyH_take (i := 7) (oi := ?oon8) (v := ?vvn8) ?hin8 (by kernel_rfl) (by kernel_rfl) (by kernel_rfl) ?hqn8 (Or.inl ⟨?hgn8, ?hyn8⟩) (by assumption) ?restn8
              case hin8 => simp only [List.getElem?_toArray, List.getElem?_cons_zero, List.getElem?_cons_succ]; rfl
              case hqn8 => exact fun _ _ _ h => h
              case hgn8 => rfl
              case hyn8 =>
                intro wq hSw
                obtain ⟨hk0, hk1, hd0, hd1, hx0, hx1, hw⟩ := hSw
                go_simp
                (try with_reducible rfl)
              (try simp only [Act.put, List.setIfInBounds_toArray, List.set_cons_zero, List.set_cons_succ])
              refine wpAnyH_ready (rs := [8]) (by kernel_rfl) (by simp) ?_
              refine AllReadyH.cons (i := 8) (o := ?oon9) ?hon9 (fun K9 hK9 => ?hstepn9) AllReadyH.nil
              case hon9 => simp only [List.getElem?_toArray, List.getElem?_cons_zero, List.getElem?_cons_succ]; rfl
              go_simp
              refine (HAd.out _).mono ?_
              rintro e1 wzn9 ⟨rfl, hb⟩
              replace hb : Below wa.heap.size wa wzn9 := ⟨hb.os, hb.tape, hb.output, hb.size, hb.block⟩
              replace hq0 := keep_froz hb (by rw [hs0]; rfl) hq0
              replace hq1 := keep_froz hb (by rw [hs1]; rfl) hq1
              replace hk0 := keep_cell hb hk0
              replace hk1 := keep_cell hb hk1
              replace hd0 := keep_cell hb hd0
              replace hd1 := keep_cell hb hd1
              replace hx0 := keep_cell hb hx0
              replace hx1 := keep_cell hb hx1
              replace hownF := own_below hownF hb
              replace hownK := own_below hownK hb
              replace hrD := hrD.below hb
              replace hs0 := keep_cell hb hs0
              replace hs1 := keep_cell hb hs1
              replace hw := keep_below hb hw
              clear hHeld
              go_wp2_with fail
              refine hK9.out _ _ ⟨hk0, hk1, hd0, hd1, hx0, hx1, hw⟩ (fun hHeld => ?_)
              clear hK9 K9 hb
              (try simp only [Act.put, List.setIfInBounds_toArray, List.set_cons_zero, List.set_cons_succ])
              refine wpAnyH_take (i := 9) (oi := ?oon10) (v := ?vvn10) ?hin10 (by kernel_rfl) (by kernel_rfl) (by kernel_rfl) ?hqn10 (Or.inl ⟨?hgn10, ?hyn10⟩) (by assumption) ?restn10
              case hin10 => simp only [List.getElem?_toArray, List.getElem?_cons_zero, List.getElem?_cons_succ]; rfl
              case hqn10 => exact fun _ _ _ h => h
              case hgn10 => rfl
              case hyn10 =>
                intro wq hSw
                obtain ⟨hk0, hk1, hd0, hd1, hx0, hx1, hw⟩ := hSw
                go_simp
                (try with_reducible rfl)
              (try simp only [Act.put, List.setIfInBounds_toArray, List.set_cons_zero, List.set_cons_succ])
              refine wpAnyH_take (i := 10) (oi := ?oon11) (v := ?vvn11) ?hin11 (by kernel_rfl) (by kernel_rfl) (by kernel_rfl) ?hqn11 (Or.inl ⟨?hgn11, ?hyn11⟩) (by assumption) ?restn11
              case hin11 => simp only [List.getElem?_toArray, List.getElem?_cons_zero, List.getElem?_cons_succ]; rfl
              case hqn11 => exact fun _ _ _ h => h
              case hgn11 => rfl
              case hyn11 =>
                intro wq hSw
                obtain ⟨hk0, hk1, hd0, hd1, hx0, hx1, hw⟩ := hSw
                go_simp
                (try with_reducible rfl)
              (try simp only [Act.put, List.setIfInBounds_toArray, List.set_cons_zero, List.set_cons_succ])
              refine wpAnyH_take (i := 11) (oi := ?oon12) (v := ?vvn12) ?hin12 (by kernel_rfl) (by kernel_rfl) (by kernel_rfl) ?hqn12 (Or.inl ⟨?hgn12, ?hyn12⟩) (by assumption) ?restn12
              case hin12 => simp only [List.getElem?_toArray, List.getElem?_cons_zero, List.getElem?_cons_succ]; rfl
              case hqn12 => exact fun _ _ _ h => h
              case hgn12 => rfl
              case hyn12 =>
                intro wq hSw
                obtain ⟨hk0, hk1, hd0, hd1, hx0, hx1, hw⟩ := hSw
                go_simp
                (try with_reducible rfl)
              (try simp only [Act.put, List.setIfInBounds_toArray, List.set_cons_zero, List.set_cons_succ])
              refine wpAnyH_ready (rs := [12]) (by kernel_rfl) (by simp) ?_
              refine AllReadyH.cons (i := 12) (o := ?oon13) ?hon13 (fun K9 hK9 => ?hstepn13) AllReadyH.nil
              case hon13 => simp only [List.getElem?_toArray, List.getElem?_cons_zero, List.getElem?_cons_succ]; rfl
              go_simp
              clear hHeld
              refine hK9.out _ _ ⟨cell_far (g := gS) (cell_far (g := gS) hk0 (by simp; omega) 0) (by simp; omega) 1, cell_far (g := gS) (cell_far (g := gS) hk1 (by simp; omega) 0) (by simp; omega) 1, cell_far (g := gS) (cell_far (g := gS) hd0 (by simp; omega) 0) (by simp; omega) 1, cell_far (g := gS) (cell_far (g := gS) hd1 (by simp; omega) 0) (by simp; omega) 1, cell_far (g := gS) (cell_far (g := gS) hx0 (by simp; omega) 0) (by simp; omega) 1, cell_far (g := gS) (cell_far (g := gS) hx1 (by simp; omega) 0) (by simp; omega) 1, Below.setCell' (p := ⟨gS, 1, none⟩) (by simp; omega) (Below.setCell' (p := ⟨gS, 0, none⟩) (by simp; omega) hw _) _⟩ (fun hHeld => ?_)
              clear hK9 K9
              (try simp only [Act.put, List.setIfInBounds_toArray, List.set_cons_zero, List.set_cons_succ])
              refine wpAnyH_take (i := 13) (oi := ?oon14) (v := ?vvn14) ?hin14 (by kernel_rfl) (by kernel_rfl) (by kernel_rfl) ?hqn14 (Or.inl ⟨?hgn14, ?hyn14⟩) (by assumption) ?restn14
              case hin14 => simp only [List.getElem?_toArray, List.getElem?_cons_zero, List.getElem?_cons_succ]; rfl
              case hqn14 => exact fun _ _ _ h => h
              case hgn14 => rfl
              case hyn14 =>
                intro wq hSw
                obtain ⟨hk0, hk1, hd0, hd1, hx0, hx1, hw⟩ := hSw
                go_simp
                (try with_reducible rfl)
              (try simp only [Act.put, List.setIfInBounds_toArray, List.set_cons_zero, List.set_cons_succ])
              clear hHeld
              refine wpAnyH_done (by kernel_rfl) ?_ _
              clear hk0 hk1 hd0 hd1 hc9 hrK hOK
              go_upto_region 13 with (fail)
              obtain ⟨wd, hwd⟩ : ∃ wd, wd = (wzn9.setCell ⟨gS, 0, none⟩ (.int .i64 (SS x).1)).setCell ⟨gS, 1, none⟩ (.int .i64 (SS x).2) := ⟨_, rfl⟩
              rw [← hwd]
              have hset := pair_set (.int .i64 (SS x).1) (.int .i64 (SS x).2) hs0 hs1
              rw [← hwd] at hset
              obtain ⟨hs0', hs1'⟩ := hset
              replace hs0 := hs0'
              replace hs1 := hs1'
              clear hs0' hs1'
              replace hownF := own_far (k := 1) (u := .int .i64 (SS x).2) (own_far (k := 0) (u := .int .i64 (SS x).1) hownF hFS) hFS
              replace hownK := own_far (k := 1) (u := .int .i64 (SS x).2) (own_far (k := 0) (u := .int .i64 (SS x).1) hownK hKS) hKS
              replace hrD := (hrD.far (q := gS) (by omega) 0 (.int .i64 (SS x).1)).far (q := gS) (by omega) 1 (.int .i64 (SS x).2)
              replace hx0 := cell_far (g := gS) (u := .int .i64 (SS x).2) (cell_far (g := gS) (u := .int .i64 (SS x).1) hx0 (by simp; omega) 0) (by simp; omega) 1
              replace hx1 := cell_far (g := gS) (u := .int .i64 (SS x).2) (cell_far (g := gS) (u := .int .i64 (SS x).1) hx1 (by simp; omega) 0) (by simp; omega) 1
              replace hw := Below.setCell' (p := ⟨gS, 1, none⟩) (by simp; omega) (Below.setCell' (p := ⟨gS, 0, none⟩) (by simp; omega) hw (.int .i64 (SS x).1)) (.int .i64 (SS x).2)
              rw [← hwd] at hownF hownK hrD hx0 hx1 hw
              clear hwd
              have hn8 := HN8.out
              clear hc8
              have hfb := frac_bd hfr1
              have hm9 := mul_bd (a := nth ps x) (d := (SS x).2) (A := 999) (D := 1000000) (HPB.out x) (by omega)
              have HLo := fun W => lowest_any (nth ps x * (SS x).2 - (SS x).1) (SS x).2 W (by omega) (by omega) (by omega)
              have hq2 := isFrac_low (nth ps x * (SS x).2 - (SS x).1) (SS x).2 (by omega)
              have hrd := HRD.out x
              have e1 : lowX (nth ps x * (SS x).2 - (SS x).1) (SS x).2 = (RR x).1 := by rw [hrd]
              have e2 : lowY (nth ps x * (SS x).2 - (SS x).1) (SS x).2 = (RR x).2 := by rw [hrd]
              rw [e1, e2] at hq2
              have e3 : lowOk (nth ps x * (SS x).2 - (SS x).1) (SS x).2 = true → lowN (nth ps x * (SS x).2 - (SS x).1) (SS x).2 = (RR x).1 ∧ lowM (nth ps x * (SS x).2 - (SS x).1) (SS x).2 = (RR x).2 := fun h => by
                unfold lowN lowM; rw [if_pos h, if_pos h]; exact ⟨e1, e2⟩
              have hone := HOD.out x
              rw [hfr1, hq2, Bool.true_and] at hone
              have hks := HKS.out x
              have hfs := HFS.out x
              clear hrd e1 e2 hq2
              obtain ⟨a9, ha9⟩ : ∃ a, (SS x).1 = a := ⟨_, rfl⟩
              obtain ⟨b9, hb9⟩ : ∃ a, (SS x).2 = a := ⟨_, rfl⟩
              have hks2 : i64p (K (x + 1)) = i64p (K x) ++ [Value.int .i64 a9, Value.int .i64 b9] := by rw [hks, ← ha9, ← hb9]; exact i64p_app _ _ _
              obtain ⟨f9, hf9⟩ : ∃ a, (RR x).1 = a := ⟨_, rfl⟩
              obtain ⟨h9, hh9⟩ : ∃ a, (RR x).2 = a := ⟨_, rfl⟩
              have hfs2 : i64p (F (x + 1)) = i64p (F x) ++ [Value.int .i64 f9, Value.int .i64 h9] := by rw [hfs, ← hf9, ← hh9]; exact i64p_app _ _ _
              rw [ha9] at hone HLo hs0 e3 hfb
              rw [hb9] at hone HLo hs1 e3 hm9 hfb
              rw [hf9, hh9] at e3
              have HKX := Lib.hid hks2
              have HFX := Lib.hid hfs2
              clear hks hfs hks2 hfs2 ha9 hb9 hf9 hh9 hfr1
              obtain ⟨n9, hn9⟩ : ∃ a, nth ps x = a := ⟨_, rfl⟩
              rw [hn9] at HLo hone e3 hm9 hn8
              obtain ⟨m9, hm⟩ : ∃ m, n9 * b9 = m := ⟨_, rfl⟩
              have hw1 : IntKind.i64.wrap (n9 * b9) = m9 := by rw [hm]; exact IntWalk.i64_in _ (by omega)
              rw [hm] at HLo hone e3 hm9
              have hw2 : IntKind.i64.wrap (m9 - a9) = m9 - a9 := IntWalk.i64_in _ (by omega)
              subst hn8
              clear hn9 hm
              obtain ⟨q2, hq2⟩ : ∃ q, lowOk (m9 - a9) b9 = q := ⟨_, rfl⟩
              rw [hq2] at HLo hone e3
              cases q2 with
              | false =>
                have hr : r = false := by rw [← HR.out]; exact HAN.out x hxn hone
                subst hr
                generalize lowN (m9 - a9) b9 = z1 at *
                generalize lowM (m9 - a9) b9 = z2 at *
                replace HLo := Lib.hid HLo
                clear hone hownF hownK e3 hm9 hq2
                go_wp2_with fail
                refine (HLo.out _).mono ?_
                rintro e1 wl ⟨rfl, hb⟩
                replace hw := keep_below_alloc (keep_below hb hw) (.cells #[.int .i64 z1, .int .i64 z2] 51)
                go_wp2
                go_ret3
                exact ⟨none, 0, none, 0, rfl, .inl ⟨rfl, rfl⟩, .inl ⟨rfl, rfl⟩, (fun _ _ e1 => by cases e1), hw⟩
              | true =>
                rw [(e3 rfl).1, (e3 rfl).2] at HLo
                replace HLo := Lib.hid HLo
                have HA' : Hid (∀ j, j < x + 1 → ON j = true) := fun j hj => by
                  by_cases e : j = x
                  · subst e; exact hone
                  · exact HA.out j (by omega)
                clear hone e3 hm9 hq2 HA
                go_wp2_with fail
                refine (HLo.out _).mono ?_
                rintro e1 wl ⟨rfl, hb⟩
                replace hownF := own_below hownF hb
                replace hownK := own_below hownK hb
                replace hrD := hrD.below hb
                replace hs0 := keep_cell hb hs0
                replace hs1 := keep_cell hb hs1
                replace hx0 := keep_cell hb hx0
                replace hx1 := keep_cell hb hx1
                replace hw := keep_below hb hw
                clear hb
                go_upto_region 16 with (fail)
                obtain ⟨wm, hwm⟩ : ∃ wm, wm = wl.alloc (.cells #[.int .i64 f9, .int .i64 h9] 51) := ⟨_, rfl⟩
                rw [← hwm]
                have hbA : Below wl.heap.size wl wm := by rw [hwm]; exact (Below.refl _ _).alloc (Nat.le_refl _) _
                have hr0 : wm.cell? ⟨wl.heap.size, 0, none⟩ = some (.int .i64 f9) := by rw [hwm]; simp
                have hr1 : wm.cell? ⟨wl.heap.size, 1, none⟩ = some (.int .i64 h9) := by rw [hwm]; simp
                have hFR := own_ne_ge (g := wl.heap.size) hownF (Nat.le_refl _)
                have hKR := own_ne_ge (g := wl.heap.size) hownK (Nat.le_refl _)
                replace hownF := own_below hownF hbA
                replace hownK := own_below hownK hbA
                replace hrD := hrD.below hbA
                replace hs0 := keep_cell hbA hs0
                replace hs1 := keep_cell hbA hs1
                replace hx0 := keep_cell hbA hx0
                replace hx1 := keep_cell hbA hx1
                replace hw := keep_below hbA hw
                clear hwm hbA
                generalize wl.heap.size = gR at hr0 hr1 hFR hKR ⊢
                have hKF : ∀ g : Nat, (Value.slice (some ⟨gK, 0, none⟩) (K x).length c2).ownBlock = some g → u8.ownBlock ≠ some g := fun g h e => hFK g e h
                refine wp_region_held_drew (S := fun w' => w'.cell? ⟨gR, 0, none⟩ = some (.int .i64 f9) ∧ w'.cell? ⟨gR, 1, none⟩ = some (.int .i64 h9) ∧ w'.cell? ⟨gS, 0, none⟩ = some (.int .i64 a9) ∧ w'.cell? ⟨gS, 1, none⟩ = some (.int .i64 b9) ∧ w'.cell? ⟨w.heap.size, 0, none⟩ = some (.slice (some ⟨b7, o7, none⟩) xs.length c) ∧ w'.cell? ⟨w.heap.size, 1, none⟩ = some (.slice B ys.length e) ∧ Below w.heap.size w w') (by kernel_rfl) ⟨hr0, hr1, hs0, hs1, hx0, hx1, hw.drew⟩ (fun hHeld => ?_)
                refine wpAnyH_take (i := 0) (oi := ?ooq1) (v := ?vvq1) ?hiq1 (by kernel_rfl) (by kernel_rfl) (by kernel_rfl) ?hqq1 (Or.inl ⟨?hgq1, ?hyq1⟩) (by assumption) ?restq1
                case hiq1 => simp only [List.getElem?_toArray, List.getElem?_cons_zero, List.getElem?_cons_succ]; rfl
                case hqq1 => exact fun _ _ _ h => h
                case hgq1 => rfl
                case hyq1 =>
                  intro wq hSw
                  obtain ⟨hr0, hr1, hs0, hs1, hx0, hx1, hw⟩ := hSw
                  go_simp
                  (try with_reducible rfl)
                (try simp only [Act.put, List.setIfInBounds_toArray, List.set_cons_zero, List.set_cons_succ])
                refine wpAnyH_take (i := 1) (oi := ?ooq2) (v := ?vvq2) ?hiq2 (by kernel_rfl) (by kernel_rfl) (by kernel_rfl) ?hqq2 (Or.inl ⟨?hgq2, ?hyq2⟩) (by assumption) ?restq2
                case hiq2 => simp only [List.getElem?_toArray, List.getElem?_cons_zero, List.getElem?_cons_succ]; rfl
                case hqq2 => exact fun _ _ _ h => h
                case hgq2 => rfl
                case hyq2 =>
                  intro wq hSw
                  obtain ⟨hr0, hr1, hs0, hs1, hx0, hx1, hw⟩ := hSw
                  go_simp
                  (try with_reducible rfl)
                (try simp only [Act.put, List.setIfInBounds_toArray, List.set_cons_zero, List.set_cons_succ])
                refine wpAnyH_take (i := 4) (oi := ?ooq3) (v := ?vvq3) ?hiq3 (by kernel_rfl) (by kernel_rfl) (by kernel_rfl) ?hqq3 (Or.inl ⟨?hgq3, ?hyq3⟩) (by assumption) ?restq3
                case hiq3 => simp only [List.getElem?_toArray, List.getElem?_cons_zero, List.getElem?_cons_succ]; rfl
                case hqq3 => exact fun _ _ _ h => h
                case hgq3 => rfl
                case hyq3 =>
                  intro wq hSw
                  obtain ⟨hr0, hr1, hs0, hs1, hx0, hx1, hw⟩ := hSw
                  go_simp
                  (try with_reducible rfl)
                (try simp only [Act.put, List.setIfInBounds_toArray, List.set_cons_zero, List.set_cons_succ])
                refine wpAnyH_take (i := 5) (oi := ?ooq4) (v := ?vvq4) ?hiq4 (by kernel_rfl) (by kernel_rfl) (by kernel_rfl) ?hqq4 (Or.inl ⟨?hgq4, ?hyq4⟩) (by assumption) ?restq4
                case hiq4 => simp only [List.getElem?_toArray, List.getElem?_cons_zero, List.getElem?_cons_succ]; rfl
                case hqq4 => exact fun _ _ _ h => h
                case hgq4 => rfl
                case hyq4 =>
                  intro wq hSw
                  obtain ⟨hr0, hr1, hs0, hs1, hx0, hx1, hw⟩ := hSw
                  go_simp
                  (try with_reducible rfl)
                (try simp only [Act.put, List.setIfInBounds_toArray, List.set_cons_zero, List.set_cons_succ])
                refine wpAnyH_ready (rs := [2, 6]) (by kernel_rfl) (by simp) ?_
                refine AllReadyH.cons (i := 2) (o := ?ooq5) ?hoq5 (fun K9 hK9 => ?hstepq5) ?moreq5
                case hoq5 => simp only [List.getElem?_toArray, List.getElem?_cons_zero, List.getElem?_cons_succ]; rfl
                case hstepq5 =>
                  go_simp
                  clear hHeld
                  refine hK9.out _ _ ⟨keep_cell (Below.drew ((Below.refl wm.heap.size wm).alloc (Nat.le_refl _) _)) hr0, keep_cell (Below.drew ((Below.refl wm.heap.size wm).alloc (Nat.le_refl _) _)) hr1, keep_cell (Below.drew ((Below.refl wm.heap.size wm).alloc (Nat.le_refl _) _)) hs0, keep_cell (Below.drew ((Below.refl wm.heap.size wm).alloc (Nat.le_refl _) _)) hs1, keep_cell (Below.drew ((Below.refl wm.heap.size wm).alloc (Nat.le_refl _) _)) hx0, keep_cell (Below.drew ((Below.refl wm.heap.size wm).alloc (Nat.le_refl _) _)) hx1, Below.drew (keep_below_alloc hw _)⟩ (fun hHeld => ?_)
                  clear hK9 K9
                  (try simp only [Act.put, List.setIfInBounds_toArray, List.set_cons_zero, List.set_cons_succ])
                  refine wpAnyH_name hHeld (fun waq5 hHa hwz => ?_)
                  have hbA : Below wm.heap.size wm waq5 := by rw [hwz]; exact Below.drew ((Below.refl wm.heap.size wm).alloc (Nat.le_refl _) _)
                  have hKnF := own_ne_ge (g := wm.heap.size) hownK (Nat.le_refl _)
                  replace hr0 := keep_cell hbA hr0
                  replace hr1 := keep_cell hbA hr1
                  replace hs0 := keep_cell hbA hs0
                  replace hs1 := keep_cell hbA hs1
                  replace hx0 := keep_cell hbA hx0
                  replace hx1 := keep_cell hbA hx1
                  replace hownF := own_below hownF hbA
                  replace hownK := own_below hownK hbA
                  replace hrD := hrD.below hbA
                  replace hw := keep_below hbA hw
                  have hnF : Row2 waq5 wm.heap.size [(f9, h9)] := by rw [hwz]; exact ⟨_, heap_alloc_new wm _, [], rfl⟩
                  clear hHeld hbA hwz
                  have hHeld := hHa
                  clear hHa
                  refine wpAnyH_ready (rs := [3, 6]) (by kernel_rfl) (by simp) ?_
                  refine AllReadyH.cons (i := 3) (o := ?ooq6) ?hoq6 (fun K9 hK9 => ?hstepq6) ?moreq6
                  case hoq6 => simp only [List.getElem?_toArray, List.getElem?_cons_zero, List.getElem?_cons_succ]; rfl
                  case hstepq6 =>
                    clear hHeld
                    refine step_append_elder _ (by rfl) _ _ 44 (by rfl) (w.heap.size + 1) 51 i0 (.agg #[.int .i64 0, .int .i64 0]) 2 16 Try.underlying44 hi hz0 hz1 hz2 rfl (by decide) _ _ _ (by rfl) hownF ⟨wm.heap.size, 0, none⟩ 1 1 [.int .i64 f9, .int .i64 h9] (by rfl) rfl hnF.news (by simp [Value.oneCell']) (by unfold maxLen; omega) (by omega) (World.block_lt_of_cell? _ _ hx0) ?_
                    intro vF wpq6 hown1 hgrow hat hel
                    have kY := hownK.kept hgrow (ne_or hKF)
                    have kL := hownK.lt
                    have kD := hrD.grown hgrow (fun h => hFD (by exact h))
                    have lD := hrD.lt
                    have khr0 := grown_cell (p := ⟨gR, 0, none⟩) hgrow hr0 (fun h => hFR (by exact h))
                    have khr1 := grown_cell (p := ⟨gR, 1, none⟩) hgrow hr1 (fun h => hFR (by exact h))
                    have khs0 := grown_cell (p := ⟨gS, 0, none⟩) hgrow hs0 (fun h => hFS (by exact h))
                    have khs1 := grown_cell (p := ⟨gS, 1, none⟩) hgrow hs1 (fun h => hFS (by exact h))
                    have khx0 := grown_cell (p := ⟨w.heap.size, 0, none⟩) hgrow hx0 (own_ne (g := w.heap.size) hownF (by omega))
                    have khx1 := grown_cell (p := ⟨w.heap.size, 1, none⟩) hgrow hx1 (own_ne (g := w.heap.size) hownF (by omega))
                    have lR := World.block_lt_of_cell? _ _ hr0
                    have lS := World.block_lt_of_cell? _ _ hs0
                    simp only at lR lS
                    have kw := Below.grown hw hgrow hw.size (fun g hg => by have := (hownF.lt g hg).1; omega)
                    have n1 : vF.ownBlock ≠ some gD := by
                      rcases hat with e | e
                      · rw [e]; exact hFD
                      · rw [e]; intro h'; injection h' with h'; omega
                    have n2 : vF.ownBlock ≠ some gR := by
                      rcases hat with e | e
                      · rw [e]; exact hFR
                      · rw [e]; intro h'; injection h' with h'; omega
                    have n3 : vF.ownBlock ≠ some gS := by
                      rcases hat with e | e
                      · rw [e]; exact hFS
                      · rw [e]; intro h'; injection h' with h'; omega
                    have n5 : ∀ g : Nat, vF.ownBlock = some g → (Value.slice (some ⟨gK, 0, none⟩) (K x).length c2).ownBlock ≠ some g := fun g hg => by
                      rcases hat with e | e
                      · rw [e] at hg; exact hFK g hg
                      · rw [e] at hg; injection hg with hg; intro h'; have := (kL g h').2; omega
                    have n6 : ∀ g : Nat, (Value.slice (some ⟨gK, 0, none⟩) (K x).length c2).ownBlock = some g → vF.ownBlock ≠ some g := fun g hg h => n5 g h hg
                    rw [← HFX.out] at hown1
                    clear hownF hownK hrD hr0 hr1 hs0 hs1 hx0 hx1 hw hat hel hgrow hFD hFR hFS hFK hKF hnF kL lD lR lS hKnF
                    have hownF := hown1
                    have hownK := kY
                    have hrD := kD
                    have hr0 := khr0
                    have hr1 := khr1
                    have hs0 := khs0
                    have hs1 := khs1
                    have hx0 := khx0
                    have hx1 := khx1
                    have hw := kw
                    have hFD := n1
                    have hFR := n2
                    have hFS := n3
                    have hFK := n5
                    have hKF := n6
                    clear hown1 kY kD khr0 khr1 khs0 khs1 khx0 khx1 kw n1 n2 n3 n5 n6
                    refine hK9.out _ _ ⟨hr0, hr1, hs0, hs1, hx0, hx1, hw⟩ (fun hHeld => ?_)
                    clear hK9 K9
                    (try simp only [Act.put, List.setIfInBounds_toArray, List.set_cons_zero, List.set_cons_succ])
                    refine wpAnyH_ready (rs := [6]) (by kernel_rfl) (by simp) ?_
                    refine AllReadyH.cons (i := 6) (o := ?ooq7) ?hoq7 (fun K9 hK9 => ?hstepq7) AllReadyH.nil
                    case hoq7 => simp only [List.getElem?_toArray, List.getElem?_cons_zero, List.getElem?_cons_succ]; rfl
                    go_simp
                    clear hHeld
                    refine hK9.out _ _ ⟨keep_cell ((Below.refl wpq6.heap.size wpq6).alloc (Nat.le_refl _) _) hr0, keep_cell ((Below.refl wpq6.heap.size wpq6).alloc (Nat.le_refl _) _) hr1, keep_cell ((Below.refl wpq6.heap.size wpq6).alloc (Nat.le_refl _) _) hs0, keep_cell ((Below.refl wpq6.heap.size wpq6).alloc (Nat.le_refl _) _) hs1, keep_cell ((Below.refl wpq6.heap.size wpq6).alloc (Nat.le_refl _) _) hx0, keep_cell ((Below.refl wpq6.heap.size wpq6).alloc (Nat.le_refl _) _) hx1, keep_below_alloc hw _⟩ (fun hHeld => ?_)
                    clear hK9 K9
                    (try simp only [Act.put, List.setIfInBounds_toArray, List.set_cons_zero, List.set_cons_succ])
                    refine wpAnyH_name hHeld (fun waq7 hHa hwz => ?_)
                    have hbA : Below wpq6.heap.size wpq6 waq7 := by rw [hwz]; exact (Below.refl wpq6.heap.size wpq6).alloc (Nat.le_refl _) _
                    have hFnK := own_ne_ge (g := wpq6.heap.size) hownF (Nat.le_refl _)
                    replace hr0 := keep_cell hbA hr0
                    replace hr1 := keep_cell hbA hr1
                    replace hs0 := keep_cell hbA hs0
                    replace hs1 := keep_cell hbA hs1
                    replace hx0 := keep_cell hbA hx0
                    replace hx1 := keep_cell hbA hx1
                    replace hownF := own_below hownF hbA
                    replace hownK := own_below hownK hbA
                    replace hrD := hrD.below hbA
                    replace hw := keep_below hbA hw
                    have hnK : Row2 waq7 wpq6.heap.size [(a9, b9)] := by rw [hwz]; exact ⟨_, heap_alloc_new wpq6 _, [], rfl⟩
                    generalize wpq6.heap.size = gNK at hnK hFnK ⊢
                    clear hHeld hbA hwz
                    have hHeld := hHa
                    clear hHa
                    refine wpAnyH_ready (rs := [7]) (by kernel_rfl) (by simp) ?_
                    refine AllReadyH.cons (i := 7) (o := ?ooq8) ?hoq8 (fun K9 hK9 => ?hstepq8) AllReadyH.nil
                    case hoq8 => simp only [List.getElem?_toArray, List.getElem?_cons_zero, List.getElem?_cons_succ]; rfl
                    clear hHeld
                    refine step_append_elder _ (by rfl) _ _ 44 (by rfl) (w.heap.size + 1) 51 i0 (.agg #[.int .i64 0, .int .i64 0]) 2 16 Try.underlying44 hi hz0 hz1 hz2 rfl (by decide) _ _ _ (by rfl) hownK ⟨gNK, 0, none⟩ 1 1 [.int .i64 a9, .int .i64 b9] (by rfl) rfl hnK.news (by simp [Value.oneCell']) (by unfold maxLen; omega) (by omega) (World.block_lt_of_cell? _ _ hx0) ?_
                    intro vK wpq8 hown1 hgrow hat hel
                    have kY := hownF.kept hgrow (ne_or hFK)
                    have kL := hownF.lt
                    have kD := hrD.grown hgrow (fun h => hKD (by exact h))
                    have lD := hrD.lt
                    have khr0 := grown_cell (p := ⟨gR, 0, none⟩) hgrow hr0 (fun h => hKR (by exact h))
                    have khr1 := grown_cell (p := ⟨gR, 1, none⟩) hgrow hr1 (fun h => hKR (by exact h))
                    have khs0 := grown_cell (p := ⟨gS, 0, none⟩) hgrow hs0 (fun h => hKS (by exact h))
                    have khs1 := grown_cell (p := ⟨gS, 1, none⟩) hgrow hs1 (fun h => hKS (by exact h))
                    have khx0 := grown_cell (p := ⟨w.heap.size, 0, none⟩) hgrow hx0 (own_ne (g := w.heap.size) hownK (by omega))
                    have khx1 := grown_cell (p := ⟨w.heap.size, 1, none⟩) hgrow hx1 (own_ne (g := w.heap.size) hownK (by omega))
                    have lR := World.block_lt_of_cell? _ _ hr0
                    have lS := World.block_lt_of_cell? _ _ hs0
                    simp only at lR lS
                    have kw := Below.grown hw hgrow hw.size (fun g hg => by have := (hownK.lt g hg).1; omega)
                    have n1 : vK.ownBlock ≠ some gD := by
                      rcases hat with e | e
                      · rw [e]; exact hKD
                      · rw [e]; intro h'; injection h' with h'; omega
                    have n2 : vK.ownBlock ≠ some gR := by
                      rcases hat with e | e
                      · rw [e]; exact hKR
                      · rw [e]; intro h'; injection h' with h'; omega
                    have n3 : vK.ownBlock ≠ some gS := by
                      rcases hat with e | e
                      · rw [e]; exact hKS
                      · rw [e]; intro h'; injection h' with h'; omega
                    have n5 : ∀ g : Nat, vK.ownBlock = some g → vF.ownBlock ≠ some g := fun g hg => by
                      rcases hat with e | e
                      · rw [e] at hg; exact hKF g hg
                      · rw [e] at hg; injection hg with hg; intro h'; have := (kL g h').2; omega
                    have n6 : ∀ g : Nat, vF.ownBlock = some g → vK.ownBlock ≠ some g := fun g hg h => n5 g h hg
                    rw [← HKX.out] at hown1
                    clear hownK hownF hrD hr0 hr1 hs0 hs1 hx0 hx1 hw hat hel hgrow hKD hKR hKS hKF hFK hnK kL lD lR lS hFnK
                    have hownK := hown1
                    have hownF := kY
                    have hrD := kD
                    have hr0 := khr0
                    have hr1 := khr1
                    have hs0 := khs0
                    have hs1 := khs1
                    have hx0 := khx0
                    have hx1 := khx1
                    have hw := kw
                    have hKD := n1
                    have hKR := n2
                    have hKS := n3
                    have hKF := n5
                    have hFK := n6
                    clear hown1 kY kD khr0 khr1 khs0 khs1 khx0 khx1 kw n1 n2 n3 n5 n6
                    refine hK9.out _ _ ⟨hr0, hr1, hs0, hs1, hx0, hx1, hw⟩ (fun hHeld => ?_)
                    clear hK9 K9
                    (try simp only [Act.put, List.setIfInBounds_toArray, List.set_cons_zero, List.set_cons_succ])
                    refine wpAnyH_take (i := 8) (oi := ?ooq9) (v := ?vvq9) ?hiq9 (by kernel_rfl) (by kernel_rfl) (by kernel_rfl) ?hqq9 (Or.inl ⟨?hgq9, ?hyq9⟩) (by assumption) ?restq9
                    case hiq9 => simp only [List.getElem?_toArray, List.getElem?_cons_zero, List.getElem?_cons_succ]; rfl
                    case hqq9 => exact fun _ _ _ h => h
                    case hgq9 => rfl
                    case hyq9 =>
                      intro wq hSw
                      obtain ⟨hr0, hr1, hs0, hs1, hx0, hx1, hw⟩ := hSw
                      go_simp
                      (try with_reducible rfl)
                    (try simp only [Act.put, List.setIfInBounds_toArray, List.set_cons_zero, List.set_cons_succ])
                    refine wpAnyH_take (i := 9) (oi := ?ooq10) (v := ?vvq10) ?hiq10 (by kernel_rfl) (by kernel_rfl) (by kernel_rfl) ?hqq10 (Or.inl ⟨?hgq10, ?hyq10⟩) (by assumption) ?restq10
                    case hiq10 => simp only [List.getElem?_toArray, List.getElem?_cons_zero, List.getElem?_cons_succ]; rfl
                    case hqq10 => exact fun _ _ _ h => h
                    case hgq10 => rfl
                    case hyq10 =>
                      intro wq hSw
                      obtain ⟨hr0, hr1, hs0, hs1, hx0, hx1, hw⟩ := hSw
                      go_simp
                      (try with_reducible rfl)
                    (try simp only [Act.put, List.setIfInBounds_toArray, List.set_cons_zero, List.set_cons_succ])
                    clear hHeld
                    refine wpAnyH_done (by kernel_rfl) ?_ _
                    clear hr0 hr1 hs0 hs1 hFR hKR hFS hKS hKF
                    go_wp2
                    go_roundw
                    case rel => exact ⟨x + 1, by omega, by go_num, hownF, hownK, hFK, hFD, hKD, HA', hrD, hx0, hx1, hw⟩
                    case measure => simp only [intOf]; omega
                  refine AllReadyH.cons (i := 6) (o := ?ooq11) ?hoq11 (fun K9 hK9 => ?hstepq11) ?moreq11
                  case hoq11 => simp only [List.getElem?_toArray, List.getElem?_cons_zero, List.getElem?_cons_succ]; rfl
                  case hstepq11 =>
                    go_simp
                    clear hHeld
                    refine hK9.out _ _ ⟨keep_cell ((Below.refl waq5.heap.size waq5).alloc (Nat.le_refl _) _) hr0, keep_cell ((Below.refl waq5.heap.size waq5).alloc (Nat.le_refl _) _) hr1, keep_cell ((Below.refl waq5.heap.size waq5).alloc (Nat.le_refl _) _) hs0, keep_cell ((Below.refl waq5.heap.size waq5).alloc (Nat.le_refl _) _) hs1, keep_cell ((Below.refl waq5.heap.size waq5).alloc (Nat.le_refl _) _) hx0, keep_cell ((Below.refl waq5.heap.size waq5).alloc (Nat.le_refl _) _) hx1, keep_below_alloc hw _⟩ (fun hHeld => ?_)
                    clear hK9 K9
                    (try simp only [Act.put, List.setIfInBounds_toArray, List.set_cons_zero, List.set_cons_succ])
                    refine wpAnyH_name hHeld (fun waq11 hHa hwz => ?_)
                    have hbA : Below waq5.heap.size waq5 waq11 := by rw [hwz]; exact (Below.refl waq5.heap.size waq5).alloc (Nat.le_refl _) _
                    have hFnK := own_ne_ge (g := waq5.heap.size) hownF (Nat.le_refl _)
                    replace hr0 := keep_cell hbA hr0
                    replace hr1 := keep_cell hbA hr1
                    replace hs0 := keep_cell hbA hs0
                    replace hs1 := keep_cell hbA hs1
                    replace hx0 := keep_cell hbA hx0
                    replace hx1 := keep_cell hbA hx1
                    replace hownF := own_below hownF hbA
                    replace hownK := own_below hownK hbA
                    replace hrD := hrD.below hbA
                    replace hnF := hnF.below hbA
                    replace hw := keep_below hbA hw
                    have hnK : Row2 waq11 waq5.heap.size [(a9, b9)] := by rw [hwz]; exact ⟨_, heap_alloc_new waq5 _, [], rfl⟩
                    generalize waq5.heap.size = gNK at hnK hFnK ⊢
                    clear hHeld hbA hwz
                    have hHeld := hHa
                    clear hHa
                    refine wpAnyH_ready (rs := [3]) (by kernel_rfl) (by simp) ?_
                    refine AllReadyH.cons (i := 3) (o := ?ooq12) ?hoq12 (fun K9 hK9 => ?hstepq12) AllReadyH.nil
                    case hoq12 => simp only [List.getElem?_toArray, List.getElem?_cons_zero, List.getElem?_cons_succ]; rfl
                    clear hHeld
                    refine step_append_elder _ (by rfl) _ _ 44 (by rfl) (w.heap.size + 1) 51 i0 (.agg #[.int .i64 0, .int .i64 0]) 2 16 Try.underlying44 hi hz0 hz1 hz2 rfl (by decide) _ _ _ (by rfl) hownF ⟨wm.heap.size, 0, none⟩ 1 1 [.int .i64 f9, .int .i64 h9] (by rfl) rfl hnF.news (by simp [Value.oneCell']) (by unfold maxLen; omega) (by omega) (World.block_lt_of_cell? _ _ hx0) ?_
                    intro vF wpq12 hown1 hgrow hat hel
                    have kY := hownK.kept hgrow (ne_or hKF)
                    have kL := hownK.lt
                    have kD := hrD.grown hgrow (fun h => hFD (by exact h))
                    have lD := hrD.lt
                    have khr0 := grown_cell (p := ⟨gR, 0, none⟩) hgrow hr0 (fun h => hFR (by exact h))
                    have khr1 := grown_cell (p := ⟨gR, 1, none⟩) hgrow hr1 (fun h => hFR (by exact h))
                    have khs0 := grown_cell (p := ⟨gS, 0, none⟩) hgrow hs0 (fun h => hFS (by exact h))
                    have khs1 := grown_cell (p := ⟨gS, 1, none⟩) hgrow hs1 (fun h => hFS (by exact h))
                    have khx0 := grown_cell (p := ⟨w.heap.size, 0, none⟩) hgrow hx0 (own_ne (g := w.heap.size) hownF (by omega))
                    have khx1 := grown_cell (p := ⟨w.heap.size, 1, none⟩) hgrow hx1 (own_ne (g := w.heap.size) hownF (by omega))
                    have lR := World.block_lt_of_cell? _ _ hr0
                    have lS := World.block_lt_of_cell? _ _ hs0
                    simp only at lR lS
                    have kw := Below.grown hw hgrow hw.size (fun g hg => by have := (hownF.lt g hg).1; omega)
                    have kn := hnK.grown hgrow (fun h => hFnK (by exact h))
                    have ln := hnK.lt
                    have n1 : vF.ownBlock ≠ some gD := by
                      rcases hat with e | e
                      · rw [e]; exact hFD
                      · rw [e]; intro h'; injection h' with h'; omega
                    have n2 : vF.ownBlock ≠ some gR := by
                      rcases hat with e | e
                      · rw [e]; exact hFR
                      · rw [e]; intro h'; injection h' with h'; omega
                    have n3 : vF.ownBlock ≠ some gS := by
                      rcases hat with e | e
                      · rw [e]; exact hFS
                      · rw [e]; intro h'; injection h' with h'; omega
                    have n4 : vF.ownBlock ≠ some gNK := by
                      rcases hat with e | e
                      · rw [e]; exact hFnK
                      · rw [e]; intro h'; injection h' with h'; omega
                    have n5 : ∀ g : Nat, vF.ownBlock = some g → (Value.slice (some ⟨gK, 0, none⟩) (K x).length c2).ownBlock ≠ some g := fun g hg => by
                      rcases hat with e | e
                      · rw [e] at hg; exact hFK g hg
                      · rw [e] at hg; injection hg with hg; intro h'; have := (kL g h').2; omega
                    have n6 : ∀ g : Nat, (Value.slice (some ⟨gK, 0, none⟩) (K x).length c2).ownBlock = some g → vF.ownBlock ≠ some g := fun g hg h => n5 g h hg
                    rw [← HFX.out] at hown1
                    clear hownF hownK hrD hr0 hr1 hs0 hs1 hx0 hx1 hw hat hel hgrow hFD hFR hFS hFK hKF hnF kL lD lR lS hnK hFnK ln hKnF
                    have hownF := hown1
                    have hownK := kY
                    have hrD := kD
                    have hr0 := khr0
                    have hr1 := khr1
                    have hs0 := khs0
                    have hs1 := khs1
                    have hx0 := khx0
                    have hx1 := khx1
                    have hw := kw
                    have hFD := n1
                    have hFR := n2
                    have hFS := n3
                    have hFK := n5
                    have hKF := n6
                    have hnK := kn
                    have hFnK := n4
                    clear hown1 kY kD khr0 khr1 khs0 khs1 khx0 khx1 kw n1 n2 n3 n5 n6 kn n4
                    refine hK9.out _ _ ⟨hr0, hr1, hs0, hs1, hx0, hx1, hw⟩ (fun hHeld => ?_)
                    clear hK9 K9
                    (try simp only [Act.put, List.setIfInBounds_toArray, List.set_cons_zero, List.set_cons_succ])
                    refine wpAnyH_ready (rs := [7]) (by kernel_rfl) (by simp) ?_
                    refine AllReadyH.cons (i := 7) (o := ?ooq13) ?hoq13 (fun K9 hK9 => ?hstepq13) AllReadyH.nil
                    case hoq13 => simp only [List.getElem?_toArray, List.getElem?_cons_zero, List.getElem?_cons_succ]; rfl
                    clear hHeld
                    refine step_append_elder _ (by rfl) _ _ 44 (by rfl) (w.heap.size + 1) 51 i0 (.agg #[.int .i64 0, .int .i64 0]) 2 16 Try.underlying44 hi hz0 hz1 hz2 rfl (by decide) _ _ _ (by rfl) hownK ⟨gNK, 0, none⟩ 1 1 [.int .i64 a9, .int .i64 b9] (by rfl) rfl hnK.news (by simp [Value.oneCell']) (by unfold maxLen; omega) (by omega) (World.block_lt_of_cell? _ _ hx0) ?_
                    intro vK wpq13 hown1 hgrow hat hel
                    have kY := hownF.kept hgrow (ne_or hFK)
                    have kL := hownF.lt
                    have kD := hrD.grown hgrow (fun h => hKD (by exact h))
                    have lD := hrD.lt
                    have khr0 := grown_cell (p := ⟨gR, 0, none⟩) hgrow hr0 (fun h => hKR (by exact h))
                    have khr1 := grown_cell (p := ⟨gR, 1, none⟩) hgrow hr1 (fun h => hKR (by exact h))
                    have khs0 := grown_cell (p := ⟨gS, 0, none⟩) hgrow hs0 (fun h => hKS (by exact h))
                    have khs1 := grown_cell (p := ⟨gS, 1, none⟩) hgrow hs1 (fun h => hKS (by exact h))
                    have khx0 := grown_cell (p := ⟨w.heap.size, 0, none⟩) hgrow hx0 (own_ne (g := w.heap.size) hownK (by omega))
                    have khx1 := grown_cell (p := ⟨w.heap.size, 1, none⟩) hgrow hx1 (own_ne (g := w.heap.size) hownK (by omega))
                    have lR := World.block_lt_of_cell? _ _ hr0
                    have lS := World.block_lt_of_cell? _ _ hs0
                    simp only at lR lS
                    have kw := Below.grown hw hgrow hw.size (fun g hg => by have := (hownK.lt g hg).1; omega)
                    have n1 : vK.ownBlock ≠ some gD := by
                      rcases hat with e | e
                      · rw [e]; exact hKD
                      · rw [e]; intro h'; injection h' with h'; omega
                    have n2 : vK.ownBlock ≠ some gR := by
                      rcases hat with e | e
                      · rw [e]; exact hKR
                      · rw [e]; intro h'; injection h' with h'; omega
                    have n3 : vK.ownBlock ≠ some gS := by
                      rcases hat with e | e
                      · rw [e]; exact hKS
                      · rw [e]; intro h'; injection h' with h'; omega
                    have n5 : ∀ g : Nat, vK.ownBlock = some g → vF.ownBlock ≠ some g := fun g hg => by
                      rcases hat with e | e
                      · rw [e] at hg; exact hKF g hg
                      · rw [e] at hg; injection hg with hg; intro h'; have := (kL g h').2; omega
                    have n6 : ∀ g : Nat, vF.ownBlock = some g → vK.ownBlock ≠ some g := fun g hg h => n5 g h hg
                    rw [← HKX.out] at hown1
                    clear hownK hownF hrD hr0 hr1 hs0 hs1 hx0 hx1 hw hat hel hgrow hKD hKR hKS hKF hFK hnK kL lD lR lS hFnK
                    have hownK := hown1
                    have hownF := kY
                    have hrD := kD
                    have hr0 := khr0
                    have hr1 := khr1
                    have hs0 := khs0
                    have hs1 := khs1
                    have hx0 := khx0
                    have hx1 := khx1
                    have hw := kw
                    have hKD := n1
                    have hKR := n2
                    have hKS := n3
                    have hKF := n5
                    have hFK := n6
                    clear hown1 kY kD khr0 khr1 khs0 khs1 khx0 khx1 kw n1 n2 n3 n5 n6
                    refine hK9.out _ _ ⟨hr0, hr1, hs0, hs1, hx0, hx1, hw⟩ (fun hHeld => ?_)
                    clear hK9 K9
                    (try simp only [Act.put, List.setIfInBounds_toArray, List.set_cons_zero, List.set_cons_succ])
                    refine wpAnyH_take (i := 8) (oi := ?ooq14) (v := ?vvq14) ?hiq14 (by kernel_rfl) (by kernel_rfl) (by kernel_rfl) ?hqq14 (Or.inl ⟨?hgq14, ?hyq14⟩) (by assumption) ?restq14
                    case hiq14 => simp only [List.getElem?_toArray, List.getElem?_cons_zero, List.getElem?_cons_succ]; rfl
                    case hqq14 => exact fun _ _ _ h => h
                    case hgq14 => rfl
                    case hyq14 =>
                      intro wq hSw
                      obtain ⟨hr0, hr1, hs0, hs1, hx0, hx1, hw⟩ := hSw
                      go_simp
                      (try with_reducible rfl)
                    (try simp only [Act.put, List.setIfInBounds_toArray, List.set_cons_zero, List.set_cons_succ])
                    refine wpAnyH_take (i := 9) (oi := ?ooq15) (v := ?vvq15) ?hiq15 (by kernel_rfl) (by kernel_rfl) (by kernel_rfl) ?hqq15 (Or.inl ⟨?hgq15, ?hyq15⟩) (by assumption) ?restq15
                    case hiq15 => simp only [List.getElem?_toArray, List.getElem?_cons_zero, List.getElem?_cons_succ]; rfl
                    case hqq15 => exact fun _ _ _ h => h
                    case hgq15 => rfl
                    case hyq15 =>
                      intro wq hSw
                      obtain ⟨hr0, hr1, hs0, hs1, hx0, hx1, hw⟩ := hSw
                      go_simp
                      (try with_reducible rfl)
                    (try simp only [Act.put, List.setIfInBounds_toArray, List.set_cons_zero, List.set_cons_succ])
                    clear hHeld
                    refine wpAnyH_done (by kernel_rfl) ?_ _
                    clear hr0 hr1 hs0 hs1 hFR hKR hFS hKS hKF
                    go_wp2
                    go_roundw
                    case rel => exact ⟨x + 1, by omega, by go_num, hownF, hownK, hFK, hFD, hKD, HA', hrD, hx0, hx1, hw⟩
                    case measure => simp only [intOf]; omega
                  exact AllReadyH.nil
                refine AllReadyH.cons (i := 6) (o := ?ooq16) ?hoq16 (fun K9 hK9 => ?hstepq16) ?moreq16
                case hoq16 => simp only [List.getElem?_toArray, List.getElem?_cons_zero, List.getElem?_cons_succ]; rfl
                case hstepq16 =>
                  go_simp
                  clear hHeld
                  refine hK9.out _ _ ⟨keep_cell (Below.drew ((Below.refl wm.heap.size wm).alloc (Nat.le_refl _) _)) hr0, keep_cell (Below.drew ((Below.refl wm.heap.size wm).alloc (Nat.le_refl _) _)) hr1, keep_cell (Below.drew ((Below.refl wm.heap.size wm).alloc (Nat.le_refl _) _)) hs0, keep_cell (Below.drew ((Below.refl wm.heap.size wm).alloc (Nat.le_refl _) _)) hs1, keep_cell (Below.drew ((Below.refl wm.heap.size wm).alloc (Nat.le_refl _) _)) hx0, keep_cell (Below.drew ((Below.refl wm.heap.size wm).alloc (Nat.le_refl _) _)) hx1, Below.drew (keep_below_alloc hw _)⟩ (fun hHeld => ?_)
                  clear hK9 K9
                  (try simp only [Act.put, List.setIfInBounds_toArray, List.set_cons_zero, List.set_cons_succ])
                  refine wpAnyH_name hHeld (fun waq16 hHa hwz => ?_)
                  have hbA : Below wm.heap.size wm waq16 := by rw [hwz]; exact Below.drew ((Below.refl wm.heap.size wm).alloc (Nat.le_refl _) _)
                  have hFnK := own_ne_ge (g := wm.heap.size) hownF (Nat.le_refl _)
                  replace hr0 := keep_cell hbA hr0
                  replace hr1 := keep_cell hbA hr1
                  replace hs0 := keep_cell hbA hs0
                  replace hs1 := keep_cell hbA hs1
                  replace hx0 := keep_cell hbA hx0
                  replace hx1 := keep_cell hbA hx1
                  replace hownF := own_below hownF hbA
                  replace hownK := own_below hownK hbA
                  replace hrD := hrD.below hbA
                  replace hw := keep_below hbA hw
                  have hnK : Row2 waq16 wm.heap.size [(a9, b9)] := by rw [hwz]; exact ⟨_, heap_alloc_new wm _, [], rfl⟩
                  clear hHeld hbA hwz
                  have hHeld := hHa
                  clear hHa
                  refine wpAnyH_ready (rs := [2]) (by kernel_rfl) (by simp) ?_
                  refine AllReadyH.cons (i := 2) (o := ?ooq17) ?hoq17 (fun K9 hK9 => ?hstepq17) AllReadyH.nil
                  case hoq17 => simp only [List.getElem?_toArray, List.getElem?_cons_zero, List.getElem?_cons_succ]; rfl
                  go_simp
                  clear hHeld
                  refine hK9.out _ _ ⟨keep_cell ((Below.refl waq16.heap.size waq16).alloc (Nat.le_refl _) _) hr0, keep_cell ((Below.refl waq16.heap.size waq16).alloc (Nat.le_refl _) _) hr1, keep_cell ((Below.refl waq16.heap.size waq16).alloc (Nat.le_refl _) _) hs0, keep_cell ((Below.refl waq16.heap.size waq16).alloc (Nat.le_refl _) _) hs1, keep_cell ((Below.refl waq16.heap.size waq16).alloc (Nat.le_refl _) _) hx0, keep_cell ((Below.refl waq16.heap.size waq16).alloc (Nat.le_refl _) _) hx1, keep_below_alloc hw _⟩ (fun hHeld => ?_)
                  clear hK9 K9
                  (try simp only [Act.put, List.setIfInBounds_toArray, List.set_cons_zero, List.set_cons_succ])
                  refine wpAnyH_name hHeld (fun waq17 hHa hwz => ?_)
                  have hbA : Below waq16.heap.size waq16 waq17 := by rw [hwz]; exact (Below.refl waq16.heap.size waq16).alloc (Nat.le_refl _) _
                  have hKnF := own_ne_ge (g := waq16.heap.size) hownK (Nat.le_refl _)
                  replace hr0 := keep_cell hbA hr0
                  replace hr1 := keep_cell hbA hr1
                  replace hs0 := keep_cell hbA hs0
                  replace hs1 := keep_cell hbA hs1
                  replace hx0 := keep_cell hbA hx0
                  replace hx1 := keep_cell hbA hx1
                  replace hownF := own_below hownF hbA
                  replace hownK := own_below hownK hbA
                  replace hrD := hrD.below hbA
                  replace hnK := hnK.below hbA
                  replace hw := keep_below hbA hw
                  have hnF : Row2 waq17 waq16.heap.size [(f9, h9)] := by rw [hwz]; exact ⟨_, heap_alloc_new waq16 _, [], rfl⟩
                  generalize waq16.heap.size = gNF at hnF hKnF ⊢
                  clear hHeld hbA hwz
                  have hHeld := hHa
                  clear hHa
                  refine wpAnyH_ready (rs := [3]) (by kernel_rfl) (by simp) ?_
                  refine AllReadyH.cons (i := 3) (o := ?ooq18) ?hoq18 (fun K9 hK9 => ?hstepq18) AllReadyH.nil
                  case hoq18 => simp only [List.getElem?_toArray, List.getElem?_cons_zero, List.getElem?_cons_succ]; rfl
                  clear hHeld
                  refine step_append_elder _ (by rfl) _ _ 44 (by rfl) (w.heap.size + 1) 51 i0 (.agg #[.int .i64 0, .int .i64 0]) 2 16 Try.underlying44 hi hz0 hz1 hz2 rfl (by decide) _ _ _ (by rfl) hownF ⟨gNF, 0, none⟩ 1 1 [.int .i64 f9, .int .i64 h9] (by rfl) rfl hnF.news (by simp [Value.oneCell']) (by unfold maxLen; omega) (by omega) (World.block_lt_of_cell? _ _ hx0) ?_
                  intro vF wpq18 hown1 hgrow hat hel
                  have kY := hownK.kept hgrow (ne_or hKF)
                  have kL := hownK.lt
                  have kD := hrD.grown hgrow (fun h => hFD (by exact h))
                  have lD := hrD.lt
                  have khr0 := grown_cell (p := ⟨gR, 0, none⟩) hgrow hr0 (fun h => hFR (by exact h))
                  have khr1 := grown_cell (p := ⟨gR, 1, none⟩) hgrow hr1 (fun h => hFR (by exact h))
                  have khs0 := grown_cell (p := ⟨gS, 0, none⟩) hgrow hs0 (fun h => hFS (by exact h))
                  have khs1 := grown_cell (p := ⟨gS, 1, none⟩) hgrow hs1 (fun h => hFS (by exact h))
                  have khx0 := grown_cell (p := ⟨w.heap.size, 0, none⟩) hgrow hx0 (own_ne (g := w.heap.size) hownF (by omega))
                  have khx1 := grown_cell (p := ⟨w.heap.size, 1, none⟩) hgrow hx1 (own_ne (g := w.heap.size) hownF (by omega))
                  have lR := World.block_lt_of_cell? _ _ hr0
                  have lS := World.block_lt_of_cell? _ _ hs0
                  simp only at lR lS
                  have kw := Below.grown hw hgrow hw.size (fun g hg => by have := (hownF.lt g hg).1; omega)
                  have kn := hnK.grown hgrow (fun h => hFnK (by exact h))
                  have ln := hnK.lt
                  have n1 : vF.ownBlock ≠ some gD := by
                    rcases hat with e | e
                    · rw [e]; exact hFD
                    · rw [e]; intro h'; injection h' with h'; omega
                  have n2 : vF.ownBlock ≠ some gR := by
                    rcases hat with e | e
                    · rw [e]; exact hFR
                    · rw [e]; intro h'; injection h' with h'; omega
                  have n3 : vF.ownBlock ≠ some gS := by
                    rcases hat with e | e
                    · rw [e]; exact hFS
                    · rw [e]; intro h'; injection h' with h'; omega
                  have n4 : vF.ownBlock ≠ some wm.heap.size := by
                    rcases hat with e | e
                    · rw [e]; exact hFnK
                    · rw [e]; intro h'; injection h' with h'; omega
                  have n5 : ∀ g : Nat, vF.ownBlock = some g → (Value.slice (some ⟨gK, 0, none⟩) (K x).length c2).ownBlock ≠ some g := fun g hg => by
                    rcases hat with e | e
                    · rw [e] at hg; exact hFK g hg
                    · rw [e] at hg; injection hg with hg; intro h'; have := (kL g h').2; omega
                  have n6 : ∀ g : Nat, (Value.slice (some ⟨gK, 0, none⟩) (K x).length c2).ownBlock = some g → vF.ownBlock ≠ some g := fun g hg h => n5 g h hg
                  rw [← HFX.out] at hown1
                  clear hownF hownK hrD hr0 hr1 hs0 hs1 hx0 hx1 hw hat hel hgrow hFD hFR hFS hFK hKF hnF kL lD lR lS hnK hFnK ln hKnF
                  have hownF := hown1
                  have hownK := kY
                  have hrD := kD
                  have hr0 := khr0
                  have hr1 := khr1
                  have hs0 := khs0
                  have hs1 := khs1
                  have hx0 := khx0
                  have hx1 := khx1
                  have hw := kw
                  have hFD := n1
                  have hFR := n2
                  have hFS := n3
                  have hFK := n5
                  have hKF := n6
                  have hnK := kn
                  have hFnK := n4
                  clear hown1 kY kD khr0 khr1 khs0 khs1 khx0 khx1 kw n1 n2 n3 n5 n6 kn n4
                  refine hK9.out _ _ ⟨hr0, hr1, hs0, hs1, hx0, hx1, hw⟩ (fun hHeld => ?_)
                  clear hK9 K9
                  (try simp only [Act.put, List.setIfInBounds_toArray, List.set_cons_zero, List.set_cons_succ])
                  refine wpAnyH_ready (rs := [7]) (by kernel_rfl) (by simp) ?_
                  refine AllReadyH.cons (i := 7) (o := ?ooq19) ?hoq19 (fun K9 hK9 => ?hstepq19) AllReadyH.nil
                  case hoq19 => simp only [List.getElem?_toArray, List.getElem?_cons_zero, List.getElem?_cons_succ]; rfl
                  clear hHeld
                  refine step_append_elder _ (by rfl) _ _ 44 (by rfl) (w.heap.size + 1) 51 i0 (.agg #[.int .i64 0, .int .i64 0]) 2 16 Try.underlying44 hi hz0 hz1 hz2 rfl (by decide) _ _ _ (by rfl) hownK ⟨wm.heap.size, 0, none⟩ 1 1 [.int .i64 a9, .int .i64 b9] (by rfl) rfl hnK.news (by simp [Value.oneCell']) (by unfold maxLen; omega) (by omega) (World.block_lt_of_cell? _ _ hx0) ?_
                  intro vK wpq19 hown1 hgrow hat hel
                  have kY := hownF.kept hgrow (ne_or hFK)
                  have kL := hownF.lt
                  have kD := hrD.grown hgrow (fun h => hKD (by exact h))
                  have lD := hrD.lt
                  have khr0 := grown_cell (p := ⟨gR, 0, none⟩) hgrow hr0 (fun h => hKR (by exact h))
                  have khr1 := grown_cell (p := ⟨gR, 1, none⟩) hgrow hr1 (fun h => hKR (by exact h))
                  have khs0 := grown_cell (p := ⟨gS, 0, none⟩) hgrow hs0 (fun h => hKS (by exact h))
                  have khs1 := grown_cell (p := ⟨gS, 1, none⟩) hgrow hs1 (fun h => hKS (by exact h))
                  have khx0 := grown_cell (p := ⟨w.heap.size, 0, none⟩) hgrow hx0 (own_ne (g := w.heap.size) hownK (by omega))
                  have khx1 := grown_cell (p := ⟨w.heap.size, 1, none⟩) hgrow hx1 (own_ne (g := w.heap.size) hownK (by omega))
                  have lR := World.block_lt_of_cell? _ _ hr0
                  have lS := World.block_lt_of_cell? _ _ hs0
                  simp only at lR lS
                  have kw := Below.grown hw hgrow hw.size (fun g hg => by have := (hownK.lt g hg).1; omega)
                  have n1 : vK.ownBlock ≠ some gD := by
                    rcases hat with e | e
                    · rw [e]; exact hKD
                    · rw [e]; intro h'; injection h' with h'; omega
                  have n2 : vK.ownBlock ≠ some gR := by
                    rcases hat with e | e
                    · rw [e]; exact hKR
                    · rw [e]; intro h'; injection h' with h'; omega
                  have n3 : vK.ownBlock ≠ some gS := by
                    rcases hat with e | e
                    · rw [e]; exact hKS
                    · rw [e]; intro h'; injection h' with h'; omega
                  have n5 : ∀ g : Nat, vK.ownBlock = some g → vF.ownBlock ≠ some g := fun g hg => by
                    rcases hat with e | e
                    · rw [e] at hg; exact hKF g hg
                    · rw [e] at hg; injection hg with hg; intro h'; have := (kL g h').2; omega
                  have n6 : ∀ g : Nat, vF.ownBlock = some g → vK.ownBlock ≠ some g := fun g hg h => n5 g h hg
                  rw [← HKX.out] at hown1
                  clear hownK hownF hrD hr0 hr1 hs0 hs1 hx0 hx1 hw hat hel hgrow hKD hKR hKS hKF hFK hnK kL lD lR lS hFnK
                  have hownK := hown1
                  have hownF := kY
                  have hrD := kD
                  have hr0 := khr0
                  have hr1 := khr1
                  have hs0 := khs0
                  have hs1 := khs1
                  have hx0 := khx0
                  have hx1 := khx1
                  have hw := kw
                  have hKD := n1
                  have hKR := n2
                  have hKS := n3
                  have hKF := n5
                  have hFK := n6
                  clear hown1 kY kD khr0 khr1 khs0 khs1 khx0 khx1 kw n1 n2 n3 n5 n6
                  refine hK9.out _ _ ⟨hr0, hr1, hs0, hs1, hx0, hx1, hw⟩ (fun hHeld => ?_)
                  clear hK9 K9
                  (try simp only [Act.put, List.setIfInBounds_toArray, List.set_cons_zero, List.set_cons_succ])
                  refine wpAnyH_take (i := 8) (oi := ?ooq20) (v := ?vvq20) ?hiq20 (by kernel_rfl) (by kernel_rfl) (by kernel_rfl) ?hqq20 (Or.inl ⟨?hgq20, ?hyq20⟩) (by assumption) ?restq20
                  case hiq20 => simp only [List.getElem?_toArray, List.getElem?_cons_zero, List.getElem?_cons_succ]; rfl
                  case hqq20 => exact fun _ _ _ h => h
                  case hgq20 => rfl
                  case hyq20 =>
                    intro wq hSw
                    obtain ⟨hr0, hr1, hs0, hs1, hx0, hx1, hw⟩ := hSw
                    go_simp
                    (try with_reducible rfl)
                  (try simp only [Act.put, List.setIfInBounds_toArray, List.set_cons_zero, List.set_cons_succ])
                  refine wpAnyH_take (i := 9) (oi := ?ooq21) (v := ?vvq21) ?hiq21 (by kernel_rfl) (by kernel_rfl) (by kernel_rfl) ?hqq21 (Or.inl ⟨?hgq21, ?hyq21⟩) (by assumption) ?restq21
                  case hiq21 => simp only [List.getElem?_toArray, List.getElem?_cons_zero, List.getElem?_cons_succ]; rfl
                  case hqq21 => exact fun _ _ _ h => h
                  case hgq21 => rfl
                  case hyq21 =>
                    intro wq hSw
                    obtain ⟨hr0, hr1, hs0, hs1, hx0, hx1, hw⟩ := hSw
                    go_simp
                    (try with_reducible rfl)
                  (try simp only [Act.put, List.setIfInBounds_toArray, List.set_cons_zero, List.set_cons_succ])
                  clear hHeld
                  refine wpAnyH_done (by kernel_rfl) ?_ _
                  clear hr0 hr1 hs0 hs1 hFR hKR hFS hKS hKF
                  go_wp2
                  go_roundw
                  case rel => exact ⟨x + 1, by omega, by go_num, hownF, hownK, hFK, hFD, hKD, HA', hrD, hx0, hx1, hw⟩
                  case measure => simp only [intOf]; omega
                exact AllReadyH.nil
        · have hxe : x = xs.length := by rw [HPN.out]; omega
          have hr : r = true := by rw [← HR.out]; exact HAY.out fun j hj => HA.out j (by omega)
          subst hr
          have hi3 : ¬ ((x : Int) < ps.length) := by omega
          obtain ⟨A1', c1', rfl, hO1⟩ := own_form2 hownF
          obtain ⟨A2', c2', rfl, hO2⟩ := own_form2 hownK
          rw [hxe] at hO1 hO2 hFK
          have HL1 : Hid ((F x).length = (F xs.length).length ∧ (K x).length = (K xs.length).length) := by show _ ∧ _; rw [hxe]; exact ⟨rfl, rfl⟩
          clear hownF hownK hrD hFD hKD hxe
          go_wp2
          go_ret3
          exact ⟨A1', c1', A2', c2', by rw [HL1.out.1, HL1.out.2]; rfl, hO1.mono (by omega), hO2.mono (by omega), fun g g' e1 e2 e => hFK g (by rw [e1]; rfl) (by rw [e2, ← e]; rfl), hw⟩
end Go.Proofs.Ytombfbmcplefgaa
