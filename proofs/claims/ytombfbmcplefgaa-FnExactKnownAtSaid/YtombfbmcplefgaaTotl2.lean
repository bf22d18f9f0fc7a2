/- Contracts: l2Totals, l2Pays, arePays. -/
import Derived.Test.YtombfbmcplefgaaTotl
namespace Go.Proofs.Ytombfbmcplefgaa
open Go.ChangeShapes Go.WideShapes Go.ChangeAt Go.RowKit

set_option maxHeartbeats 2000000 in
set_option maxRecDepth 100000 in
theorem l2Totals_any {xs ys : List Int} (hg : good xs ys = true) (A B P : Option Addr) (c e cz : Nat) (vs : List Int) (w : World) (h : IntS w A xs) (k : IntS w B ys) (z : IntS w P vs) (hz : vs.length = (endsL xs).length) (V : Nat) (hV : V ≤ 1000000) (hv : ∀ j, -(V : Int) ≤ nth vs j ∧ nth vs j ≤ V) :
    Calls Try.prog 134 #[.agg #[.slice A xs.length c, .slice B ys.length e], .slice P vs.length cz] w (RetI w (totL xs ys vs)) := by
  have hgl := good_len hg
  have HE := Lib.hid (fun W (h : IntS W A xs) => l2Ends_any A B c ys.length e xs W h (by omega) (good_iff.1 hg).2.1 (good_root hg))
  have HW := Lib.hid (fun q => good_wt hg q)
  have HU := Lib.hid (good_upL hg)
  have HO0 := Lib.hid (spr_ok hg hv)
  have hel := ends_len xs
  have hep := ends_pos hg
  have HEM : Hid (∀ j, j < (endsL xs).length → ∃ y : Nat, nth (endsL xs) j = y ∧ y < xs.length) := fun j hj => by obtain ⟨y, h1, h2, _⟩ := ends_mem hj; exact ⟨y, h1, h2⟩
  have HV := Lib.hid hv
  have HT : Hid (gat xs (sprL xs.length ys (endsL xs) vs (endsL xs).length) (xs.length - 1) = totL xs ys vs) := rfl
  have HTL : Hid ((totL xs ys vs).length = xs.length) := tot_len
  obtain ⟨n, e1⟩ : ∃ n, xs.length = n := ⟨_, rfl⟩
  have e2 : ys.length = n := by rw [hgl.2.2]; exact e1
  have HVL := Lib.hid hz
  simp only [e1, e2, hz] at HE HEM HO0 HT HTL HU hgl hel ⊢
  have HN := Lib.hid e1.symm
  have HY := Lib.hid e2.symm
  obtain ⟨hgl1, hgl2, _⟩ := hgl
  clear e1 e2 hz hv hg
  have hmk := run_makeI n (by omega)
  have HSL := Lib.hid (fun k => sprL_len n ys (endsL xs) vs k)
  have HS0 : Hid (sprL n ys (endsL xs) vs 0 = List.replicate n 0) := rfl
  have HSS : Hid (∀ k, sprL n ys (endsL xs) vs (k + 1) = (sprL n ys (endsL xs) vs k).set (nth (endsL xs) k).toNat (nth ys (nth (endsL xs) k).toNat * nth vs k)) := fun k => rfl
  generalize totL xs ys vs = R at *
  generalize sprL n ys (endsL xs) vs = F at *
  generalize endsL xs = E at *
  go_enter Try.func134, Try.ntmps134
  go_upto_region 2 with (fail)
  go_cut [5, 6] (fun s5 s6 wx => ∃ g gE c1 : Nat, s5 = .slice (some ⟨g, 0, none⟩) n n ∧ s6 = .slice (some ⟨gE, 0, none⟩) E.length c1 ∧ w.heap.size < g ∧ w.heap.size < gE ∧ g ≠ gE ∧ RowX wx g (F 0) ∧ Row wx gE E ∧ wx.cell? ⟨w.heap.size, 0, none⟩ = some (.slice A n c) ∧ wx.cell? ⟨w.heap.size, 1, none⟩ = some (.slice B n e) ∧ Below w.heap.size w wx)
  case first =>
    go_region_held3 (fun w' => w'.cell? ⟨w.heap.size, 0, none⟩ = some (.slice A n c) ∧ w'.cell? ⟨w.heap.size, 1, none⟩ = some (.slice B n e) ∧ w.heap.size < w'.heap.size ∧ Below w.heap.size w w')
      (first | (exact ⟨by simp, by simp, (by first | omega | (simp; done) | (simp; omega)), by (repeat (first | with_reducible exact Below.refl _ _ | with_reducible assumption | with_reducible refine Below.alloc' ?_ ?_ _ | with_reducible refine Below.setCell' ?_ ?_ _ | with_reducible refine Below.drewN' ?_ _ | with_reducible refine Below.drew ?_ | with_reducible refine Below.transA ?_ (by assumption) ?_ | omega | (focus (simp; done)) | (focus (simp; omega))))⟩) | (go_split_ands; exact ⟨keep_cell hb1 (by assumption), keep_cell hb1 (by assumption), Nat.lt_of_lt_of_le (by assumption) hb1.size, keep_below hb1 (by assumption)⟩) | (go_split_ands; exact ⟨by rw [World.cell?_alloc_lt _ _ _ (by assumption)]; assumption, by rw [World.cell?_alloc_lt _ _ _ (by assumption)]; assumption, by simp; omega, keep_below_alloc (by assumption) _⟩))
      ((go_at_call 78; refine (HE.out _ (h.below (by first | (go_split_ands; assumption) | (repeat (first | with_reducible exact Below.refl _ _ | with_reducible assumption | with_reducible refine Below.alloc' ?_ ?_ _ | with_reducible refine Below.setCell' ?_ ?_ _ | with_reducible refine Below.drewN' ?_ _ | with_reducible refine Below.drew ?_ | with_reducible refine Below.transA ?_ (by assumption) ?_ | omega | (focus (simp; done)) | (focus (simp; omega))))))).mono ?_; rintro e1 w1 ⟨A1, c1, rfl, ho, hb1⟩; obtain ⟨gE, rfl, hgE, hE⟩ := ho.pos hep; clear ho))
    all_goals
      go_wp2_with fail
      go_meet
      go_split_ands
      have hgl := hE.lt
      simp at hgE
      first
        | exact ⟨w.heap.size + 1, gE, c1, rfl, rfl, by omega, by omega, by omega, by rw [HS0.out]; exact (RowX.zero (w.alloc (.cells #[.slice A n c, .slice B n e] 28)) n (by simp)).below (show Below ((w.alloc _).alloc (.cells (Array.replicate n (Value.int .i64 0)) 3)).heap.size _ _ from ⟨hb1.os, hb1.tape, hb1.output, hb1.size, hb1.block⟩), hE, by assumption, by assumption, by assumption⟩
        | exact ⟨w1.heap.size, gE, c1, rfl, rfl, by omega, by omega, by omega, by rw [HS0.out]; exact RowX.zero w1 n rfl, hE.alloc _, by assumption, by assumption, by assumption⟩
  case rest =>
    obtain ⟨g, gE, c1, rfl, rfl, hwg, hgE, hgg, hrx, hE, hx0, hx1, hw⟩ := hcut
    clear HE HS0 hmk
    go_wp2
    go_loopw [7] (fun i wr => ∃ j : Nat, j ≤ E.length ∧ i = .int .i64 j ∧ RowX wr g (F j) ∧ Row wr gE E ∧ wr.cell? ⟨w.heap.size, 0, none⟩ = some (.slice A n c) ∧ wr.cell? ⟨w.heap.size, 1, none⟩ = some (.slice B n e) ∧ Below w.heap.size w wr) (fun i _ => E.length - (intOf i).toNat)
    case atStart => exact ⟨0, by omega, rfl, hrx, hE, hx0, hx1, hw⟩
    case round =>
      clear hrx hE hx0 hx1 hw
      obtain ⟨j, hj, rfl, hrx, hE, hx0, hx1, hw⟩ := hrel
      by_cases hlt : j < E.length
      · obtain ⟨y, hy, hyn⟩ := HEM.out j hlt
        have hcE := hE.cell hlt
        obtain ⟨b, o, rfl, hcv⟩ := (z.below hw).at_ (j := j) (by rw [HVL.out]; exact hlt)
        obtain ⟨b2, o2, rfl, hcy⟩ := (k.below hw).at_ (j := y) (by rw [← HY.out]; exact hyn)
        have hck := hrx.cell (j := y) (by rw [HSL.out]; exact hyn)
        have hfk := hrx.free y
        have v1 := HV.out j
        have v2 := HW.out y
        have hss := HSS.out j
        rw [hy, Int.toNat_natCast] at hss
        rw [hy] at hcE
        obtain ⟨a, ha⟩ : ∃ a, nth vs j = a := ⟨_, rfl⟩
        obtain ⟨q, hq⟩ : ∃ q, nth ys y = q := ⟨_, rfl⟩
        rw [ha, hq] at hss
        rw [ha] at hcv v1
        rw [hq] at hcy v2
        have v3 := mul_bd (A := 20) (D := V) (a := q) (d := a) (by omega) v1
        obtain ⟨m, hm⟩ : ∃ m, q * a = m := ⟨_, rfl⟩
        have u1 : IntKind.i64.wrap (q * a) = m := by rw [hm]; exact IntWalk.i64_in _ (by omega)
        rw [hm] at hss
        have hlj : (j : Int) < E.length := by omega
        have hset := hrx.set y m
        rw [← hss] at hset
        have HX := Lib.hid hset
        have HB0 := Lib.hid (cell_far (g := g) (u := .int .i64 m) hx0 (by simp; omega) y)
        have HB := Lib.hid (cell_far (g := g) (u := .int .i64 m) hx1 (by simp; omega) y)
        have HR := Lib.hid ((KeptBut.refl2 wr g).setg y (.int .i64 m) |>.row hE (by omega) (by omega))
        have hb2 := below_far (g := g) (v := .int .i64 m) hw (by omega) y
        have hyi : (y : Int) < n := by omega
        clear hy ha hq hm hss hset hrx v1 v2 v3
        generalize F j = L at *
        go_wp2
        go_still_tail 19, (by kernel_rfl)
        change wpList _ _ _ _ _ wr.drew
        go_wp2
        go_roundw
        case rel => exact ⟨j + 1, by omega, by go_num, HX.out, HR.out, HB0.out, HB.out, hb2.drew⟩
        case measure => simp [intOf]; omega
      · have hje : j = E.length := by omega
        subst hje
        have HL0 := Lib.hid (HSL.out E.length)
        generalize F E.length = L0 at *
        clear HSL HSS HV HW HEM hE
        go_wp2
        go_loopw [8] (fun i wr => ∃ (j : Nat) (L : List Int), j < n ∧ i = .int .i64 j ∧ RowX wr g L ∧ L.length = n ∧ Hid (gat xs L j = R) ∧ Hid (OkL (480 * V) L j) ∧ wr.cell? ⟨w.heap.size, 0, none⟩ = some (.slice A n c) ∧ Below w.heap.size w wr) (fun i _ => (intOf i).toNat)
        case atStart => exact ⟨n - 1, L0, by omega, by go_num, hrx, HL0.out, HT, HO0, hx0, hw⟩
        case round =>
          clear hrx HT HO0 hx0 hx1 hw HL0
          obtain ⟨j, L, hj, rfl, hrow, hl, HR, HO, hbx, hb1⟩ := hrel
          have HL : Hid (L.length = n) := hl
          clear hl
          by_cases hz : j = 0
          case neg =>
            obtain ⟨j, rfl⟩ : ∃ i, j = i + 1 := ⟨j - 1, by omega⟩
            clear hz
            obtain ⟨b, o, rfl, hc⟩ := (h.below hb1).at_ (j := j + 1) (by rw [← HN.out]; exact hj)
            obtain ⟨p, hp, hpk⟩ := HU.out (j + 1) (by omega) hj
            rw [hp] at hc
            have hcp := hrow.cell (j := p) (by rw [HL.out]; omega)
            have hck := hrow.cell (j := j + 1) (by rw [HL.out]; omega)
            have hfp := hrow.free p
            have hb2 := below_far (v := .int .i64 (nth L p + nth L (j + 1))) hb1 (g := g) (by omega) p
            have hbx' := cell_far (u := .int .i64 (nth L p + nth L (j + 1))) hbx (g := g) (by simp; omega) p
            have hrow' := hrow.set p (nth L p + nth L (j + 1))
            have HO' := Lib.hid (HO.out.step (p := p) (by omega) (by rw [HL.out]; omega))
            have HR' := HR.out
            rw [gat, hp] at HR'
            have HR2 := Lib.hid HR'
            have hb3 := HO.out.1 p
            have hb4 := HO.out.1 (j + 1)
            have HX := Lib.hid hbx'
            have HZ := Lib.hid hrow'
            have HL' : Hid ((L.set p (nth L p + nth L (j + 1))).length = n) := by show _ = _; rw [List.length_set]; exact HL.out
            obtain ⟨a, ha⟩ : ∃ a, nth L p = a := ⟨_, rfl⟩
            obtain ⟨q, hq⟩ : ∃ q, nth L (j + 1) = q := ⟨_, rfl⟩
            rw [ha, hq] at HL' HZ HX HO' hb2
            have HR3 : Hid (gat xs (L.set p (a + q)) j = R) := by show _ = _; rw [← ha, ← hq]; exact HR2.out
            rw [ha] at hcp hb3
            rw [hq] at hck hb4
            clear ha hq HR' HR2 hbx' hrow' HR HO hp HL hrow
            go_wp2
            go_region
            go_wp2
            go_roundw
            case rel => exact ⟨j, L.set p (a + q), by omega, by go_num, HZ.out, HL'.out, HR3, HO', HX.out, Below.drew hb2⟩
            case measure => simp [intOf]
          case pos =>
            have hLR : L = R := by have := HR.out; rw [hz] at this; exact this
            subst hLR
            clear HR HO
            go_wp2
            go_ret
            exact ⟨some ⟨g, 0, none⟩, n, by rw [HL.out]; rfl, .inr ⟨g, rfl, by omega, hrow.row⟩, hb1⟩
end Go.Proofs.Ytombfbmcplefgaa
