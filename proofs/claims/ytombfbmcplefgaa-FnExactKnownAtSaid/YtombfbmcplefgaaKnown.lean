/- Contracts: the time when pays are known. -/
import Derived.Test.YtombfbmcplefgaaKnownP
import Derived.StillTailTactics
import Derived.Deep.QuietTactic
import Derived.BigQuiet
namespace Go.Proofs.Ytombfbmcplefgaa
open Go.ChangeShapes Go.WideShapes Go.ChangeAt Go.RowKit

theorem ov_nth {xs ys : List Int} (hg : good xs ys = true) (d : Nat) {j : Nat} (hj : j < (endsL xs).length) : ∃ y m : Nat, nth (endsL xs) j = y ∧ y < xs.length ∧ nth (ovL xs (cutL xs ys d)) j = m ∧ m < (cutL xs ys d).length ∧ ∀ k z : Nat, k < (cutL xs ys d).length → nth (cutL xs ys d) k = z → underB xs z y = decide (m = k) := by
  obtain ⟨y, h1, h2, h3⟩ := end_pos hg hj
  obtain ⟨m, h4, h5, _⟩ := cut_at hg (d := (d : Int)) (by omega) h2 h3
  refine ⟨y, m, h1, h2, by unfold ovL; rw [mapI_nth _ _ hj, h1]; exact h4, h5, fun k z hk hz => ?_⟩
  rw [und_iff hg (d := (d : Int)) (by omega) h2 h3 hk hz, h4]
  by_cases e : m = k
  · rw [decide_eq_true (by omega), decide_eq_true e]
  · rw [decide_eq_false (by omega), decide_eq_false e]
theorem cut_nd {xs ys : List Int} {d : Int} {k : Nat} (hk : k < (cutL xs ys d).length) : ∃ z : Nat, nth (cutL xs ys d) k = z ∧ z < xs.length := by
  obtain ⟨z, z1, z2, _⟩ := pick_mem (f := inCut xs ys d) (k := xs.length) hk
  exact ⟨z, z1, z2⟩
set_option maxHeartbeats 4000000 in
set_option maxRecDepth 100000 in
theorem l2Same_good {xs ys : List Int} (hg : good xs ys = true) (A B V : Option Addr) (c e cv : Nat) (vs : List Int) (d : Nat) (w : World) (h : IntS w A xs) (k : IntS w B ys) (zv : IntS w V vs) (hvl : vs.length = (endsL xs).length) :
    Calls Try.prog 90 #[.agg #[.slice A xs.length c, .slice B ys.length e], .slice V vs.length cv, .int .i64 d] w fun e1 w' => e1 = .returned (.bool (kaAt xs ys vs d)) ∧ Below w.heap.size w w' := by
  have HCu := Lib.hid (fun W (h : IntS W A xs) (k : IntS W B ys) => l2CutAt_any hg A B c e (d : Int) W h k)
  have HE := Lib.hid (fun W (h : IntS W A xs) => l2Ends_any A B c ys.length e xs W h (by have := good_len hg; omega) (good_iff.1 hg).2.1 (good_root hg))
  have hE1 := Lib.hid (ends_pos hg)
  have hC1 := Lib.hid (cut_pos hg (d := (d : Int)) (by omega))
  have HUn := Lib.hid (fun W (x y : Nat) (h : IntS W A xs) (hx : x < xs.length) (hy : y < xs.length) => l2Under_good hg A B c e x y W h hx hy)
  have HEM := Lib.hid (fun j (hj : j < (endsL xs).length) => ov_nth hg d hj)
  have HCM := Lib.hid (fun j (hj : j < (cutL xs ys d).length) => cut_nd hj)
  have hRL := Lib.hid (ovL_len xs (cutL xs ys d))
  have hgl := (good_len hg).2.1
  have hel := ends_len xs
  have hE24 : (endsL xs).length ≤ 24 := by omega
  have hcl := cut_len xs ys d
  have hC24 : (cutL xs ys d).length ≤ 24 := by omega
  have HVL := Lib.hid hvl
  obtain ⟨r, hr⟩ : ∃ r, kaAt xs ys vs d = r := ⟨_, rfl⟩
  rw [hr]
  unfold kaAt at hr
  have HR := Lib.hid hr
  clear hr hgl hel hcl hvl hg
  generalize ovL xs (cutL xs ys d) = R at *
  generalize cutL xs ys d = C at *
  generalize endsL xs = E at *
  go_enter Try.func90, Try.ntmps90
  obtain ⟨w0, hw0⟩ : ∃ w0, w0 = w.alloc (.cells #[.slice A xs.length c, .slice B ys.length e] 28) := ⟨_, rfl⟩
  have hx0 : w0.cell? ⟨w.heap.size, 0, none⟩ = some (.slice A xs.length c) := by rw [hw0]; simp
  have hx1 : w0.cell? ⟨w.heap.size, 1, none⟩ = some (.slice B ys.length e) := by rw [hw0]; simp
  have hw : Below w.heap.size w w0 := by rw [hw0]; (repeat (first | with_reducible exact Below.refl _ _ | with_reducible assumption | with_reducible refine Below.alloc' ?_ ?_ _ | with_reducible refine Below.setCell' ?_ ?_ _ | with_reducible refine Below.drewN' ?_ _ | with_reducible refine Below.drew ?_ | with_reducible refine Below.transA ?_ (by assumption) ?_ | omega | (focus (simp; done)) | (focus (simp; omega))))
  have HW0 := Lib.hid hw0
  clear hw0
  go_wp2
  rw [← HW0.out]
  clear HW0
  refine wp_region_held_drew (S := fun w' => Below w0.heap.size w0 w') (by kernel_rfl) ((Below.refl _ _)).drew (fun hHeld => ?_)
  replace hw := hw.drew
  refine wpAnyH_take (i := 0) (oi := ?oos1) (v := ?vvs1) ?his1 (by kernel_rfl) (by kernel_rfl) (by kernel_rfl) ?hqs1 (Or.inl ⟨?hgs1, ?hys1⟩) (by assumption) ?rests1
  case his1 => simp only [List.getElem?_toArray, List.getElem?_cons_zero, List.getElem?_cons_succ]; rfl
  case hqs1 => exact fun _ _ _ h => h
  case hgs1 => rfl
  case hys1 =>
    intro wq hSw
    replace hx0 := keep_cell hSw hx0
    replace hx1 := keep_cell hSw hx1
    go_simp
    (try with_reducible rfl)
  (try simp only [Act.put, List.setIfInBounds_toArray, List.set_cons_zero, List.set_cons_succ])
  refine wpAnyH_take (i := 1) (oi := ?oos2) (v := ?vvs2) ?his2 (by kernel_rfl) (by kernel_rfl) (by kernel_rfl) ?hqs2 (Or.inl ⟨?hgs2, ?hys2⟩) (by assumption) ?rests2
  case his2 => simp only [List.getElem?_toArray, List.getElem?_cons_zero, List.getElem?_cons_succ]; rfl
  case hqs2 => exact fun _ _ _ h => h
  case hgs2 => rfl
  case hys2 =>
    intro wq hSw
    replace hx0 := keep_cell hSw hx0
    replace hx1 := keep_cell hSw hx1
    go_simp
    (try with_reducible rfl)
  (try simp only [Act.put, List.setIfInBounds_toArray, List.set_cons_zero, List.set_cons_succ])
  refine wpAnyH_take (i := 3) (oi := ?oos3) (v := ?vvs3) ?his3 (by kernel_rfl) (by kernel_rfl) (by kernel_rfl) ?hqs3 (Or.inl ⟨?hgs3, ?hys3⟩) (by assumption) ?rests3
  case his3 => simp only [List.getElem?_toArray, List.getElem?_cons_zero, List.getElem?_cons_succ]; rfl
  case hqs3 => exact fun _ _ _ h => h
  case hgs3 => rfl
  case hys3 =>
    intro wq hSw
    replace hx0 := keep_cell hSw hx0
    replace hx1 := keep_cell hSw hx1
    go_simp
    (try with_reducible rfl)
  (try simp only [Act.put, List.setIfInBounds_toArray, List.set_cons_zero, List.set_cons_succ])
  refine wpAnyH_ready (rs := [2]) (by kernel_rfl) (by simp) ?_
  refine AllReadyH.cons (i := 2) (o := ?oos4) ?hos4 (fun K hK => ?hsteps4) AllReadyH.nil
  case hos4 => simp only [List.getElem?_toArray, List.getElem?_cons_zero, List.getElem?_cons_succ]; rfl
  go_simp
  refine (HCu.out _ (h.below hw) (k.below hw)).mono ?_
  rintro e1 wz ⟨A8, c8, rfl, ho8, hb⟩
  obtain ⟨gC, rfl, hgC, hrC⟩ := ho8.pos hC1.out
  clear ho8 hgC
  go_wp2_with fail
  refine hK.out _ _ (keep_below hb hHeld) (fun _ => ?_)
  clear hK K
  (try simp only [Act.put, List.setIfInBounds_toArray, List.set_cons_zero, List.set_cons_succ])
  refine wpAnyH_mono (S' := fun w' => Below wz.heap.size wz w') (fun _ h => keep_below h (keep_below hb hHeld)) _ _ _ _ ?_
  replace hw := keep_below hb hw
  replace hx0 := keep_cell hb hx0
  replace hx1 := keep_cell hb hx1
  clear hHeld hb
  have hHeld : Below wz.heap.size wz wz := (Below.refl _ _)
  refine wpAnyH_ready (rs := [4]) (by kernel_rfl) (by simp) ?_
  refine AllReadyH.cons (i := 4) (o := ?oos5) ?hos5 (fun K hK => ?hsteps5) AllReadyH.nil
  case hos5 => simp only [List.getElem?_toArray, List.getElem?_cons_zero, List.getElem?_cons_succ]; rfl
  go_simp
  refine (HE.out _ (h.below hw)).mono ?_
  rintro e1 wz ⟨A7, c7, rfl, ho7, hb⟩
  replace hrC := hrC.below hb
  obtain ⟨gE, rfl, hgE, hrE⟩ := ho7.pos hE1.out
  clear ho7 hgE
  go_wp2_with fail
  refine hK.out _ _ (keep_below hb hHeld) (fun _ => ?_)
  clear hK K
  (try simp only [Act.put, List.setIfInBounds_toArray, List.set_cons_zero, List.set_cons_succ])
  refine wpAnyH_mono (S' := fun w' => Below wz.heap.size wz w') (fun _ h => keep_below h (keep_below hb hHeld)) _ _ _ _ ?_
  replace hw := keep_below hb hw
  replace hx0 := keep_cell hb hx0
  replace hx1 := keep_cell hb hx1
  clear hHeld hb
  have hHeld : Below wz.heap.size wz wz := (Below.refl _ _)
  refine wpAnyH_take (i := 5) (oi := ?oos6) (v := ?vvs6) ?his6 (by kernel_rfl) (by kernel_rfl) (by kernel_rfl) ?hqs6 (Or.inl ⟨?hgs6, ?hys6⟩) (by assumption) ?rests6
  case his6 => simp only [List.getElem?_toArray, List.getElem?_cons_zero, List.getElem?_cons_succ]; rfl
  case hqs6 => exact fun _ _ _ h => h
  case hgs6 => rfl
  case hys6 =>
    intro wq hSw
    replace hx0 := keep_cell hSw hx0
    replace hx1 := keep_cell hSw hx1
    go_simp
    (try with_reducible rfl)
  (try simp only [Act.put, List.setIfInBounds_toArray, List.set_cons_zero, List.set_cons_succ])
  refine wpAnyH_take (i := 6) (oi := ?oos7) (v := ?vvs7) ?his7 (by kernel_rfl) (by kernel_rfl) (by kernel_rfl) ?hqs7 (Or.inl ⟨?hgs7, ?hys7⟩) (by assumption) ?rests7
  case his7 => simp only [List.getElem?_toArray, List.getElem?_cons_zero, List.getElem?_cons_succ]; rfl
  case hqs7 => exact fun _ _ _ h => h
  case hgs7 => rfl
  case hys7 =>
    intro wq hSw
    replace hx0 := keep_cell hSw hx0
    replace hx1 := keep_cell hSw hx1
    go_simp
    (try with_reducible rfl)
  (try simp only [Act.put, List.setIfInBounds_toArray, List.set_cons_zero, List.set_cons_succ])
  clear hHeld
  refine wpAnyH_done (by kernel_rfl) ?_ _
  go_wp2
  go_loopw [9] (fun kv wr => ∃ q : Nat, q ≤ C.length ∧ kv = .int .i64 q ∧ Hid (∀ p, p < q → ∀ i j, i < E.length → j < i → nth R i = (p : Nat) → nth R j = (p : Nat) → nth vs i = nth vs j) ∧ Row wr gC C ∧ Row wr gE E ∧ wr.cell? ⟨w.heap.size, 0, none⟩ = some (.slice A xs.length c) ∧ wr.cell? ⟨w.heap.size, 1, none⟩ = some (.slice B ys.length e) ∧ Below w.heap.size w wr) (fun kv _ => C.length - (intOf kv).toNat)
  case atStart => exact ⟨0, by omega, rfl, fun p hp => by omega, hrC, hrE, hx0, hx1, hw⟩
  case round =>
    clear hrC hrE hx0 hx1 hw
    obtain ⟨q, hq, rfl, HP, hrC, hrE, hx0, hx1, hw⟩ := hrel
    by_cases hlt : q < C.length
    · have i1 : (q : Int) < C.length := by omega
      obtain ⟨z, hz, hzn⟩ := HCM.out q hlt
      have HZ := Lib.hid hz
      clear hz
      go_wp2
      go_loopw [10, 11] (fun fv iv wr => ∃ i : Nat, i ≤ E.length ∧ ((fv = .int .i64 (-1) ∧ Hid (∀ j, j < i → nth R j ≠ (q : Int))) ∨ ∃ f : Nat, f < i ∧ fv = .int .i64 f ∧ nth R f = (q : Int) ∧ Hid (∀ j, j < i → nth R j = (q : Int) → nth vs j = nth vs f)) ∧ iv = .int .i64 i ∧ Hid (∀ a b, a < i → b < a → nth R a = (q : Int) → nth R b = (q : Int) → nth vs a = nth vs b) ∧ Row wr gC C ∧ Row wr gE E ∧ wr.cell? ⟨w.heap.size, 0, none⟩ = some (.slice A xs.length c) ∧ wr.cell? ⟨w.heap.size, 1, none⟩ = some (.slice B ys.length e) ∧ Below w.heap.size w wr) (fun _ iv _ => E.length - (intOf iv).toNat)
      case atStart => exact ⟨0, by omega, .inl ⟨rfl, fun j hj => by omega⟩, rfl, fun a b ha => by omega, hrC, hrE, hx0, hx1, hw⟩
      case round =>
        clear hrC hrE hx0 hx1 hw
        obtain ⟨i, hi, hfirst, rfl, HS, hrC, hrE, hx0, hx1, hw⟩ := hrel
        by_cases hlt2 : i < E.length
        · have i2 : (i : Int) < E.length := by omega
          have hiv : i < vs.length := by rw [HVL.out]; exact hlt2
          have i3 : (i : Int) < vs.length := by omega
          obtain ⟨y, m, hy, hyn, hm, hmc, hun⟩ := HEM.out i hlt2
          have hcE := hrE.cell hlt2
          rw [hy] at hcE
          have hcC := hrC.cell hlt
          rw [HZ.out] at hcC
          have HC9 := Lib.hid (fun W (h : IntS W A xs) => HUn.out W z y h hzn hyn)
          rw [hun q z hlt HZ.out] at HC9
          have HM := Lib.hid hm
          clear hy hun hm
          by_cases hmq : m = q
          · subst hmq
            rw [decide_eq_true rfl] at HC9
            rcases hfirst with ⟨rfl, HF⟩ | ⟨f, hf, rfl, hfm, HF⟩
            · have HS' : Hid (∀ a b, a < i + 1 → b < a → nth R a = (m : Int) → nth R b = (m : Int) → nth vs a = nth vs b) := fun a b ha hb h1 h2 => absurd h2 (HF.out b (by omega))
              have HF' : Hid (∀ j, j < i + 1 → nth R j = (m : Int) → nth vs j = nth vs i) := fun j hj hjq => by
                by_cases e : j = i
                · rw [e]
                · exact absurd hjq (HF.out j (by omega))
              go_wp2
              go_still_tail 9, (by kernel_rfl)
              change wpList _ _ _ _ _ wr.drew
              go_wp2_with fail
              refine (HC9.out _ (h.below hw).drew).mono ?_
              rintro e1 w2 ⟨rfl, hb2⟩
              replace hb2 : Below wr.heap.size wr w2 := ⟨hb2.os, hb2.tape, hb2.output, hb2.size, hb2.block⟩
              replace hrC := hrC.below hb2
              replace hrE := hrE.below hb2
              replace hx0 := keep_cell hb2 hx0
              replace hx1 := keep_cell hb2 hx1
              replace hw := keep_below hb2 hw
              clear hb2
              go_wp2
              go_quiet (fail)
              go_wp2
              go_roundw
              case rel => exact ⟨i + 1, by omega, .inr ⟨i, by omega, rfl, HM.out, HF'⟩, by go_num, HS', hrC, hrE, hx0, hx1, Below.drewN' hw _⟩
              case measure => simp [intOf]; omega
            · have HFM := Lib.hid hfm
              clear hfm
              go_wp2
              go_still_tail 9, (by kernel_rfl)
              change wpList _ _ _ _ _ wr.drew
              go_wp2_with fail
              refine (HC9.out _ (h.below hw).drew).mono ?_
              rintro e1 w2 ⟨rfl, hb2⟩
              replace hb2 : Below wr.heap.size wr w2 := ⟨hb2.os, hb2.tape, hb2.output, hb2.size, hb2.block⟩
              replace hrC := hrC.below hb2
              replace hrE := hrE.below hb2
              replace hx0 := keep_cell hb2 hx0
              replace hx1 := keep_cell hb2 hx1
              replace hw := keep_below hb2 hw
              obtain ⟨b9, o9, rfl, hc9⟩ := (zv.below hw).at_ (j := i) hiv
              obtain ⟨b8, o8, e8, hc8⟩ := (zv.below hw).at_ (j := f) (by omega)
              cases e8
              have i4 : (f : Int) < vs.length := by omega
              have g4 : (f : Int) ≥ 0 := by omega
              have g5 : decide ((f : Int) ≥ 0) = true := decide_eq_true g4
              clear hb2
              by_cases hv : nth vs f = nth vs i
              · have d1 : (nth vs f != nth vs i) = false := by rw [bne_eq_false_iff_eq]; exact hv
                have HS' : Hid (∀ a b, a < i + 1 → b < a → nth R a = (m : Int) → nth R b = (m : Int) → nth vs a = nth vs b) := fun a b ha hb h1 h2 => by
                  by_cases e : a = i
                  · subst e; rw [← hv]; exact (HF.out b hb h2).symm
                  · exact HS.out a b (by omega) hb h1 h2
                have HF' : Hid (∀ j, j < i + 1 → nth R j = (m : Int) → nth vs j = nth vs i) := fun j hj hjq => by
                  by_cases e : j = i
                  · rw [e]
                  · rw [← hv]; exact HF.out j (by omega) hjq
                clear HF HS hv
                generalize nth vs f = v8 at *
                go_wp2
                go_quiet (fail)
                go_wp2
                go_roundw
                case rel => exact ⟨i + 1, by omega, .inr ⟨i, by omega, rfl, HM.out, HF'⟩, by go_num, HS', hrC, hrE, hx0, hx1, Below.drewN' hw _⟩
                case measure => simp [intOf]; omega
              · have hr' : r = false := by rw [← HR.out]; exact knB_no (i := i) (k := f) (by rw [hRL.out]; exact hlt2) hf (by rw [HM.out, HFM.out]) (fun e => hv e.symm)
                subst hr'
                have d1 : (nth vs f != nth vs i) = true := by rw [bne_iff_ne]; exact hv
                clear HF HS hv
                generalize nth vs f = v8 at *
                generalize nth vs i = v9 at *
                go_wp2
                go_quiet (fail)
                go_wp2
                go_ret
                exact ⟨by simp, Below.drewN' hw _⟩
          · rw [decide_eq_false hmq] at HC9
            have HF' : Hid (∀ j, j < i + 1 → nth R j = (q : Int) → j < i) := fun j hj hjq => by
              by_cases e : j = i
              · subst e; rw [HM.out] at hjq; omega
              · omega
            go_wp2
            go_still_tail 9, (by kernel_rfl)
            change wpList _ _ _ _ _ wr.drew
            go_wp2_with fail
            refine (HC9.out _ (h.below hw).drew).mono ?_
            rintro e1 w2 ⟨rfl, hb2⟩
            replace hb2 : Below wr.heap.size wr w2 := ⟨hb2.os, hb2.tape, hb2.output, hb2.size, hb2.block⟩
            replace hrC := hrC.below hb2
            replace hrE := hrE.below hb2
            replace hx0 := keep_cell hb2 hx0
            replace hx1 := keep_cell hb2 hx1
            replace hw := keep_below hb2 hw
            clear hb2
            go_wp2
            go_roundw
            case rel =>
              refine ⟨i + 1, by omega, ?_, by go_num, fun a b ha hb h1 h2 => HS.out a b (HF'.out a ha h1) hb h1 h2, hrC, hrE, hx0, hx1, hw⟩
              rcases hfirst with ⟨h1, HF⟩ | ⟨f, hf, h1, hfm, HF⟩
              · exact .inl ⟨h1, fun j hj e => HF.out j (HF'.out j hj e) e⟩
              · exact .inr ⟨f, by omega, h1, hfm, fun j hj e => HF.out j (HF'.out j hj e) e⟩
            case measure => simp [intOf]; omega
        · have hie : i = E.length := by omega
          subst hie
          have HP' : Hid (∀ p, p < q + 1 → ∀ i j, i < E.length → j < i → nth R i = (p : Nat) → nth R j = (p : Nat) → nth vs i = nth vs j) := fun p hp => by
            by_cases e : p = q
            · subst e; exact HS.out
            · exact HP.out p (by omega)
          clear HS HP hfirst
          go_wp2
          go_roundw
          case rel => exact ⟨q + 1, by omega, by go_num, HP', hrC, hrE, hx0, hx1, hw⟩
          case measure => simp [intOf]; omega
    · have hqe : q = C.length := by omega
      subst hqe
      have hr' : r = true := by
        rw [← HR.out, knB_iff]
        intro i j hi hj he
        rw [hRL.out] at hi
        obtain ⟨_, m, _, _, hm, hmc, _⟩ := HEM.out i hi
        exact HP.out m hmc i j hi hj hm (by rw [← he]; exact hm)
      subst hr'
      clear HP
      go_wp2
      go_ret
      exact ⟨by simp, hw⟩
set_option maxHeartbeats 2000000 in
set_option maxRecDepth 100000 in
theorem specKnownAt_any (A B : Option Addr) (c e : Nat) (xs ys : List Int) (V : Option Addr) (cv : Nat) (vs : List Int) (w : World) (h : IntS w A xs) (k : IntS w B ys) (zv : IntS w V vs) (_hx : Bd xs) (_hy : Bd ys) (_bv : Bd vs) (hn : xs.length ≤ 1048576) (hm : ys.length ≤ 1048576) (lv : vs.length ≤ 1048576) :
    Calls Try.prog 24 #[.agg #[.slice A xs.length c, .slice B ys.length e], .slice V vs.length cv] w (fun e1 w' => e1 = .returned (.tuple #[.int .i64 (kaR xs ys vs), .bool (kaOk xs ys vs)]) ∧ Below w.heap.size w w') := by
  obtain ⟨r1, q1⟩ : ∃ r, (good xs ys && payB xs vs) = r := ⟨_, rfl⟩
  cases r1
  case false =>
    have hO : kaOk xs ys vs = false := by unfold kaOk ; simp [q1]
    have hV_kaR := kaR_no hO
    rw [hV_kaR]
    (try rw [hO])
    clear hO hV_kaR
    have HG1 := Lib.hid (fun W (h : IntS W A xs) (k : IntS W B ys) (zv : IntS W V vs) => l2Pays_any A B V c e cv xs ys vs W h k zv _hx _hy hn hm lv)
    rw [q1] at HG1
    clear q1 _hx _hy _bv
    go_enter Try.func24, Try.ntmps24
    go_wp2_with fail
    refine (HG1.out _ (h.alloc _) (k.alloc _) (zv.alloc _)).mono ?_
    rintro e1 w1 ⟨rfl, hb⟩
    have hx0 : w1.cell? ⟨w.heap.size, 0, none⟩ = some (.slice A xs.length c) := keep_cell hb (by simp)
    have hx1 : w1.cell? ⟨w.heap.size, 1, none⟩ = some (.slice B ys.length e) := keep_cell hb (by simp)
    have hw : Below w.heap.size w w1 := below_alloc (hb)
    clear hb
    go_wp2
    go_ret2
    exact ⟨rfl, hw⟩
  case true =>
    have hO : kaOk xs ys vs = true := by unfold kaOk ; simp [q1]
    have hV_kaR := kaR_yes hO
    rw [hV_kaR]
    (try rw [hO])
    clear hO hV_kaR
    have HG1 := Lib.hid (fun W (h : IntS W A xs) (k : IntS W B ys) (zv : IntS W V vs) => l2Pays_any A B V c e cv xs ys vs W h k zv _hx _hy hn hm lv)
    rw [q1] at HG1
    have HL := Lib.hid (fun (d : Nat) (h1 : d ≤ xs.length) (h2 : kaAt xs ys vs d = true) (h3 : ∀ j, j < d → kaAt xs ys vs j = false) => least_eq h1 h2 h3)
    have HT : Hid (kaAt xs ys vs xs.length = true) := kn_top (Bool.and_eq_true_iff.1 q1).1 vs
    have HS := Lib.hid (fun W (d : Nat) (h : IntS W A xs) (k : IntS W B ys) (zv : IntS W V vs) => l2Same_good (Bool.and_eq_true_iff.1 q1).1 A B V c e cv vs d W h k zv (pay_iff (Bool.and_eq_true_iff.1 q1).2).1)
    generalize kaAt xs ys vs = K at *
    generalize leastB (kaAt xs ys vs) xs.length = D at *
    have HN24 := Lib.hid (good_len (Bool.and_eq_true_iff.1 q1).1).2.1
    clear q1 _hx _hy _bv
    go_enter Try.func24, Try.ntmps24
    go_wp2_with fail
    refine (HG1.out _ (h.alloc _) (k.alloc _) (zv.alloc _)).mono ?_
    rintro e1 w1 ⟨rfl, hb⟩
    have hx0 : w1.cell? ⟨w.heap.size, 0, none⟩ = some (.slice A xs.length c) := keep_cell hb (by simp)
    have hx1 : w1.cell? ⟨w.heap.size, 1, none⟩ = some (.slice B ys.length e) := keep_cell hb (by simp)
    have hw : Below w.heap.size w w1 := below_alloc (hb)
    clear hb
    have hn24 := HN24.out
    clear HG1
    go_wp2
    go_loopw [6] (fun dv wr => ∃ d : Nat, d ≤ xs.length ∧ dv = .int .i64 d ∧ Hid (∀ j, j < d → K j = false) ∧ wr.cell? ⟨w.heap.size, 0, none⟩ = some (.slice A xs.length c) ∧ wr.cell? ⟨w.heap.size, 1, none⟩ = some (.slice B ys.length e) ∧ Below w.heap.size w wr) (fun dv _ => xs.length - (intOf dv).toNat)
    case atStart => exact ⟨0, by omega, rfl, fun j hj => by omega, hx0, hx1, hw⟩
    case round =>
      clear hx0 hx1 hw
      obtain ⟨d, hd, rfl, HA, hx0, hx1, hw⟩ := hrel
      have HSd := Lib.hid (fun W (h : IntS W A xs) (k : IntS W B ys) (zv : IntS W V vs) => HS.out W d h k zv)
      obtain ⟨r, hr⟩ : ∃ r, K d = r := ⟨_, rfl⟩
      rw [hr] at HSd
      cases r with
      | true =>
        have hD := HL.out d hd hr HA.out
        subst hD
        clear hr
        go_wp2_with fail
        refine (HSd.out _ (h.below hw) (k.below hw) (zv.below hw)).mono ?_
        rintro e1 w2 ⟨rfl, hb2⟩
        go_wp2
        go_ret2
        exact ⟨rfl, keep_below hb2 hw⟩
      | false =>
        have hlt : d < xs.length := by
          have hT := HT.out
          by_cases e : d = xs.length
          · rw [← e, hr] at hT; cases hT
          · omega
        have HA' : Hid (∀ j, j < d + 1 → K j = false) := fun j hj => by
          by_cases e : j = d
          · subst e; exact hr
          · exact HA.out j (by omega)
        clear hr
        go_wp2_with fail
        refine (HSd.out _ (h.below hw) (k.below hw) (zv.below hw)).mono ?_
        rintro e1 w2 ⟨rfl, hb2⟩
        go_wp2
        go_roundw
        case rel => exact ⟨d + 1, by omega, by go_num, HA', keep_cell hb2 hx0, keep_cell hb2 hx1, keep_below hb2 hw⟩
        case measure => simp [intOf]; omega
set_option maxHeartbeats 4000000 in
set_option maxRecDepth 100000 in
theorem implKnownAt_any (A B : Option Addr) (c e : Nat) (xs ys : List Int) (V : Option Addr) (cv : Nat) (vs : List Int) (w : World) (h : IntS w A xs) (k : IntS w B ys) (zv : IntS w V vs) (_hx : Bd xs) (_hy : Bd ys) (_bv : Bd vs) (hn : xs.length ≤ 1048576) (hm : ys.length ≤ 1048576) (lv : vs.length ≤ 1048576) :
    Calls Try.prog 25 #[.agg #[.slice A xs.length c, .slice B ys.length e], .slice V vs.length cv] w (fun e1 w' => e1 = .returned (.tuple #[.int .i64 (kaR xs ys vs), .bool (kaOk xs ys vs)]) ∧ Below w.heap.size w w') := by
  obtain ⟨r1, q1⟩ : ∃ r, (good xs ys) = r := ⟨_, rfl⟩
  cases r1
  case false =>
    have hO : kaOk xs ys vs = false := by unfold kaOk ; simp [q1]
    have hV_kaR := kaR_no hO
    rw [hV_kaR]
    (try rw [hO])
    clear hO hV_kaR
    have HG1 := Lib.hid (fun W (h : IntS W A xs) (k : IntS W B ys) => isTree_any A B c e xs ys W h k _hx _hy hn hm)
    rw [q1] at HG1
    clear q1 _hx _hy _bv
    go_enter Try.func25, Try.ntmps25
    go_wp2_with fail
    refine (HG1.out _ (h.alloc _) (k.alloc _)).mono ?_
    rintro e1 w1 ⟨rfl, hb⟩
    have hx0 : w1.cell? ⟨w.heap.size, 0, none⟩ = some (.slice A xs.length c) := keep_cell hb (by simp)
    have hx1 : w1.cell? ⟨w.heap.size, 1, none⟩ = some (.slice B ys.length e) := keep_cell hb (by simp)
    have hw : Below w.heap.size w w1 := below_alloc (hb)
    clear hb
    go_wp2
    go_ret2
    exact ⟨rfl, hw⟩
  case true =>
    obtain ⟨r2, q2⟩ : ∃ r, (payB xs vs) = r := ⟨_, rfl⟩
    cases r2
    case false =>
      have hO : kaOk xs ys vs = false := by unfold kaOk ; simp [q1, q2]
      have hV_kaR := kaR_no hO
      rw [hV_kaR]
      (try rw [hO])
      clear hO hV_kaR
      have HG1 := Lib.hid (fun W (h : IntS W A xs) (k : IntS W B ys) => isTree_any A B c e xs ys W h k _hx _hy hn hm)
      rw [q1] at HG1
      have HG2 := Lib.hid (fun W (h : IntS W A xs) (zv : IntS W V vs) => arePays_good q1 A B V c ys.length e cv vs W h zv lv)
      rw [q2] at HG2
      clear q1 q2 _hx _hy _bv
      go_enter Try.func25, Try.ntmps25
      go_wp2_with fail
      refine (HG1.out _ (h.alloc _) (k.alloc _)).mono ?_
      rintro e1 w1 ⟨rfl, hb⟩
      have hx0 : w1.cell? ⟨w.heap.size, 0, none⟩ = some (.slice A xs.length c) := keep_cell hb (by simp)
      have hx1 : w1.cell? ⟨w.heap.size, 1, none⟩ = some (.slice B ys.length e) := keep_cell hb (by simp)
      have hw : Below w.heap.size w w1 := below_alloc (hb)
      clear hb
      go_wp2_with fail
      refine (HG2.out _ (h.below hw) (zv.below hw)).mono ?_
      rintro e1 w2 ⟨rfl, hb⟩
      replace hx0 := keep_cell hb hx0
      replace hx1 := keep_cell hb hx1
      replace hw := keep_below hb hw
      clear hb
      go_wp2
      go_ret2
      exact ⟨rfl, hw⟩
    case true =>
      have hO : kaOk xs ys vs = true := by unfold kaOk ; simp [q1, q2]
      have hV_kaR := kaR_yes hO
      rw [hV_kaR]
      (try rw [hO])
      clear hO hV_kaR
      have HG1 := Lib.hid (fun W (h : IntS W A xs) (k : IntS W B ys) => isTree_any A B c e xs ys W h k _hx _hy hn hm)
      rw [q1] at HG1
      have HG2 := Lib.hid (fun W (h : IntS W A xs) (zv : IntS W V vs) => arePays_good q1 A B V c ys.length e cv vs W h zv lv)
      rw [q2] at HG2
      have HL := Lib.hid (fun (d : Nat) (h1 : d ≤ xs.length) (h2 : kaAt xs ys vs d = true) (h3 : ∀ j, j < d → kaAt xs ys vs j = false) => least_eq h1 h2 h3)
      have HT : Hid (kaAt xs ys vs xs.length = true) := kn_top q1 vs
      have HK : Hid (∀ d : Nat, kaAt xs ys vs d = knB (ovL xs (cutL xs ys d)) vs) := fun d => rfl
      have HCu := Lib.hid (fun W (d : Nat) (h : IntS W A xs) => cut_any q1 A B c e (d : Int) W h)
      have HOv := Lib.hid (fun W (N : Option Addr) (cn : Nat) (d : Nat) (h : IntS W A xs) (zn : IntS W N (cutL xs ys d)) => over_good q1 A B N c e cn (cutL xs ys d) W h zn (by have := cut_len xs ys d; have := good_len q1; omega))
      have HRL : Hid (∀ d : Nat, (ovL xs (cutL xs ys d)).length = vs.length) := fun d => by rw [ovL_len, (pay_iff q2).1]
      have hV1 : 1 ≤ vs.length := by rw [(pay_iff q2).1]; exact ends_pos q1
      have hV24 : vs.length ≤ 24 := by have := good_len q1; have := ends_len xs; rw [(pay_iff q2).1]; omega
      have hn24 := (good_len q1).2.1
      generalize kaAt xs ys vs = K at *
      generalize leastB (kaAt xs ys vs) xs.length = D at *
      clear q1 q2 _hx _hy _bv
      go_enter Try.func25, Try.ntmps25
      go_wp2_with fail
      refine (HG1.out _ (h.alloc _) (k.alloc _)).mono ?_
      rintro e1 w1 ⟨rfl, hb⟩
      have hx0 : w1.cell? ⟨w.heap.size, 0, none⟩ = some (.slice A xs.length c) := keep_cell hb (by simp)
      have hx1 : w1.cell? ⟨w.heap.size, 1, none⟩ = some (.slice B ys.length e) := keep_cell hb (by simp)
      have hw : Below w.heap.size w w1 := below_alloc (hb)
      clear hb
      go_wp2_with fail
      refine (HG2.out _ (h.below hw) (zv.below hw)).mono ?_
      rintro e1 w2 ⟨rfl, hb⟩
      replace hx0 := keep_cell hb hx0
      replace hx1 := keep_cell hb hx1
      replace hw := keep_below hb hw
      clear hb
      clear HG1 HG2
      go_wp2
      go_loopw [6] (fun dv wr => ∃ d : Nat, d ≤ xs.length ∧ dv = .int .i64 d ∧ Hid (∀ j, j < d → K j = false) ∧ wr.cell? ⟨w.heap.size, 0, none⟩ = some (.slice A xs.length c) ∧ wr.cell? ⟨w.heap.size, 1, none⟩ = some (.slice B ys.length e) ∧ Below w.heap.size w wr) (fun dv _ => xs.length - (intOf dv).toNat)
      case atStart => exact ⟨0, by omega, rfl, fun j hj => by omega, hx0, hx1, hw⟩
      case round =>
        clear hx0 hx1 hw
        obtain ⟨d, hd, rfl, HA, hx0, hx1, hw⟩ := hrel
        go_wp2
        refine wp_region_held_drew (S := fun w' => Below wr.heap.size wr w') (by kernel_rfl) ((Below.refl _ _)).drew (fun hHeld => ?_)
        replace hw := hw.drew
        refine wpAnyH_take (i := 0) (oi := ?ooi1) (v := ?vvi1) ?hii1 (by kernel_rfl) (by kernel_rfl) (by kernel_rfl) ?hqi1 (Or.inl ⟨?hgi1, ?hyi1⟩) (by assumption) ?resti1
        case hii1 => simp only [List.getElem?_toArray, List.getElem?_cons_zero, List.getElem?_cons_succ]; rfl
        case hqi1 => exact fun _ _ _ h => h
        case hgi1 => rfl
        case hyi1 =>
          intro wq hSw
          replace hx0 := keep_cell hSw hx0
          replace hx1 := keep_cell hSw hx1
          go_simp
          (try with_reducible rfl)
        (try simp only [Act.put, List.setIfInBounds_toArray, List.set_cons_zero, List.set_cons_succ])
        refine wpAnyH_take (i := 1) (oi := ?ooi2) (v := ?vvi2) ?hii2 (by kernel_rfl) (by kernel_rfl) (by kernel_rfl) ?hqi2 (Or.inl ⟨?hgi2, ?hyi2⟩) (by assumption) ?resti2
        case hii2 => simp only [List.getElem?_toArray, List.getElem?_cons_zero, List.getElem?_cons_succ]; rfl
        case hqi2 => exact fun _ _ _ h => h
        case hgi2 => rfl
        case hyi2 =>
          intro wq hSw
          replace hx0 := keep_cell hSw hx0
          replace hx1 := keep_cell hSw hx1
          go_simp
          (try with_reducible rfl)
        (try simp only [Act.put, List.setIfInBounds_toArray, List.set_cons_zero, List.set_cons_succ])
        refine wpAnyH_take (i := 2) (oi := ?ooi3) (v := ?vvi3) ?hii3 (by kernel_rfl) (by kernel_rfl) (by kernel_rfl) ?hqi3 (Or.inl ⟨?hgi3, ?hyi3⟩) (by assumption) ?resti3
        case hii3 => simp only [List.getElem?_toArray, List.getElem?_cons_zero, List.getElem?_cons_succ]; rfl
        case hqi3 => exact fun _ _ _ h => h
        case hgi3 => rfl
        case hyi3 =>
          intro wq hSw
          replace hx0 := keep_cell hSw hx0
          replace hx1 := keep_cell hSw hx1
          go_simp
          (try with_reducible rfl)
        (try simp only [Act.put, List.setIfInBounds_toArray, List.set_cons_zero, List.set_cons_succ])
        refine wpAnyH_ready (rs := [3]) (by kernel_rfl) (by simp) ?_
        refine AllReadyH.cons (i := 3) (o := ?ooi4) ?hoi4 (fun K hK => ?hstepi4) AllReadyH.nil
        case hoi4 => simp only [List.getElem?_toArray, List.getElem?_cons_zero, List.getElem?_cons_succ]; rfl
        go_simp
        refine (HCu.out _ d (h.below hw)).mono ?_
        rintro e1 wz ⟨A8, c8, rfl, ho8, hb⟩
        have hI8 := ho8.ints
        clear ho8
        go_wp2_with fail
        refine hK.out _ _ (keep_below hb hHeld) (fun _ => ?_)
        clear hK K
        (try simp only [Act.put, List.setIfInBounds_toArray, List.set_cons_zero, List.set_cons_succ])
        refine wpAnyH_mono (S' := fun w' => Below wz.heap.size wz w') (fun _ h => keep_below h (keep_below hb hHeld)) _ _ _ _ ?_
        replace hw := keep_below hb hw
        replace hx0 := keep_cell hb hx0
        replace hx1 := keep_cell hb hx1
        clear hHeld hb
        have hHeld : Below wz.heap.size wz wz := (Below.refl _ _)
        refine wpAnyH_ready (rs := [4]) (by kernel_rfl) (by simp) ?_
        refine AllReadyH.cons (i := 4) (o := ?ooi5) ?hoi5 (fun K hK => ?hstepi5) AllReadyH.nil
        case hoi5 => simp only [List.getElem?_toArray, List.getElem?_cons_zero, List.getElem?_cons_succ]; rfl
        go_simp
        refine (HOv.out _ _ _ d (h.below hw) hI8).mono ?_
        rintro e1 wz ⟨A7, c7, rfl, ho7, hb⟩
        obtain ⟨gR, rfl, hgR, hrR⟩ := ho7.pos (by rw [HRL.out]; exact hV1)
        clear ho7 hgR hI8
        go_wp2_with fail
        refine hK.out _ _ (keep_below hb hHeld) (fun _ => ?_)
        clear hK K
        (try simp only [Act.put, List.setIfInBounds_toArray, List.set_cons_zero, List.set_cons_succ])
        refine wpAnyH_mono (S' := fun w' => Below wz.heap.size wz w') (fun _ h => keep_below h (keep_below hb hHeld)) _ _ _ _ ?_
        replace hw := keep_below hb hw
        replace hx0 := keep_cell hb hx0
        replace hx1 := keep_cell hb hx1
        clear hHeld hb
        have hHeld : Below wz.heap.size wz wz := (Below.refl _ _)
        refine wpAnyH_take (i := 5) (oi := ?ooi6) (v := ?vvi6) ?hii6 (by kernel_rfl) (by kernel_rfl) (by kernel_rfl) ?hqi6 (Or.inl ⟨?hgi6, ?hyi6⟩) (by assumption) ?resti6
        case hii6 => simp only [List.getElem?_toArray, List.getElem?_cons_zero, List.getElem?_cons_succ]; rfl
        case hqi6 => exact fun _ _ _ h => h
        case hgi6 => rfl
        case hyi6 =>
          intro wq hSw
          replace hx0 := keep_cell hSw hx0
          replace hx1 := keep_cell hSw hx1
          go_simp
          (try with_reducible rfl)
        (try simp only [Act.put, List.setIfInBounds_toArray, List.set_cons_zero, List.set_cons_succ])
        refine wpAnyH_take (i := 6) (oi := ?ooi7) (v := ?vvi7) ?hii7 (by kernel_rfl) (by kernel_rfl) (by kernel_rfl) ?hqi7 (Or.inl ⟨?hgi7, ?hyi7⟩) (by assumption) ?resti7
        case hii7 => simp only [List.getElem?_toArray, List.getElem?_cons_zero, List.getElem?_cons_succ]; rfl
        case hqi7 => exact fun _ _ _ h => h
        case hgi7 => rfl
        case hyi7 =>
          intro wq hSw
          replace hx0 := keep_cell hSw hx0
          replace hx1 := keep_cell hSw hx1
          go_simp
          (try with_reducible rfl)
        (try simp only [Act.put, List.setIfInBounds_toArray, List.set_cons_zero, List.set_cons_succ])
        clear hHeld
        refine wpAnyH_done (by kernel_rfl) ?_ _
        have HKd := Lib.hid (HK.out d)
        have hRl := HRL.out d
        generalize ovL xs (cutL xs ys d) = R at *
        have HRl := Lib.hid hRl
        clear hRl
        go_wp2
        go_loopw [8, 29] (fun rv iv wr => ∃ (i : Nat) (r : Bool), i ≤ vs.length ∧ iv = .int .i64 i ∧ rv = .bool r ∧ Hid (r = true ↔ ∀ a b, a < i → b < a → nth R a = nth R b → nth vs a = nth vs b) ∧ Row wr gR R ∧ wr.cell? ⟨w.heap.size, 0, none⟩ = some (.slice A xs.length c) ∧ wr.cell? ⟨w.heap.size, 1, none⟩ = some (.slice B ys.length e) ∧ Below w.heap.size w wr) (fun _ iv _ => vs.length - (intOf iv).toNat)
        case atStart => exact ⟨0, true, by omega, rfl, rfl, ⟨fun _ a b ha => by omega, fun _ => rfl⟩, hrR, hx0, hx1, hw⟩
        case round =>
          clear hrR hx0 hx1 hw
          obtain ⟨i, r, hi, rfl, rfl, HI, hrR, hx0, hx1, hw⟩ := hrel
          by_cases hlt : i < vs.length
          · have i1 : (i : Int) < vs.length := by omega
            have i2 : (i : Int) < R.length := by rw [HRl.out]; exact i1
            go_wp2
            go_loopw [8, 33] (fun rv kv wr => ∃ (q : Nat) (r : Bool), q ≤ i ∧ kv = .int .i64 q ∧ rv = .bool r ∧ Hid (r = true ↔ (∀ a b, a < i → b < a → nth R a = nth R b → nth vs a = nth vs b) ∧ ∀ b, b < q → nth R i = nth R b → nth vs i = nth vs b) ∧ Row wr gR R ∧ wr.cell? ⟨w.heap.size, 0, none⟩ = some (.slice A xs.length c) ∧ wr.cell? ⟨w.heap.size, 1, none⟩ = some (.slice B ys.length e) ∧ Below w.heap.size w wr) (fun _ kv _ => i - (intOf kv).toNat)
            case atStart => exact ⟨0, r, by omega, rfl, rfl, ⟨fun h => ⟨HI.out.1 h, fun b hb => by omega⟩, fun h => HI.out.2 h.1⟩, hrR, hx0, hx1, hw⟩
            case round =>
              clear hrR hx0 hx1 hw HI
              obtain ⟨q, r, hq, rfl, rfl, HI, hrR, hx0, hx1, hw⟩ := hrel
              by_cases hlt2 : q < i
              · have i3 : (q : Int) < vs.length := by omega
                have i4 : (q : Int) < R.length := by rw [HRl.out]; exact i3
                have hcI := hrR.cell (j := i) (by rw [HRl.out]; exact hlt)
                have hcQ := hrR.cell (j := q) (by rw [HRl.out]; omega)
                obtain ⟨b9, o9, rfl, hc9⟩ := (zv.below hw).at_ (j := i) hlt
                obtain ⟨b8, o8, e8, hc8⟩ := (zv.below hw).at_ (j := q) (by omega)
                cases e8
                have HN : ∀ s : Bool, (s = true ↔ (r = true ∧ (nth R i = nth R q → nth vs i = nth vs q))) → Hid (s = true ↔ (∀ a b, a < i → b < a → nth R a = nth R b → nth vs a = nth vs b) ∧ ∀ b, b < q + 1 → nth R i = nth R b → nth vs i = nth vs b) := fun s hs => by
                  show _ ↔ _
                  rw [hs, HI.out]
                  constructor
                  · rintro ⟨⟨h1, h2⟩, h3⟩
                    refine ⟨h1, fun b hb => ?_⟩
                    by_cases e : b = q
                    · subst e; exact h3
                    · exact h2 b (by omega)
                  · rintro ⟨h1, h2⟩; exact ⟨⟨h1, fun b hb => h2 b (by omega)⟩, h2 q (by omega)⟩
                clear HI
                cases r with
                | false =>
                  have HX := HN false (by simp)
                  clear HN
                  generalize nth R i = v1 at *
                  generalize nth R q = v2 at *
                  generalize nth vs i = v3 at *
                  generalize nth vs q = v4 at *
                  go_wp2
                  go_quiet (fail)
                  go_wp2
                  go_roundw
                  case rel => exact ⟨q + 1, _, by omega, by go_num, rfl, HX, hrR, hx0, hx1, Below.drewN' hw _⟩
                  case measure => simp [intOf]; omega
                | true =>
                  by_cases e1 : nth R i = nth R q
                  · have d1 : (nth R i != nth R q) = false := by rw [bne_eq_false_iff_eq]; exact e1
                    by_cases e2 : nth vs i = nth vs q
                    · have d2 : (nth vs i == nth vs q) = true := by rw [beq_iff_eq]; exact e2
                      have HX := HN true (by simp [e2])
                      clear HN e1 e2
                      generalize nth R i = v1 at *
                      generalize nth R q = v2 at *
                      generalize nth vs i = v3 at *
                      generalize nth vs q = v4 at *
                      go_wp2
                      go_quiet (fail)
                      go_wp2
                      go_roundw
                      case rel => exact ⟨q + 1, _, by omega, by go_num, rfl, ⟨fun _ => HX.out.1 trivial, fun _ => rfl⟩, hrR, hx0, hx1, Below.drewN' hw _⟩
                      case measure => simp [intOf]; omega
                    · have d2 : (nth vs i == nth vs q) = false := by rw [beq_eq_false_iff_ne]; exact e2
                      have d3 : decide (nth vs i = nth vs q) = false := decide_eq_false e2
                      have HX := HN false (by simp [e1, e2])
                      clear HN e1 e2
                      generalize nth R i = v1 at *
                      generalize nth R q = v2 at *
                      generalize nth vs i = v3 at *
                      generalize nth vs q = v4 at *
                      go_wp2
                      go_quiet (fail)
                      go_wp2
                      go_roundw
                      case rel => exact ⟨q + 1, _, by omega, by go_num, rfl, HX, hrR, hx0, hx1, Below.drewN' hw _⟩
                      case measure => simp [intOf]; omega
                  · have d1 : (nth R i != nth R q) = true := by rw [bne_iff_ne]; exact e1
                    have HX := HN true (by simp [e1])
                    clear HN e1
                    generalize nth R i = v1 at *
                    generalize nth R q = v2 at *
                    generalize nth vs i = v3 at *
                    generalize nth vs q = v4 at *
                    go_wp2
                    go_quiet (fail)
                    go_wp2
                    go_roundw
                    case rel => exact ⟨q + 1, _, by omega, by go_num, rfl, ⟨fun _ => HX.out.1 trivial, fun _ => rfl⟩, hrR, hx0, hx1, Below.drewN' hw _⟩
                    case measure => simp [intOf]; omega
              · have hqe : q = i := by omega
                subst hqe
                have HI' : Hid (r = true ↔ ∀ a b, a < q + 1 → b < a → nth R a = nth R b → nth vs a = nth vs b) := by
                  show _ ↔ _
                  rw [HI.out]
                  constructor
                  · rintro ⟨h1, h2⟩ a b ha hb
                    by_cases e : a = q
                    · subst e; exact h2 b hb
                    · exact h1 a b (by omega) hb
                  · intro h1; exact ⟨fun a b ha => h1 a b (by omega), fun b hb => h1 q b (by omega) hb⟩
                clear HI
                go_wp2
                go_roundw
                case rel => exact ⟨q + 1, r, by omega, by go_num, rfl, HI', hrR, hx0, hx1, hw⟩
                case measure => simp [intOf]; omega
          · have hie : i = vs.length := by omega
            subst hie
            have hr : K d = r := by
              rw [HKd.out, Bool.eq_iff_iff, HI.out, knB_iff, HRl.out]
            clear HI HKd HRl
            cases r with
            | true =>
              have hD := HL.out d hd hr HA.out
              subst hD
              clear hr
              go_wp2
              go_ret2
              exact ⟨rfl, hw⟩
            | false =>
              have hlt : d < xs.length := by
                have hT := HT.out
                by_cases e : d = xs.length
                · rw [← e, hr] at hT; cases hT
                · omega
              have HA' : Hid (∀ j, j < d + 1 → K j = false) := fun j hj => by
                by_cases e : j = d
                · subst e; exact hr
                · exact HA.out j (by omega)
              clear hr
              go_wp2
              go_roundw
              case rel => exact ⟨d + 1, by omega, by go_num, HA', hx0, hx1, hw⟩
              case measure => simp [intOf]; omega
end Go.Proofs.Ytombfbmcplefgaa
