/- Contracts: the means of pays. -/
import Derived.Test.YtkbjocndkopjiaaCov2
import Derived.Test.YtkbjocndkopjiaaDriftsOf
namespace Go.Proofs.Ytkbjocndkopjiaa
open Go.ChangeShapes Go.WideShapes Go.ChangeAt Go.RowKit

def mnsP (xs ys ps : List Int) (x : Nat) : Int × Int := (lowX (nth (totL xs ys ps) x) (nth (sumsL xs ys) x), lowY (nth (totL xs ys ps) x) (nth (sumsL xs ys) x))
def mnsK (xs ys ps : List Int) (k : Nat) : List (Int × Int) := (List.range k).map (mnsP xs ys ps)
theorem mnsK_succ (xs ys ps : List Int) (k : Nat) : mnsK xs ys ps (k + 1) = mnsK xs ys ps k ++ [mnsP xs ys ps k] := by
  unfold mnsK; rw [List.range_succ, List.map_append]; rfl
theorem mnsK_len (xs ys ps : List Int) (k : Nat) : (mnsK xs ys ps k).length = k := by simp [mnsK]
noncomputable def mnsOk (xs ys ps : List Int) : Bool := good xs ys && payB xs ps
noncomputable def mnsR (xs ys ps : List Int) : List (Int × Int) := if mnsOk xs ys ps then mnsK xs ys ps xs.length else []
theorem mnsR_no {xs ys ps : List Int} (h : mnsOk xs ys ps = false) : mnsR xs ys ps = [] := by unfold mnsR; rw [h]; rfl
theorem mnsR_yes {xs ys ps : List Int} (h : mnsOk xs ys ps = true) : mnsR xs ys ps = mnsK xs ys ps xs.length := by unfold mnsR; rw [h]; rfl
theorem mnsR_len (xs ys ps : List Int) (hn : xs.length ≤ 1048576) : (mnsR xs ys ps).length ≤ 2000000 := by
  unfold mnsR; split
  · have := mnsK_len xs ys ps xs.length; omega
  · simp
set_option maxHeartbeats 4000000 in
set_option maxRecDepth 100000 in
theorem l2Means_good {xs ys : List Int} (hg : good xs ys = true) (A B P : Option Addr) (c e cp : Nat) (ps : List Int) (w : World) (h : IntS w A xs) (k : IntS w B ys) (zp : IntS w P ps) (hq : payB xs ps = true) :
    Calls Try.prog 81 #[.agg #[.slice A xs.length c, .slice B ys.length e], .slice P ps.length cp] w (RetP w (mnsK xs ys ps xs.length)) := by
  have hgl := good_len hg
  have hpp := pay_iff hq
  have hv : ∀ j, -((999 : Nat) : Int) ≤ nth ps j ∧ nth ps j ≤ ((999 : Nat) : Int) := fun j => by have := hpp.2 j; omega
  have HSu := Lib.hid (fun W (h : IntS W A xs) (k : IntS W B ys) => l2Sums_good hg A B c e W h k)
  have HTo := Lib.hid (fun W (h : IntS W A xs) (k : IntS W B ys) (zp : IntS W P ps) => l2Totals_any hg A B P c e cp ps W h k zp hpp.1 999 (by omega) hv)
  have hsb := Lib.hid (fun j => sums_bd hg j)
  have hs1 := Lib.hid (fun x (hx : x < xs.length) => sums_one hg hx)
  have htb := Lib.hid (fun j => tot_bd hg hv j)
  have HSL : Hid ((sumsL xs ys).length = xs.length) := sums_len hg
  have HTL : Hid ((totL xs ys ps).length = xs.length) := tot_len
  have HSL1 : Hid (1 ≤ (sumsL xs ys).length) := by have := HSL.out; show 1 ≤ _; omega
  have HTL1 : Hid (1 ≤ (totL xs ys ps).length) := by have := HTL.out; show 1 ≤ _; omega
  have HDf : Hid (∀ x, mnsP xs ys ps x = (lowX (nth (totL xs ys ps) x) (nth (sumsL xs ys) x), lowY (nth (totL xs ys ps) x) (nth (sumsL xs ys) x))) := fun x => rfl
  have HDL := Lib.hid (fun k => mnsK_len xs ys ps k)
  have HDS := Lib.hid (fun k => mnsK_succ xs ys ps k)
  have HD0 : Hid (mnsK xs ys ps 0 = []) := rfl
  have hn24 : xs.length ≤ 24 := hgl.2.1
  clear hgl hpp hv hq hg
  generalize mnsK xs ys ps = F at *
  generalize mnsP xs ys ps = D at *
  generalize sumsL xs ys = S at *
  generalize totL xs ys ps = TT at *
  (try generalize sprL xs.length ys (endsL xs) ps (endsL xs).length = SP at *)
  obtain ⟨i0, hi, hz0, hz1, hz2⟩ := info_parts info_A2
  go_enter Try.func81, Try.ntmps81
  go_upto_region 1 with (fail)
  have hw : Below w.heap.size w (w.alloc (.cells #[.slice A xs.length c, .slice B ys.length e] 28)) := by (repeat (first | with_reducible exact Below.refl _ _ | with_reducible assumption | with_reducible refine Below.alloc' ?_ ?_ _ | with_reducible refine Below.setCell' ?_ ?_ _ | with_reducible refine Below.drewN' ?_ _ | with_reducible refine Below.drew ?_ | with_reducible refine Below.transA ?_ (by assumption) ?_ | omega | (focus (simp; done)) | (focus (simp; omega))))
  have hx0 : (w.alloc (.cells #[.slice A xs.length c, .slice B ys.length e] 28)).cell? ⟨w.heap.size, 0, none⟩ = some (.slice A xs.length c) := by simp
  have hx1 : (w.alloc (.cells #[.slice A xs.length c, .slice B ys.length e] 28)).cell? ⟨w.heap.size, 1, none⟩ = some (.slice B ys.length e) := by simp
  have HW1 : Hid ((w.alloc (.cells #[.slice A xs.length c, .slice B ys.length e] 28)).heap.size = w.heap.size + 1) := by show _ = _; simp
  obtain ⟨wb, hwb⟩ : ∃ wb, wb = w.alloc (.cells #[.slice A xs.length c, .slice B ys.length e] 28) := ⟨_, rfl⟩
  rw [← hwb] at hw hx0 hx1 HW1 ⊢
  clear hwb
  go_cut [5, 6, 7] (fun s5 s6 s7 wx => ∃ gO gS gT cS cT : Nat, s5 = .slice (some ⟨gO, 0, none⟩) 0 0 ∧ s6 = .slice (some ⟨gS, 0, none⟩) S.length cS ∧ s7 = .slice (some ⟨gT, 0, none⟩) TT.length cT ∧ gO ≠ gS ∧ gO ≠ gT ∧ w.heap.size < gS ∧ w.heap.size < gT ∧ wx.ownsRow (w.heap.size + 1) 43 2 (.slice (some ⟨gO, 0, none⟩) 0 0) 0 [] ∧ Row wx gS S ∧ Row wx gT TT ∧ Below w.heap.size w wx)
  case first =>
    refine wp_region_held_drew (S := fun w' => Below wb.heap.size wb w') (by kernel_rfl) ((Below.refl _ _)).drew (fun hHeld => ?_)
    replace hw := hw.drew
    refine wpAnyH_take (i := 1) (oi := ?ool21) (v := ?vvl21) ?hil21 (by kernel_rfl) (by kernel_rfl) (by kernel_rfl) ?hql21 (Or.inl ⟨?hgl21, ?hyl21⟩) (by assumption) ?restl21
    case hil21 => simp only [List.getElem?_toArray, List.getElem?_cons_zero, List.getElem?_cons_succ]; rfl
    case hql21 => exact fun _ _ _ h => h
    case hgl21 => rfl
    case hyl21 =>
      intro wq hSw
      replace hx0 := keep_cell hSw hx0
      replace hx1 := keep_cell hSw hx1
      go_simp
      (try with_reducible rfl)
    (try simp only [Act.put, List.setIfInBounds_toArray, List.set_cons_zero, List.set_cons_succ])
    refine wpAnyH_take (i := 3) (oi := ?ool22) (v := ?vvl22) ?hil22 (by kernel_rfl) (by kernel_rfl) (by kernel_rfl) ?hql22 (Or.inl ⟨?hgl22, ?hyl22⟩) (by assumption) ?restl22
    case hil22 => simp only [List.getElem?_toArray, List.getElem?_cons_zero, List.getElem?_cons_succ]; rfl
    case hql22 => exact fun _ _ _ h => h
    case hgl22 => rfl
    case hyl22 =>
      intro wq hSw
      replace hx0 := keep_cell hSw hx0
      replace hx1 := keep_cell hSw hx1
      go_simp
      (try with_reducible rfl)
    (try simp only [Act.put, List.setIfInBounds_toArray, List.set_cons_zero, List.set_cons_succ])
    refine wpAnyH_take (i := 4) (oi := ?ool23) (v := ?vvl23) ?hil23 (by kernel_rfl) (by kernel_rfl) (by kernel_rfl) ?hql23 (Or.inl ⟨?hgl23, ?hyl23⟩) (by assumption) ?restl23
    case hil23 => simp only [List.getElem?_toArray, List.getElem?_cons_zero, List.getElem?_cons_succ]; rfl
    case hql23 => exact fun _ _ _ h => h
    case hgl23 => rfl
    case hyl23 =>
      intro wq hSw
      replace hx0 := keep_cell hSw hx0
      replace hx1 := keep_cell hSw hx1
      go_simp
      (try with_reducible rfl)
    (try simp only [Act.put, List.setIfInBounds_toArray, List.set_cons_zero, List.set_cons_succ])
    refine wpAnyH_ready (rs := [0, 2]) (by kernel_rfl) (by simp) ?_
    refine AllReadyH.cons (i := 0) (o := ?ool24) ?hol24 (fun K hK => ?hstepl24) ?morel24
    case hol24 => simp only [List.getElem?_toArray, List.getElem?_cons_zero, List.getElem?_cons_succ]; rfl
    case hstepl24 =>
      go_simp
      refine hK.out _ _ (by (repeat (first | with_reducible exact Below.refl _ _ | with_reducible assumption | with_reducible refine Below.alloc' ?_ ?_ _ | with_reducible refine Below.setCell' ?_ ?_ _ | with_reducible refine Below.drewN' ?_ _ | with_reducible refine Below.drew ?_ | with_reducible refine Below.transA ?_ (by assumption) ?_ | omega | (focus (simp; done)) | (focus (simp; omega))))) (fun hHeld => ?_)
      clear hK K
      (try simp only [Act.put, List.setIfInBounds_toArray, List.set_cons_zero, List.set_cons_succ])
      refine wpAnyH_name hHeld (fun wa hb hwz => ?_)
      (try replace hown := own_below hown hb)
      (try replace hrS := hrS.below hb)
      (try replace hrT := hrT.below hb)
      (try replace hiP := hiP.below hb)
      have hz := hb.size
      have hown : wa.ownsRow (w.heap.size + 1) 43 2 (.slice (some ⟨wb.heap.size, 0, none⟩) 0 0) 0 [] := by rw [hwz]; exact (own_empty2 wb (w.heap.size + 1) wb.heap.size rfl (by have := hw.size; have := HW1.out; simp at *; omega)).drew
      have hlO := hown.lt wb.heap.size rfl
      refine wpAnyH_mono (S' := fun w' => Below wa.heap.size wa w') (fun _ h => keep_below h hb) _ _ _ _ ?_
      replace hw := keep_below_dr hb hw
      replace hx0 := keep_cell hb hx0
      replace hx1 := keep_cell hb hx1
      clear hHeld hb hwz
      have hHeld : Below wa.heap.size wa wa := (Below.refl _ _)
      refine wpAnyH_ready (rs := [2]) (by kernel_rfl) (by simp) ?_
      refine AllReadyH.cons (i := 2) (o := ?ool25) ?hol25 (fun K hK => ?hstepl25) AllReadyH.nil
      case hol25 => simp only [List.getElem?_toArray, List.getElem?_cons_zero, List.getElem?_cons_succ]; rfl
      go_simp
      refine (HSu.out _ (h.below hw) (k.below hw)).mono ?_
      rintro e1 wz ⟨As, cs, rfl, hos, hb⟩
      (try replace hown := own_below hown hb)
      (try replace hrS := hrS.below hb)
      (try replace hrT := hrT.below hb)
      (try replace hiP := hiP.below hb)
      have hz := hb.size
      obtain ⟨gS, rfl, hgS, hrS⟩ := hos.pos HSL1.out
      have hlS := hrS.lt
      clear hos
      go_wp2_with fail
      refine hK.out _ _ (keep_below hb hHeld) (fun _ => ?_)
      clear hK K
      (try simp only [Act.put, List.setIfInBounds_toArray, List.set_cons_zero, List.set_cons_succ])
      refine wpAnyH_mono (S' := fun w' => Below wz.heap.size wz w') (fun _ h => keep_below h (keep_below hb hHeld)) _ _ _ _ ?_
      replace hw := keep_below hb hw
      replace hx0 := keep_cell hb hx0
      replace hx1 := keep_cell hb hx1
      clear hHeld hb
      have hHeld : Below wz.heap.size wz wz := (Below.refl _ _)
      refine wpAnyH_ready (rs := [5]) (by kernel_rfl) (by simp) ?_
      refine AllReadyH.cons (i := 5) (o := ?ool26) ?hol26 (fun K hK => ?hstepl26) AllReadyH.nil
      case hol26 => simp only [List.getElem?_toArray, List.getElem?_cons_zero, List.getElem?_cons_succ]; rfl
      go_simp
      refine (HTo.out _ (h.below hw) (k.below hw) (zp.below hw)).mono ?_
      rintro e1 wz ⟨At, ct, rfl, hot, hb⟩
      (try replace hown := own_below hown hb)
      (try replace hrS := hrS.below hb)
      (try replace hrT := hrT.below hb)
      (try replace hiP := hiP.below hb)
      have hz := hb.size
      obtain ⟨gT, rfl, hgT, hrT⟩ := hot.pos HTL1.out
      have hlT := hrT.lt
      clear hot
      go_wp2_with fail
      refine hK.out _ _ (keep_below hb hHeld) (fun _ => ?_)
      clear hK K
      (try simp only [Act.put, List.setIfInBounds_toArray, List.set_cons_zero, List.set_cons_succ])
      refine wpAnyH_mono (S' := fun w' => Below wz.heap.size wz w') (fun _ h => keep_below h (keep_below hb hHeld)) _ _ _ _ ?_
      replace hw := keep_below hb hw
      replace hx0 := keep_cell hb hx0
      replace hx1 := keep_cell hb hx1
      clear hHeld hb
      have hHeld : Below wz.heap.size wz wz := (Below.refl _ _)
      refine wpAnyH_take (i := 6) (oi := ?ool27) (v := ?vvl27) ?hil27 (by kernel_rfl) (by kernel_rfl) (by kernel_rfl) ?hql27 (Or.inl ⟨?hgl27, ?hyl27⟩) (by assumption) ?restl27
      case hil27 => simp only [List.getElem?_toArray, List.getElem?_cons_zero, List.getElem?_cons_succ]; rfl
      case hql27 => exact fun _ _ _ h => h
      case hgl27 => rfl
      case hyl27 =>
        intro wq hSw
        replace hx0 := keep_cell hSw hx0
        replace hx1 := keep_cell hSw hx1
        go_simp
        (try with_reducible rfl)
      (try simp only [Act.put, List.setIfInBounds_toArray, List.set_cons_zero, List.set_cons_succ])
      refine wpAnyH_take (i := 7) (oi := ?ool28) (v := ?vvl28) ?hil28 (by kernel_rfl) (by kernel_rfl) (by kernel_rfl) ?hql28 (Or.inl ⟨?hgl28, ?hyl28⟩) (by assumption) ?restl28
      case hil28 => simp only [List.getElem?_toArray, List.getElem?_cons_zero, List.getElem?_cons_succ]; rfl
      case hql28 => exact fun _ _ _ h => h
      case hgl28 => rfl
      case hyl28 =>
        intro wq hSw
        replace hx0 := keep_cell hSw hx0
        replace hx1 := keep_cell hSw hx1
        go_simp
        (try with_reducible rfl)
      (try simp only [Act.put, List.setIfInBounds_toArray, List.set_cons_zero, List.set_cons_succ])
      refine wpAnyH_take (i := 8) (oi := ?ool29) (v := ?vvl29) ?hil29 (by kernel_rfl) (by kernel_rfl) (by kernel_rfl) ?hql29 (Or.inl ⟨?hgl29, ?hyl29⟩) (by assumption) ?restl29
      case hil29 => simp only [List.getElem?_toArray, List.getElem?_cons_zero, List.getElem?_cons_succ]; rfl
      case hql29 => exact fun _ _ _ h => h
      case hgl29 => rfl
      case hyl29 =>
        intro wq hSw
        replace hx0 := keep_cell hSw hx0
        replace hx1 := keep_cell hSw hx1
        go_simp
        (try with_reducible rfl)
      (try simp only [Act.put, List.setIfInBounds_toArray, List.set_cons_zero, List.set_cons_succ])
      clear hHeld
      refine wpAnyH_done (by kernel_rfl) ?_ _
      go_wp2_with fail
      go_meet
      go_split_ands
      have hW1 := HW1.out
      exact ⟨_, _, _, _, _, rfl, rfl, rfl, by simp at *; omega, by simp at *; omega, by simp at *; omega, by simp at *; omega, hown, hrS, hrT, hw⟩
    refine AllReadyH.cons (i := 2) (o := ?ool210) ?hol210 (fun K hK => ?hstepl210) ?morel210
    case hol210 => simp only [List.getElem?_toArray, List.getElem?_cons_zero, List.getElem?_cons_succ]; rfl
    case hstepl210 =>
      go_simp
      refine (HSu.out _ (h.below hw) (k.below hw)).mono ?_
      rintro e1 wz ⟨As, cs, rfl, hos, hb⟩
      (try replace hown := own_below hown hb)
      (try replace hrS := hrS.below hb)
      (try replace hrT := hrT.below hb)
      (try replace hiP := hiP.below hb)
      have hz := hb.size
      obtain ⟨gS, rfl, hgS, hrS⟩ := hos.pos HSL1.out
      have hlS := hrS.lt
      clear hos
      go_wp2_with fail
      refine hK.out _ _ (keep_below hb hHeld) (fun _ => ?_)
      clear hK K
      (try simp only [Act.put, List.setIfInBounds_toArray, List.set_cons_zero, List.set_cons_succ])
      refine wpAnyH_mono (S' := fun w' => Below wz.heap.size wz w') (fun _ h => keep_below h (keep_below hb hHeld)) _ _ _ _ ?_
      replace hw := keep_below hb hw
      replace hx0 := keep_cell hb hx0
      replace hx1 := keep_cell hb hx1
      clear hHeld hb
      have hHeld : Below wz.heap.size wz wz := (Below.refl _ _)
      refine wpAnyH_ready (rs := [0, 5]) (by kernel_rfl) (by simp) ?_
      refine AllReadyH.cons (i := 0) (o := ?ool211) ?hol211 (fun K hK => ?hstepl211) ?morel211
      case hol211 => simp only [List.getElem?_toArray, List.getElem?_cons_zero, List.getElem?_cons_succ]; rfl
      case hstepl211 =>
        go_simp
        refine hK.out _ _ (by (repeat (first | with_reducible exact Below.refl _ _ | with_reducible assumption | with_reducible refine Below.alloc' ?_ ?_ _ | with_reducible refine Below.setCell' ?_ ?_ _ | with_reducible refine Below.drewN' ?_ _ | with_reducible refine Below.drew ?_ | with_reducible refine Below.transA ?_ (by assumption) ?_ | omega | (focus (simp; done)) | (focus (simp; omega))))) (fun hHeld => ?_)
        clear hK K
        (try simp only [Act.put, List.setIfInBounds_toArray, List.set_cons_zero, List.set_cons_succ])
        refine wpAnyH_name hHeld (fun wa hb hwz => ?_)
        (try replace hown := own_below hown hb)
        (try replace hrS := hrS.below hb)
        (try replace hrT := hrT.below hb)
        (try replace hiP := hiP.below hb)
        have hz := hb.size
        have hown : wa.ownsRow (w.heap.size + 1) 43 2 (.slice (some ⟨wz.heap.size, 0, none⟩) 0 0) 0 [] := by rw [hwz]; exact own_empty2 wz (w.heap.size + 1) wz.heap.size rfl (by have := hw.size; have := HW1.out; simp at *; omega)
        have hlO := hown.lt wz.heap.size rfl
        refine wpAnyH_mono (S' := fun w' => Below wa.heap.size wa w') (fun _ h => keep_below h hb) _ _ _ _ ?_
        replace hw := keep_below hb hw
        replace hx0 := keep_cell hb hx0
        replace hx1 := keep_cell hb hx1
        clear hHeld hb hwz
        have hHeld : Below wa.heap.size wa wa := (Below.refl _ _)
        refine wpAnyH_ready (rs := [5]) (by kernel_rfl) (by simp) ?_
        refine AllReadyH.cons (i := 5) (o := ?ool212) ?hol212 (fun K hK => ?hstepl212) AllReadyH.nil
        case hol212 => simp only [List.getElem?_toArray, List.getElem?_cons_zero, List.getElem?_cons_succ]; rfl
        go_simp
        refine (HTo.out _ (h.below hw) (k.below hw) (zp.below hw)).mono ?_
        rintro e1 wz ⟨At, ct, rfl, hot, hb⟩
        (try replace hown := own_below hown hb)
        (try replace hrS := hrS.below hb)
        (try replace hrT := hrT.below hb)
        (try replace hiP := hiP.below hb)
        have hz := hb.size
        obtain ⟨gT, rfl, hgT, hrT⟩ := hot.pos HTL1.out
        have hlT := hrT.lt
        clear hot
        go_wp2_with fail
        refine hK.out _ _ (keep_below hb hHeld) (fun _ => ?_)
        clear hK K
        (try simp only [Act.put, List.setIfInBounds_toArray, List.set_cons_zero, List.set_cons_succ])
        refine wpAnyH_mono (S' := fun w' => Below wz.heap.size wz w') (fun _ h => keep_below h (keep_below hb hHeld)) _ _ _ _ ?_
        replace hw := keep_below hb hw
        replace hx0 := keep_cell hb hx0
        replace hx1 := keep_cell hb hx1
        clear hHeld hb
        have hHeld : Below wz.heap.size wz wz := (Below.refl _ _)
        refine wpAnyH_take (i := 6) (oi := ?ool213) (v := ?vvl213) ?hil213 (by kernel_rfl) (by kernel_rfl) (by kernel_rfl) ?hql213 (Or.inl ⟨?hgl213, ?hyl213⟩) (by assumption) ?restl213
        case hil213 => simp only [List.getElem?_toArray, List.getElem?_cons_zero, List.getElem?_cons_succ]; rfl
        case hql213 => exact fun _ _ _ h => h
        case hgl213 => rfl
        case hyl213 =>
          intro wq hSw
          replace hx0 := keep_cell hSw hx0
          replace hx1 := keep_cell hSw hx1
          go_simp
          (try with_reducible rfl)
        (try simp only [Act.put, List.setIfInBounds_toArray, List.set_cons_zero, List.set_cons_succ])
        refine wpAnyH_take (i := 7) (oi := ?ool214) (v := ?vvl214) ?hil214 (by kernel_rfl) (by kernel_rfl) (by kernel_rfl) ?hql214 (Or.inl ⟨?hgl214, ?hyl214⟩) (by assumption) ?restl214
        case hil214 => simp only [List.getElem?_toArray, List.getElem?_cons_zero, List.getElem?_cons_succ]; rfl
        case hql214 => exact fun _ _ _ h => h
        case hgl214 => rfl
        case hyl214 =>
          intro wq hSw
          replace hx0 := keep_cell hSw hx0
          replace hx1 := keep_cell hSw hx1
          go_simp
          (try with_reducible rfl)
        (try simp only [Act.put, List.setIfInBounds_toArray, List.set_cons_zero, List.set_cons_succ])
        refine wpAnyH_take (i := 8) (oi := ?ool215) (v := ?vvl215) ?hil215 (by kernel_rfl) (by kernel_rfl) (by kernel_rfl) ?hql215 (Or.inl ⟨?hgl215, ?hyl215⟩) (by assumption) ?restl215
        case hil215 => simp only [List.getElem?_toArray, List.getElem?_cons_zero, List.getElem?_cons_succ]; rfl
        case hql215 => exact fun _ _ _ h => h
        case hgl215 => rfl
        case hyl215 =>
          intro wq hSw
          replace hx0 := keep_cell hSw hx0
          replace hx1 := keep_cell hSw hx1
          go_simp
          (try with_reducible rfl)
        (try simp only [Act.put, List.setIfInBounds_toArray, List.set_cons_zero, List.set_cons_succ])
        clear hHeld
        refine wpAnyH_done (by kernel_rfl) ?_ _
        go_wp2_with fail
        go_meet
        go_split_ands
        have hW1 := HW1.out
        exact ⟨_, _, _, _, _, rfl, rfl, rfl, by simp at *; omega, by simp at *; omega, by simp at *; omega, by simp at *; omega, hown, hrS, hrT, hw⟩
      refine AllReadyH.cons (i := 5) (o := ?ool216) ?hol216 (fun K hK => ?hstepl216) ?morel216
      case hol216 => simp only [List.getElem?_toArray, List.getElem?_cons_zero, List.getElem?_cons_succ]; rfl
      case hstepl216 =>
        go_simp
        refine (HTo.out _ (h.below hw) (k.below hw) (zp.below hw)).mono ?_
        rintro e1 wz ⟨At, ct, rfl, hot, hb⟩
        (try replace hown := own_below hown hb)
        (try replace hrS := hrS.below hb)
        (try replace hrT := hrT.below hb)
        (try replace hiP := hiP.below hb)
        have hz := hb.size
        obtain ⟨gT, rfl, hgT, hrT⟩ := hot.pos HTL1.out
        have hlT := hrT.lt
        clear hot
        go_wp2_with fail
        refine hK.out _ _ (keep_below hb hHeld) (fun _ => ?_)
        clear hK K
        (try simp only [Act.put, List.setIfInBounds_toArray, List.set_cons_zero, List.set_cons_succ])
        refine wpAnyH_mono (S' := fun w' => Below wz.heap.size wz w') (fun _ h => keep_below h (keep_below hb hHeld)) _ _ _ _ ?_
        replace hw := keep_below hb hw
        replace hx0 := keep_cell hb hx0
        replace hx1 := keep_cell hb hx1
        clear hHeld hb
        have hHeld : Below wz.heap.size wz wz := (Below.refl _ _)
        refine wpAnyH_ready (rs := [0]) (by kernel_rfl) (by simp) ?_
        refine AllReadyH.cons (i := 0) (o := ?ool217) ?hol217 (fun K hK => ?hstepl217) AllReadyH.nil
        case hol217 => simp only [List.getElem?_toArray, List.getElem?_cons_zero, List.getElem?_cons_succ]; rfl
        go_simp
        refine hK.out _ _ (by (repeat (first | with_reducible exact Below.refl _ _ | with_reducible assumption | with_reducible refine Below.alloc' ?_ ?_ _ | with_reducible refine Below.setCell' ?_ ?_ _ | with_reducible refine Below.drewN' ?_ _ | with_reducible refine Below.drew ?_ | with_reducible refine Below.transA ?_ (by assumption) ?_ | omega | (focus (simp; done)) | (focus (simp; omega))))) (fun hHeld => ?_)
        clear hK K
        (try simp only [Act.put, List.setIfInBounds_toArray, List.set_cons_zero, List.set_cons_succ])
        refine wpAnyH_name hHeld (fun wa hb hwz => ?_)
        (try replace hown := own_below hown hb)
        (try replace hrS := hrS.below hb)
        (try replace hrT := hrT.below hb)
        (try replace hiP := hiP.below hb)
        have hz := hb.size
        have hown : wa.ownsRow (w.heap.size + 1) 43 2 (.slice (some ⟨wz.heap.size, 0, none⟩) 0 0) 0 [] := by rw [hwz]; exact own_empty2 wz (w.heap.size + 1) wz.heap.size rfl (by have := hw.size; have := HW1.out; simp at *; omega)
        have hlO := hown.lt wz.heap.size rfl
        refine wpAnyH_mono (S' := fun w' => Below wa.heap.size wa w') (fun _ h => keep_below h hb) _ _ _ _ ?_
        replace hw := keep_below hb hw
        replace hx0 := keep_cell hb hx0
        replace hx1 := keep_cell hb hx1
        clear hHeld hb hwz
        have hHeld : Below wa.heap.size wa wa := (Below.refl _ _)
        refine wpAnyH_take (i := 6) (oi := ?ool218) (v := ?vvl218) ?hil218 (by kernel_rfl) (by kernel_rfl) (by kernel_rfl) ?hql218 (Or.inl ⟨?hgl218, ?hyl218⟩) (by assumption) ?restl218
        case hil218 => simp only [List.getElem?_toArray, List.getElem?_cons_zero, List.getElem?_cons_succ]; rfl
        case hql218 => exact fun _ _ _ h => h
        case hgl218 => rfl
        case hyl218 =>
          intro wq hSw
          replace hx0 := keep_cell hSw hx0
          replace hx1 := keep_cell hSw hx1
          go_simp
          (try with_reducible rfl)
        (try simp only [Act.put, List.setIfInBounds_toArray, List.set_cons_zero, List.set_cons_succ])
        refine wpAnyH_take (i := 7) (oi := ?ool219) (v := ?vvl219) ?hil219 (by kernel_rfl) (by kernel_rfl) (by kernel_rfl) ?hql219 (Or.inl ⟨?hgl219, ?hyl219⟩) (by assumption) ?restl219
        case hil219 => simp only [List.getElem?_toArray, List.getElem?_cons_zero, List.getElem?_cons_succ]; rfl
        case hql219 => exact fun _ _ _ h => h
        case hgl219 => rfl
        case hyl219 =>
          intro wq hSw
          replace hx0 := keep_cell hSw hx0
          replace hx1 := keep_cell hSw hx1
          go_simp
          (try with_reducible rfl)
        (try simp only [Act.put, List.setIfInBounds_toArray, List.set_cons_zero, List.set_cons_succ])
        refine wpAnyH_take (i := 8) (oi := ?ool220) (v := ?vvl220) ?hil220 (by kernel_rfl) (by kernel_rfl) (by kernel_rfl) ?hql220 (Or.inl ⟨?hgl220, ?hyl220⟩) (by assumption) ?restl220
        case hil220 => simp only [List.getElem?_toArray, List.getElem?_cons_zero, List.getElem?_cons_succ]; rfl
        case hql220 => exact fun _ _ _ h => h
        case hgl220 => rfl
        case hyl220 =>
          intro wq hSw
          replace hx0 := keep_cell hSw hx0
          replace hx1 := keep_cell hSw hx1
          go_simp
          (try with_reducible rfl)
        (try simp only [Act.put, List.setIfInBounds_toArray, List.set_cons_zero, List.set_cons_succ])
        clear hHeld
        refine wpAnyH_done (by kernel_rfl) ?_ _
        go_wp2_with fail
        go_meet
        go_split_ands
        have hW1 := HW1.out
        exact ⟨_, _, _, _, _, rfl, rfl, rfl, by simp at *; omega, by simp at *; omega, by simp at *; omega, by simp at *; omega, hown, hrS, hrT, hw⟩
      exact AllReadyH.nil
    exact AllReadyH.nil
  case rest =>
    obtain ⟨gO, gS, gT, cS, cT, rfl, rfl, rfl, hOS, hOT, _, _, hown, hrS, hrT, hw⟩ := hcut
    clear HSu HTo HSL1 HTL1 hx0 hx1 HW1
    go_wp2
    go_loopw [5, 8] (fun v i wr => ∃ j : Nat, j ≤ xs.length ∧ i = .int .i64 j ∧ wr.ownsRow (w.heap.size + 1) 43 2 v j (i64p (F j)) ∧ v.ownBlock ≠ some gS ∧ v.ownBlock ≠ some gT ∧ Row wr gS S ∧ Row wr gT TT ∧ Below w.heap.size w wr) (fun _ i _ => xs.length - (intOf i).toNat)
    case atStart => exact ⟨0, by omega, rfl, by rw [HD0.out]; exact hown, by simpa [Value.ownBlock] using hOS, by simpa [Value.ownBlock] using hOT, hrS, hrT, hw⟩
    case round =>
      clear hown hrS hrT hw hOS hOT
      obtain ⟨j, hj, rfl, hown, hneS, hneT, hrS, hrT, hw⟩ := hrel
      by_cases hlt : j < xs.length
      · have hcS := hrS.cell (j := j) (by rw [HSL.out]; exact hlt)
        have hcT := hrT.cell (j := j) (by rw [HTL.out]; exact hlt)
        have i1 : (j : Int) < S.length := by rw [HSL.out]; omega
        have i2 : (j : Int) < TT.length := by rw [HTL.out]; omega
        have b1 := hsb.out j
        have b2 := hs1.out j hlt
        have b3 := htb.out j
        have hds := HDS.out j
        rw [HDf.out j] at hds
        obtain ⟨s, hs⟩ : ∃ s, nth S j = s := ⟨_, rfl⟩
        obtain ⟨u, hu⟩ : ∃ u, nth TT j = u := ⟨_, rfl⟩
        rw [hs] at hcS b1 b2 hds
        rw [hu] at hcT b3 hds
        clear hs hu
        have hds2 : i64p (F (j + 1)) = i64p (F j) ++ [Value.int .i64 (lowX u s), Value.int .i64 (lowY u s)] := by rw [hds]; exact i64p_app _ _ _
        have HPX := Lib.hid hds2
        have HC := fun W => l2Cut_any u s W (by omega) (by omega) (by omega)
        skip
        replace HC := Lib.hid HC
        clear hds hds2
        generalize F j = FX at *
        generalize lowX u s = a9 at *
        generalize lowY u s = b9 at *
        go_wp2
        go_region_held3 (fun w' => w'.cell? ⟨gT, j, none⟩ = some (.int .i64 u) ∧ w'.cell? ⟨gS, j, none⟩ = some (.int .i64 s))
          (first | (exact ⟨hcT, hcS⟩) | (go_split_ands; exact ⟨keep_cell hb2 hcT, keep_cell hb2 hcS⟩) | (go_split_ands; exact ⟨by rw [World.cell?_alloc_lt _ _ _ hrT.lt]; exact keep_cell hb2 hcT, by rw [World.cell?_alloc_lt _ _ _ hrS.lt]; exact keep_cell hb2 hcS⟩) | (go_split_ands; exact ⟨grown_cell hgrow (by rw [World.cell?_alloc_lt _ _ _ hrT.lt]; exact keep_cell hb2 hcT) (fun e => hneT (by exact e)), grown_cell hgrow (by rw [World.cell?_alloc_lt _ _ _ hrS.lt]; exact keep_cell hb2 hcS) (fun e => hneS (by exact e))⟩))
          ((first | (go_at_call 96; refine (HC.out _).mono ?_; rintro e1 w2 ⟨rfl, hb2⟩; replace hb2 : Below wr.heap.size wr w2 := ⟨hb2.os, hb2.tape, hb2.output, hb2.size, hb2.block⟩; replace hown := own_below hown hb2; replace hrS := hrS.below hb2; replace hrT := hrT.below hb2; replace hw := keep_below hb2 hw; have hwz := hw.size) | ((refine step_append_elder _ (by rfl) _ _ 36 (by rfl) (w.heap.size + 1) 43 i0 (.agg #[.int .i64 0, .int .i64 0]) 2 16 Try.underlying36 hi hz0 hz1 hz2 rfl (by decide) _ _ _ (by rfl) (hown.alloc _) ⟨w2.heap.size, 0, none⟩ 1 1 [.int .i64 (a9), .int .i64 (b9)] (by rfl) rfl (cells2_new _ _ _ _) (by simp [Value.oneCell']) (by unfold maxLen; omega) (by omega) (by simp; omega) ?_; intro v' w1 hown1 hgrow hat hel))))
        have hrS1 := (hrS.alloc _).grown hgrow (fun h => hneS (by exact h.symm))
        have hrT1 := (hrT.alloc _).grown hgrow (fun h => hneT (by exact h.symm))
        have hlS := hrS.lt
        have hlT := hrT.lt
        have hne1 : v'.ownBlock ≠ some gS := by
          rcases hat with e | e
          · rw [e]; exact hneS
          · rw [e]; intro h'; injection h' with h'; simp at h' hlS; omega
        have hne2 : v'.ownBlock ≠ some gT := by
          rcases hat with e | e
          · rw [e]; exact hneT
          · rw [e]; intro h'; injection h' with h'; simp at h' hlT; omega
        have hb3 : Below w.heap.size w w1 := Below.grown (hw.alloc hw.size _) hgrow (by have := hw.size; simp at *; omega) (fun g hg => by have := (hown.lt g hg).1; omega)
        rw [← HPX.out] at hown1
        clear hown hgrow hw HPX hat hrS hrT hneS hneT
        go_wp2
        go_roundw
        case rel => exact ⟨j + 1, by omega, by go_num, hown1, hne1, hne2, hrS1, hrT1, hb3⟩
        case measure => simp only [intOf]; omega
      · have hkn : j = xs.length := by omega
        rw [hkn] at hown
        obtain ⟨A', c', rfl, hO⟩ := own_form2 hown
        have hll := Lib.hid (HDL.out xs.length)
        have i3 : ¬ ((j : Int) < S.length) := by rw [HSL.out]; omega
        have i4 : ¬ ((j : Int) < TT.length) := by rw [HTL.out]; omega
        clear hkn hown HDL HDS hrS hrT hneS hneT
        go_wp2
        go_ret
        exact ⟨A', c', rfl, hO.mono (by omega), hw⟩
set_option maxHeartbeats 4000000 in
set_option maxRecDepth 100000 in
theorem means_good {xs ys : List Int} (hg : good xs ys = true) (A B P : Option Addr) (c e cp : Nat) (ps : List Int) (w : World) (h : IntS w A xs) (k : IntS w B ys) (zp : IntS w P ps) (hq : payB xs ps = true) :
    Calls Try.prog 84 #[.agg #[.slice A xs.length c, .slice B ys.length e], .slice P ps.length cp] w (RetP w (mnsK xs ys ps xs.length)) := by
  have hgl := good_len hg
  have hpp := pay_iff hq
  have hv : ∀ j, -((999 : Nat) : Int) ≤ nth ps j ∧ nth ps j ≤ ((999 : Nat) : Int) := fun j => by have := hpp.2 j; omega
  have HSu := Lib.hid (fun W (h : IntS W A xs) (k : IntS W B ys) => sums_good hg A B c e W h k)
  have HSp := Lib.hid (fun W (h : IntS W A xs) (k : IntS W B ys) (zp : IntS W P ps) => spread_any hg A B P c e cp ps W h k zp hpp.1 999 (by omega) hv)
  have HGa := Lib.hid (fun W (Ap : Option Addr) (cq : Nat) (h : IntS W A xs) (k : IntS W Ap (sprL xs.length ys (endsL xs) ps (endsL xs).length)) => gath_good hg A B Ap c e cq ps W h 999 (by omega) hv k)
  have hsb := Lib.hid (fun j => sums_bd hg j)
  have hs1 := Lib.hid (fun x (hx : x < xs.length) => sums_one hg hx)
  have htb := Lib.hid (fun j => tot_bd hg hv j)
  have HSL : Hid ((sumsL xs ys).length = xs.length) := sums_len hg
  have HTL : Hid ((totL xs ys ps).length = xs.length) := tot_len
  have HSL1 : Hid (1 ≤ (sumsL xs ys).length) := by have := HSL.out; show 1 ≤ _; omega
  have HTL1 : Hid (1 ≤ (totL xs ys ps).length) := by have := HTL.out; show 1 ≤ _; omega
  have HDf : Hid (∀ x, mnsP xs ys ps x = (lowX (nth (totL xs ys ps) x) (nth (sumsL xs ys) x), lowY (nth (totL xs ys ps) x) (nth (sumsL xs ys) x))) := fun x => rfl
  have HDL := Lib.hid (fun k => mnsK_len xs ys ps k)
  have HDS := Lib.hid (fun k => mnsK_succ xs ys ps k)
  have HD0 : Hid (mnsK xs ys ps 0 = []) := rfl
  have hn24 : xs.length ≤ 24 := hgl.2.1
  clear hgl hpp hv hq hg
  generalize mnsK xs ys ps = F at *
  generalize mnsP xs ys ps = D at *
  generalize sumsL xs ys = S at *
  generalize totL xs ys ps = TT at *
  (try generalize sprL xs.length ys (endsL xs) ps (endsL xs).length = SP at *)
  obtain ⟨i0, hi, hz0, hz1, hz2⟩ := info_parts info_A2
  go_enter Try.func84, Try.ntmps84
  go_upto_region 1 with (fail)
  have hw : Below w.heap.size w (w.alloc (.cells #[.slice A xs.length c, .slice B ys.length e] 28)) := by (repeat (first | with_reducible exact Below.refl _ _ | with_reducible assumption | with_reducible refine Below.alloc' ?_ ?_ _ | with_reducible refine Below.setCell' ?_ ?_ _ | with_reducible refine Below.drewN' ?_ _ | with_reducible refine Below.drew ?_ | with_reducible refine Below.transA ?_ (by assumption) ?_ | omega | (focus (simp; done)) | (focus (simp; omega))))
  have hx0 : (w.alloc (.cells #[.slice A xs.length c, .slice B ys.length e] 28)).cell? ⟨w.heap.size, 0, none⟩ = some (.slice A xs.length c) := by simp
  have hx1 : (w.alloc (.cells #[.slice A xs.length c, .slice B ys.length e] 28)).cell? ⟨w.heap.size, 1, none⟩ = some (.slice B ys.length e) := by simp
  have HW1 : Hid ((w.alloc (.cells #[.slice A xs.length c, .slice B ys.length e] 28)).heap.size = w.heap.size + 1) := by show _ = _; simp
  obtain ⟨wb, hwb⟩ : ∃ wb, wb = w.alloc (.cells #[.slice A xs.length c, .slice B ys.length e] 28) := ⟨_, rfl⟩
  rw [← hwb] at hw hx0 hx1 HW1 ⊢
  clear hwb
  go_cut [5, 6, 7] (fun s5 s6 s7 wx => ∃ gO gS gT cS cT : Nat, s5 = .slice (some ⟨gO, 0, none⟩) 0 0 ∧ s6 = .slice (some ⟨gT, 0, none⟩) TT.length cT ∧ s7 = .slice (some ⟨gS, 0, none⟩) S.length cS ∧ gO ≠ gS ∧ gO ≠ gT ∧ w.heap.size < gS ∧ w.heap.size < gT ∧ wx.ownsRow (w.heap.size + 1) 43 2 (.slice (some ⟨gO, 0, none⟩) 0 0) 0 [] ∧ Row wx gS S ∧ Row wx gT TT ∧ Below w.heap.size w wx)
  case first =>
    refine wp_region_held_drew (S := fun w' => Below wb.heap.size wb w') (by kernel_rfl) ((Below.refl _ _)).drew (fun hHeld => ?_)
    replace hw := hw.drew
    refine wpAnyH_take (i := 1) (oi := ?oome1) (v := ?vvme1) ?hime1 (by kernel_rfl) (by kernel_rfl) (by kernel_rfl) ?hqme1 (Or.inl ⟨?hgme1, ?hyme1⟩) (by assumption) ?restme1
    case hime1 => simp only [List.getElem?_toArray, List.getElem?_cons_zero, List.getElem?_cons_succ]; rfl
    case hqme1 => exact fun _ _ _ h => h
    case hgme1 => rfl
    case hyme1 =>
      intro wq hSw
      replace hx0 := keep_cell hSw hx0
      replace hx1 := keep_cell hSw hx1
      go_simp
      (try with_reducible rfl)
    (try simp only [Act.put, List.setIfInBounds_toArray, List.set_cons_zero, List.set_cons_succ])
    refine wpAnyH_take (i := 2) (oi := ?oome2) (v := ?vvme2) ?hime2 (by kernel_rfl) (by kernel_rfl) (by kernel_rfl) ?hqme2 (Or.inl ⟨?hgme2, ?hyme2⟩) (by assumption) ?restme2
    case hime2 => simp only [List.getElem?_toArray, List.getElem?_cons_zero, List.getElem?_cons_succ]; rfl
    case hqme2 => exact fun _ _ _ h => h
    case hgme2 => rfl
    case hyme2 =>
      intro wq hSw
      replace hx0 := keep_cell hSw hx0
      replace hx1 := keep_cell hSw hx1
      go_simp
      (try with_reducible rfl)
    (try simp only [Act.put, List.setIfInBounds_toArray, List.set_cons_zero, List.set_cons_succ])
    refine wpAnyH_take (i := 3) (oi := ?oome3) (v := ?vvme3) ?hime3 (by kernel_rfl) (by kernel_rfl) (by kernel_rfl) ?hqme3 (Or.inl ⟨?hgme3, ?hyme3⟩) (by assumption) ?restme3
    case hime3 => simp only [List.getElem?_toArray, List.getElem?_cons_zero, List.getElem?_cons_succ]; rfl
    case hqme3 => exact fun _ _ _ h => h
    case hgme3 => rfl
    case hyme3 =>
      intro wq hSw
      replace hx0 := keep_cell hSw hx0
      replace hx1 := keep_cell hSw hx1
      go_simp
      (try with_reducible rfl)
    (try simp only [Act.put, List.setIfInBounds_toArray, List.set_cons_zero, List.set_cons_succ])
    refine wpAnyH_take (i := 6) (oi := ?oome4) (v := ?vvme4) ?hime4 (by kernel_rfl) (by kernel_rfl) (by kernel_rfl) ?hqme4 (Or.inl ⟨?hgme4, ?hyme4⟩) (by assumption) ?restme4
    case hime4 => simp only [List.getElem?_toArray, List.getElem?_cons_zero, List.getElem?_cons_succ]; rfl
    case hqme4 => exact fun _ _ _ h => h
    case hgme4 => rfl
    case hyme4 =>
      intro wq hSw
      replace hx0 := keep_cell hSw hx0
      replace hx1 := keep_cell hSw hx1
      go_simp
      (try with_reducible rfl)
    (try simp only [Act.put, List.setIfInBounds_toArray, List.set_cons_zero, List.set_cons_succ])
    refine wpAnyH_ready (rs := [0, 4]) (by kernel_rfl) (by simp) ?_
    refine AllReadyH.cons (i := 0) (o := ?oome5) ?home5 (fun K hK => ?hstepme5) ?moreme5
    case home5 => simp only [List.getElem?_toArray, List.getElem?_cons_zero, List.getElem?_cons_succ]; rfl
    case hstepme5 =>
      go_simp
      refine hK.out _ _ (by (repeat (first | with_reducible exact Below.refl _ _ | with_reducible assumption | with_reducible refine Below.alloc' ?_ ?_ _ | with_reducible refine Below.setCell' ?_ ?_ _ | with_reducible refine Below.drewN' ?_ _ | with_reducible refine Below.drew ?_ | with_reducible refine Below.transA ?_ (by assumption) ?_ | omega | (focus (simp; done)) | (focus (simp; omega))))) (fun hHeld => ?_)
      clear hK K
      (try simp only [Act.put, List.setIfInBounds_toArray, List.set_cons_zero, List.set_cons_succ])
      refine wpAnyH_name hHeld (fun wa hb hwz => ?_)
      (try replace hown := own_below hown hb)
      (try replace hrS := hrS.below hb)
      (try replace hrT := hrT.below hb)
      (try replace hiP := hiP.below hb)
      have hz := hb.size
      have hown : wa.ownsRow (w.heap.size + 1) 43 2 (.slice (some ⟨wb.heap.size, 0, none⟩) 0 0) 0 [] := by rw [hwz]; exact (own_empty2 wb (w.heap.size + 1) wb.heap.size rfl (by have := hw.size; have := HW1.out; simp at *; omega)).drew
      have hlO := hown.lt wb.heap.size rfl
      refine wpAnyH_mono (S' := fun w' => Below wa.heap.size wa w') (fun _ h => keep_below h hb) _ _ _ _ ?_
      replace hw := keep_below_dr hb hw
      replace hx0 := keep_cell hb hx0
      replace hx1 := keep_cell hb hx1
      clear hHeld hb hwz
      have hHeld : Below wa.heap.size wa wa := (Below.refl _ _)
      refine wpAnyH_ready (rs := [4]) (by kernel_rfl) (by simp) ?_
      refine AllReadyH.cons (i := 4) (o := ?oome6) ?home6 (fun K hK => ?hstepme6) AllReadyH.nil
      case home6 => simp only [List.getElem?_toArray, List.getElem?_cons_zero, List.getElem?_cons_succ]; rfl
      go_simp
      refine (HSp.out _ (h.below hw) (k.below hw) (zp.below hw)).mono ?_
      rintro e1 wz ⟨Ap, cq, rfl, hop, hb⟩
      (try replace hown := own_below hown hb)
      (try replace hrS := hrS.below hb)
      (try replace hrT := hrT.below hb)
      (try replace hiP := hiP.below hb)
      have hz := hb.size
      have hiP := hop.ints
      clear hop
      go_wp2_with fail
      refine hK.out _ _ (keep_below hb hHeld) (fun _ => ?_)
      clear hK K
      (try simp only [Act.put, List.setIfInBounds_toArray, List.set_cons_zero, List.set_cons_succ])
      refine wpAnyH_mono (S' := fun w' => Below wz.heap.size wz w') (fun _ h => keep_below h (keep_below hb hHeld)) _ _ _ _ ?_
      replace hw := keep_below hb hw
      replace hx0 := keep_cell hb hx0
      replace hx1 := keep_cell hb hx1
      clear hHeld hb
      have hHeld : Below wz.heap.size wz wz := (Below.refl _ _)
      refine wpAnyH_ready (rs := [5]) (by kernel_rfl) (by simp) ?_
      refine AllReadyH.cons (i := 5) (o := ?oome7) ?home7 (fun K hK => ?hstepme7) AllReadyH.nil
      case home7 => simp only [List.getElem?_toArray, List.getElem?_cons_zero, List.getElem?_cons_succ]; rfl
      go_simp
      refine (HGa.out _ _ _ (h.below hw) hiP).mono ?_
      rintro e1 wz ⟨At, ct, rfl, hot, hb⟩
      clear hiP
      (try replace hown := own_below hown hb)
      (try replace hrS := hrS.below hb)
      (try replace hrT := hrT.below hb)
      (try replace hiP := hiP.below hb)
      have hz := hb.size
      obtain ⟨gT, rfl, hgT, hrT⟩ := hot.pos HTL1.out
      have hlT := hrT.lt
      clear hot
      go_wp2_with fail
      refine hK.out _ _ (keep_below hb hHeld) (fun _ => ?_)
      clear hK K
      (try simp only [Act.put, List.setIfInBounds_toArray, List.set_cons_zero, List.set_cons_succ])
      refine wpAnyH_mono (S' := fun w' => Below wz.heap.size wz w') (fun _ h => keep_below h (keep_below hb hHeld)) _ _ _ _ ?_
      replace hw := keep_below hb hw
      replace hx0 := keep_cell hb hx0
      replace hx1 := keep_cell hb hx1
      clear hHeld hb
      have hHeld : Below wz.heap.size wz wz := (Below.refl _ _)
      refine wpAnyH_ready (rs := [7]) (by kernel_rfl) (by simp) ?_
      refine AllReadyH.cons (i := 7) (o := ?oome8) ?home8 (fun K hK => ?hstepme8) AllReadyH.nil
      case home8 => simp only [List.getElem?_toArray, List.getElem?_cons_zero, List.getElem?_cons_succ]; rfl
      go_simp
      refine (HSu.out _ (h.below hw) (k.below hw)).mono ?_
      rintro e1 wz ⟨As, cs, rfl, hos, hb⟩
      (try replace hown := own_below hown hb)
      (try replace hrS := hrS.below hb)
      (try replace hrT := hrT.below hb)
      (try replace hiP := hiP.below hb)
      have hz := hb.size
      obtain ⟨gS, rfl, hgS, hrS⟩ := hos.pos HSL1.out
      have hlS := hrS.lt
      clear hos
      go_wp2_with fail
      refine hK.out _ _ (keep_below hb hHeld) (fun _ => ?_)
      clear hK K
      (try simp only [Act.put, List.setIfInBounds_toArray, List.set_cons_zero, List.set_cons_succ])
      refine wpAnyH_mono (S' := fun w' => Below wz.heap.size wz w') (fun _ h => keep_below h (keep_below hb hHeld)) _ _ _ _ ?_
      replace hw := keep_below hb hw
      replace hx0 := keep_cell hb hx0
      replace hx1 := keep_cell hb hx1
      clear hHeld hb
      have hHeld : Below wz.heap.size wz wz := (Below.refl _ _)
      refine wpAnyH_take (i := 8) (oi := ?oome9) (v := ?vvme9) ?hime9 (by kernel_rfl) (by kernel_rfl) (by kernel_rfl) ?hqme9 (Or.inl ⟨?hgme9, ?hyme9⟩) (by assumption) ?restme9
      case hime9 => simp only [List.getElem?_toArray, List.getElem?_cons_zero, List.getElem?_cons_succ]; rfl
      case hqme9 => exact fun _ _ _ h => h
      case hgme9 => rfl
      case hyme9 =>
        intro wq hSw
        replace hx0 := keep_cell hSw hx0
        replace hx1 := keep_cell hSw hx1
        go_simp
        (try with_reducible rfl)
      (try simp only [Act.put, List.setIfInBounds_toArray, List.set_cons_zero, List.set_cons_succ])
      refine wpAnyH_take (i := 9) (oi := ?oome10) (v := ?vvme10) ?hime10 (by kernel_rfl) (by kernel_rfl) (by kernel_rfl) ?hqme10 (Or.inl ⟨?hgme10, ?hyme10⟩) (by assumption) ?restme10
      case hime10 => simp only [List.getElem?_toArray, List.getElem?_cons_zero, List.getElem?_cons_succ]; rfl
      case hqme10 => exact fun _ _ _ h => h
      case hgme10 => rfl
      case hyme10 =>
        intro wq hSw
        replace hx0 := keep_cell hSw hx0
        replace hx1 := keep_cell hSw hx1
        go_simp
        (try with_reducible rfl)
      (try simp only [Act.put, List.setIfInBounds_toArray, List.set_cons_zero, List.set_cons_succ])
      refine wpAnyH_take (i := 10) (oi := ?oome11) (v := ?vvme11) ?hime11 (by kernel_rfl) (by kernel_rfl) (by kernel_rfl) ?hqme11 (Or.inl ⟨?hgme11, ?hyme11⟩) (by assumption) ?restme11
      case hime11 => simp only [List.getElem?_toArray, List.getElem?_cons_zero, List.getElem?_cons_succ]; rfl
      case hqme11 => exact fun _ _ _ h => h
      case hgme11 => rfl
      case hyme11 =>
        intro wq hSw
        replace hx0 := keep_cell hSw hx0
        replace hx1 := keep_cell hSw hx1
        go_simp
        (try with_reducible rfl)
      (try simp only [Act.put, List.setIfInBounds_toArray, List.set_cons_zero, List.set_cons_succ])
      clear hHeld
      refine wpAnyH_done (by kernel_rfl) ?_ _
      go_wp2_with fail
      go_meet
      go_split_ands
      have hW1 := HW1.out
      exact ⟨_, _, _, _, _, rfl, rfl, rfl, by simp at *; omega, by simp at *; omega, by simp at *; omega, by simp at *; omega, hown, hrS, hrT, hw⟩
    refine AllReadyH.cons (i := 4) (o := ?oome12) ?home12 (fun K hK => ?hstepme12) ?moreme12
    case home12 => simp only [List.getElem?_toArray, List.getElem?_cons_zero, List.getElem?_cons_succ]; rfl
    case hstepme12 =>
      go_simp
      refine (HSp.out _ (h.below hw) (k.below hw) (zp.below hw)).mono ?_
      rintro e1 wz ⟨Ap, cq, rfl, hop, hb⟩
      (try replace hown := own_below hown hb)
      (try replace hrS := hrS.below hb)
      (try replace hrT := hrT.below hb)
      (try replace hiP := hiP.below hb)
      have hz := hb.size
      have hiP := hop.ints
      clear hop
      go_wp2_with fail
      refine hK.out _ _ (keep_below hb hHeld) (fun _ => ?_)
      clear hK K
      (try simp only [Act.put, List.setIfInBounds_toArray, List.set_cons_zero, List.set_cons_succ])
      refine wpAnyH_mono (S' := fun w' => Below wz.heap.size wz w') (fun _ h => keep_below h (keep_below hb hHeld)) _ _ _ _ ?_
      replace hw := keep_below hb hw
      replace hx0 := keep_cell hb hx0
      replace hx1 := keep_cell hb hx1
      clear hHeld hb
      have hHeld : Below wz.heap.size wz wz := (Below.refl _ _)
      refine wpAnyH_ready (rs := [0, 5]) (by kernel_rfl) (by simp) ?_
      refine AllReadyH.cons (i := 0) (o := ?oome13) ?home13 (fun K hK => ?hstepme13) ?moreme13
      case home13 => simp only [List.getElem?_toArray, List.getElem?_cons_zero, List.getElem?_cons_succ]; rfl
      case hstepme13 =>
        go_simp
        refine hK.out _ _ (by (repeat (first | with_reducible exact Below.refl _ _ | with_reducible assumption | with_reducible refine Below.alloc' ?_ ?_ _ | with_reducible refine Below.setCell' ?_ ?_ _ | with_reducible refine Below.drewN' ?_ _ | with_reducible refine Below.drew ?_ | with_reducible refine Below.transA ?_ (by assumption) ?_ | omega | (focus (simp; done)) | (focus (simp; omega))))) (fun hHeld => ?_)
        clear hK K
        (try simp only [Act.put, List.setIfInBounds_toArray, List.set_cons_zero, List.set_cons_succ])
        refine wpAnyH_name hHeld (fun wa hb hwz => ?_)
        (try replace hown := own_below hown hb)
        (try replace hrS := hrS.below hb)
        (try replace hrT := hrT.below hb)
        (try replace hiP := hiP.below hb)
        have hz := hb.size
        have hown : wa.ownsRow (w.heap.size + 1) 43 2 (.slice (some ⟨wz.heap.size, 0, none⟩) 0 0) 0 [] := by rw [hwz]; exact own_empty2 wz (w.heap.size + 1) wz.heap.size rfl (by have := hw.size; have := HW1.out; simp at *; omega)
        have hlO := hown.lt wz.heap.size rfl
        refine wpAnyH_mono (S' := fun w' => Below wa.heap.size wa w') (fun _ h => keep_below h hb) _ _ _ _ ?_
        replace hw := keep_below hb hw
        replace hx0 := keep_cell hb hx0
        replace hx1 := keep_cell hb hx1
        clear hHeld hb hwz
        have hHeld : Below wa.heap.size wa wa := (Below.refl _ _)
        refine wpAnyH_ready (rs := [5]) (by kernel_rfl) (by simp) ?_
        refine AllReadyH.cons (i := 5) (o := ?oome14) ?home14 (fun K hK => ?hstepme14) AllReadyH.nil
        case home14 => simp only [List.getElem?_toArray, List.getElem?_cons_zero, List.getElem?_cons_succ]; rfl
        go_simp
        refine (HGa.out _ _ _ (h.below hw) hiP).mono ?_
        rintro e1 wz ⟨At, ct, rfl, hot, hb⟩
        clear hiP
        (try replace hown := own_below hown hb)
        (try replace hrS := hrS.below hb)
        (try replace hrT := hrT.below hb)
        (try replace hiP := hiP.below hb)
        have hz := hb.size
        obtain ⟨gT, rfl, hgT, hrT⟩ := hot.pos HTL1.out
        have hlT := hrT.lt
        clear hot
        go_wp2_with fail
        refine hK.out _ _ (keep_below hb hHeld) (fun _ => ?_)
        clear hK K
        (try simp only [Act.put, List.setIfInBounds_toArray, List.set_cons_zero, List.set_cons_succ])
        refine wpAnyH_mono (S' := fun w' => Below wz.heap.size wz w') (fun _ h => keep_below h (keep_below hb hHeld)) _ _ _ _ ?_
        replace hw := keep_below hb hw
        replace hx0 := keep_cell hb hx0
        replace hx1 := keep_cell hb hx1
        clear hHeld hb
        have hHeld : Below wz.heap.size wz wz := (Below.refl _ _)
        refine wpAnyH_ready (rs := [7]) (by kernel_rfl) (by simp) ?_
        refine AllReadyH.cons (i := 7) (o := ?oome15) ?home15 (fun K hK => ?hstepme15) AllReadyH.nil
        case home15 => simp only [List.getElem?_toArray, List.getElem?_cons_zero, List.getElem?_cons_succ]; rfl
        go_simp
        refine (HSu.out _ (h.below hw) (k.below hw)).mono ?_
        rintro e1 wz ⟨As, cs, rfl, hos, hb⟩
        (try replace hown := own_below hown hb)
        (try replace hrS := hrS.below hb)
        (try replace hrT := hrT.below hb)
        (try replace hiP := hiP.below hb)
        have hz := hb.size
        obtain ⟨gS, rfl, hgS, hrS⟩ := hos.pos HSL1.out
        have hlS := hrS.lt
        clear hos
        go_wp2_with fail
        refine hK.out _ _ (keep_below hb hHeld) (fun _ => ?_)
        clear hK K
        (try simp only [Act.put, List.setIfInBounds_toArray, List.set_cons_zero, List.set_cons_succ])
        refine wpAnyH_mono (S' := fun w' => Below wz.heap.size wz w') (fun _ h => keep_below h (keep_below hb hHeld)) _ _ _ _ ?_
        replace hw := keep_below hb hw
        replace hx0 := keep_cell hb hx0
        replace hx1 := keep_cell hb hx1
        clear hHeld hb
        have hHeld : Below wz.heap.size wz wz := (Below.refl _ _)
        refine wpAnyH_take (i := 8) (oi := ?oome16) (v := ?vvme16) ?hime16 (by kernel_rfl) (by kernel_rfl) (by kernel_rfl) ?hqme16 (Or.inl ⟨?hgme16, ?hyme16⟩) (by assumption) ?restme16
        case hime16 => simp only [List.getElem?_toArray, List.getElem?_cons_zero, List.getElem?_cons_succ]; rfl
        case hqme16 => exact fun _ _ _ h => h
        case hgme16 => rfl
        case hyme16 =>
          intro wq hSw
          replace hx0 := keep_cell hSw hx0
          replace hx1 := keep_cell hSw hx1
          go_simp
          (try with_reducible rfl)
        (try simp only [Act.put, List.setIfInBounds_toArray, List.set_cons_zero, List.set_cons_succ])
        refine wpAnyH_take (i := 9) (oi := ?oome17) (v := ?vvme17) ?hime17 (by kernel_rfl) (by kernel_rfl) (by kernel_rfl) ?hqme17 (Or.inl ⟨?hgme17, ?hyme17⟩) (by assumption) ?restme17
        case hime17 => simp only [List.getElem?_toArray, List.getElem?_cons_zero, List.getElem?_cons_succ]; rfl
        case hqme17 => exact fun _ _ _ h => h
        case hgme17 => rfl
        case hyme17 =>
          intro wq hSw
          replace hx0 := keep_cell hSw hx0
          replace hx1 := keep_cell hSw hx1
          go_simp
          (try with_reducible rfl)
        (try simp only [Act.put, List.setIfInBounds_toArray, List.set_cons_zero, List.set_cons_succ])
        refine wpAnyH_take (i := 10) (oi := ?oome18) (v := ?vvme18) ?hime18 (by kernel_rfl) (by kernel_rfl) (by kernel_rfl) ?hqme18 (Or.inl ⟨?hgme18, ?hyme18⟩) (by assumption) ?restme18
        case hime18 => simp only [List.getElem?_toArray, List.getElem?_cons_zero, List.getElem?_cons_succ]; rfl
        case hqme18 => exact fun _ _ _ h => h
        case hgme18 => rfl
        case hyme18 =>
          intro wq hSw
          replace hx0 := keep_cell hSw hx0
          replace hx1 := keep_cell hSw hx1
          go_simp
          (try with_reducible rfl)
        (try simp only [Act.put, List.setIfInBounds_toArray, List.set_cons_zero, List.set_cons_succ])
        clear hHeld
        refine wpAnyH_done (by kernel_rfl) ?_ _
        go_wp2_with fail
        go_meet
        go_split_ands
        have hW1 := HW1.out
        exact ⟨_, _, _, _, _, rfl, rfl, rfl, by simp at *; omega, by simp at *; omega, by simp at *; omega, by simp at *; omega, hown, hrS, hrT, hw⟩
      refine AllReadyH.cons (i := 5) (o := ?oome19) ?home19 (fun K hK => ?hstepme19) ?moreme19
      case home19 => simp only [List.getElem?_toArray, List.getElem?_cons_zero, List.getElem?_cons_succ]; rfl
      case hstepme19 =>
        go_simp
        refine (HGa.out _ _ _ (h.below hw) hiP).mono ?_
        rintro e1 wz ⟨At, ct, rfl, hot, hb⟩
        clear hiP
        (try replace hown := own_below hown hb)
        (try replace hrS := hrS.below hb)
        (try replace hrT := hrT.below hb)
        (try replace hiP := hiP.below hb)
        have hz := hb.size
        obtain ⟨gT, rfl, hgT, hrT⟩ := hot.pos HTL1.out
        have hlT := hrT.lt
        clear hot
        go_wp2_with fail
        refine hK.out _ _ (keep_below hb hHeld) (fun _ => ?_)
        clear hK K
        (try simp only [Act.put, List.setIfInBounds_toArray, List.set_cons_zero, List.set_cons_succ])
        refine wpAnyH_mono (S' := fun w' => Below wz.heap.size wz w') (fun _ h => keep_below h (keep_below hb hHeld)) _ _ _ _ ?_
        replace hw := keep_below hb hw
        replace hx0 := keep_cell hb hx0
        replace hx1 := keep_cell hb hx1
        clear hHeld hb
        have hHeld : Below wz.heap.size wz wz := (Below.refl _ _)
        refine wpAnyH_ready (rs := [0, 7]) (by kernel_rfl) (by simp) ?_
        refine AllReadyH.cons (i := 0) (o := ?oome20) ?home20 (fun K hK => ?hstepme20) ?moreme20
        case home20 => simp only [List.getElem?_toArray, List.getElem?_cons_zero, List.getElem?_cons_succ]; rfl
        case hstepme20 =>
          go_simp
          refine hK.out _ _ (by (repeat (first | with_reducible exact Below.refl _ _ | with_reducible assumption | with_reducible refine Below.alloc' ?_ ?_ _ | with_reducible refine Below.setCell' ?_ ?_ _ | with_reducible refine Below.drewN' ?_ _ | with_reducible refine Below.drew ?_ | with_reducible refine Below.transA ?_ (by assumption) ?_ | omega | (focus (simp; done)) | (focus (simp; omega))))) (fun hHeld => ?_)
          clear hK K
          (try simp only [Act.put, List.setIfInBounds_toArray, List.set_cons_zero, List.set_cons_succ])
          refine wpAnyH_name hHeld (fun wa hb hwz => ?_)
          (try replace hown := own_below hown hb)
          (try replace hrS := hrS.below hb)
          (try replace hrT := hrT.below hb)
          (try replace hiP := hiP.below hb)
          have hz := hb.size
          have hown : wa.ownsRow (w.heap.size + 1) 43 2 (.slice (some ⟨wz.heap.size, 0, none⟩) 0 0) 0 [] := by rw [hwz]; exact own_empty2 wz (w.heap.size + 1) wz.heap.size rfl (by have := hw.size; have := HW1.out; simp at *; omega)
          have hlO := hown.lt wz.heap.size rfl
          refine wpAnyH_mono (S' := fun w' => Below wa.heap.size wa w') (fun _ h => keep_below h hb) _ _ _ _ ?_
          replace hw := keep_below hb hw
          replace hx0 := keep_cell hb hx0
          replace hx1 := keep_cell hb hx1
          clear hHeld hb hwz
          have hHeld : Below wa.heap.size wa wa := (Below.refl _ _)
          refine wpAnyH_ready (rs := [7]) (by kernel_rfl) (by simp) ?_
          refine AllReadyH.cons (i := 7) (o := ?oome21) ?home21 (fun K hK => ?hstepme21) AllReadyH.nil
          case home21 => simp only [List.getElem?_toArray, List.getElem?_cons_zero, List.getElem?_cons_succ]; rfl
          go_simp
          refine (HSu.out _ (h.below hw) (k.below hw)).mono ?_
          rintro e1 wz ⟨As, cs, rfl, hos, hb⟩
          (try replace hown := own_below hown hb)
          (try replace hrS := hrS.below hb)
          (try replace hrT := hrT.below hb)
          (try replace hiP := hiP.below hb)
          have hz := hb.size
          obtain ⟨gS, rfl, hgS, hrS⟩ := hos.pos HSL1.out
          have hlS := hrS.lt
          clear hos
          go_wp2_with fail
          refine hK.out _ _ (keep_below hb hHeld) (fun _ => ?_)
          clear hK K
          (try simp only [Act.put, List.setIfInBounds_toArray, List.set_cons_zero, List.set_cons_succ])
          refine wpAnyH_mono (S' := fun w' => Below wz.heap.size wz w') (fun _ h => keep_below h (keep_below hb hHeld)) _ _ _ _ ?_
          replace hw := keep_below hb hw
          replace hx0 := keep_cell hb hx0
          replace hx1 := keep_cell hb hx1
          clear hHeld hb
          have hHeld : Below wz.heap.size wz wz := (Below.refl _ _)
          refine wpAnyH_take (i := 8) (oi := ?oome22) (v := ?vvme22) ?hime22 (by kernel_rfl) (by kernel_rfl) (by kernel_rfl) ?hqme22 (Or.inl ⟨?hgme22, ?hyme22⟩) (by assumption) ?restme22
          case hime22 => simp only [List.getElem?_toArray, List.getElem?_cons_zero, List.getElem?_cons_succ]; rfl
          case hqme22 => exact fun _ _ _ h => h
          case hgme22 => rfl
          case hyme22 =>
            intro wq hSw
            replace hx0 := keep_cell hSw hx0
            replace hx1 := keep_cell hSw hx1
            go_simp
            (try with_reducible rfl)
          (try simp only [Act.put, List.setIfInBounds_toArray, List.set_cons_zero, List.set_cons_succ])
          refine wpAnyH_take (i := 9) (oi := ?oome23) (v := ?vvme23) ?hime23 (by kernel_rfl) (by kernel_rfl) (by kernel_rfl) ?hqme23 (Or.inl ⟨?hgme23, ?hyme23⟩) (by assumption) ?restme23
          case hime23 => simp only [List.getElem?_toArray, List.getElem?_cons_zero, List.getElem?_cons_succ]; rfl
          case hqme23 => exact fun _ _ _ h => h
          case hgme23 => rfl
          case hyme23 =>
            intro wq hSw
            replace hx0 := keep_cell hSw hx0
            replace hx1 := keep_cell hSw hx1
            go_simp
            (try with_reducible rfl)
          (try simp only [Act.put, List.setIfInBounds_toArray, List.set_cons_zero, List.set_cons_succ])
          refine wpAnyH_take (i := 10) (oi := ?oome24) (v := ?vvme24) ?hime24 (by kernel_rfl) (by kernel_rfl) (by kernel_rfl) ?hqme24 (Or.inl ⟨?hgme24, ?hyme24⟩) (by assumption) ?restme24
          case hime24 => simp only [List.getElem?_toArray, List.getElem?_cons_zero, List.getElem?_cons_succ]; rfl
          case hqme24 => exact fun _ _ _ h => h
          case hgme24 => rfl
          case hyme24 =>
            intro wq hSw
            replace hx0 := keep_cell hSw hx0
            replace hx1 := keep_cell hSw hx1
            go_simp
            (try with_reducible rfl)
          (try simp only [Act.put, List.setIfInBounds_toArray, List.set_cons_zero, List.set_cons_succ])
          clear hHeld
          refine wpAnyH_done (by kernel_rfl) ?_ _
          go_wp2_with fail
          go_meet
          go_split_ands
          have hW1 := HW1.out
          exact ⟨_, _, _, _, _, rfl, rfl, rfl, by simp at *; omega, by simp at *; omega, by simp at *; omega, by simp at *; omega, hown, hrS, hrT, hw⟩
        refine AllReadyH.cons (i := 7) (o := ?oome25) ?home25 (fun K hK => ?hstepme25) ?moreme25
        case home25 => simp only [List.getElem?_toArray, List.getElem?_cons_zero, List.getElem?_cons_succ]; rfl
        case hstepme25 =>
          go_simp
          refine (HSu.out _ (h.below hw) (k.below hw)).mono ?_
          rintro e1 wz ⟨As, cs, rfl, hos, hb⟩
          (try replace hown := own_below hown hb)
          (try replace hrS := hrS.below hb)
          (try replace hrT := hrT.below hb)
          (try replace hiP := hiP.below hb)
          have hz := hb.size
          obtain ⟨gS, rfl, hgS, hrS⟩ := hos.pos HSL1.out
          have hlS := hrS.lt
          clear hos
          go_wp2_with fail
          refine hK.out _ _ (keep_below hb hHeld) (fun _ => ?_)
          clear hK K
          (try simp only [Act.put, List.setIfInBounds_toArray, List.set_cons_zero, List.set_cons_succ])
          refine wpAnyH_mono (S' := fun w' => Below wz.heap.size wz w') (fun _ h => keep_below h (keep_below hb hHeld)) _ _ _ _ ?_
          replace hw := keep_below hb hw
          replace hx0 := keep_cell hb hx0
          replace hx1 := keep_cell hb hx1
          clear hHeld hb
          have hHeld : Below wz.heap.size wz wz := (Below.refl _ _)
          refine wpAnyH_ready (rs := [0]) (by kernel_rfl) (by simp) ?_
          refine AllReadyH.cons (i := 0) (o := ?oome26) ?home26 (fun K hK => ?hstepme26) AllReadyH.nil
          case home26 => simp only [List.getElem?_toArray, List.getElem?_cons_zero, List.getElem?_cons_succ]; rfl
          go_simp
          refine hK.out _ _ (by (repeat (first | with_reducible exact Below.refl _ _ | with_reducible assumption | with_reducible refine Below.alloc' ?_ ?_ _ | with_reducible refine Below.setCell' ?_ ?_ _ | with_reducible refine Below.drewN' ?_ _ | with_reducible refine Below.drew ?_ | with_reducible refine Below.transA ?_ (by assumption) ?_ | omega | (focus (simp; done)) | (focus (simp; omega))))) (fun hHeld => ?_)
          clear hK K
          (try simp only [Act.put, List.setIfInBounds_toArray, List.set_cons_zero, List.set_cons_succ])
          refine wpAnyH_name hHeld (fun wa hb hwz => ?_)
          (try replace hown := own_below hown hb)
          (try replace hrS := hrS.below hb)
          (try replace hrT := hrT.below hb)
          (try replace hiP := hiP.below hb)
          have hz := hb.size
          have hown : wa.ownsRow (w.heap.size + 1) 43 2 (.slice (some ⟨wz.heap.size, 0, none⟩) 0 0) 0 [] := by rw [hwz]; exact own_empty2 wz (w.heap.size + 1) wz.heap.size rfl (by have := hw.size; have := HW1.out; simp at *; omega)
          have hlO := hown.lt wz.heap.size rfl
          refine wpAnyH_mono (S' := fun w' => Below wa.heap.size wa w') (fun _ h => keep_below h hb) _ _ _ _ ?_
          replace hw := keep_below hb hw
          replace hx0 := keep_cell hb hx0
          replace hx1 := keep_cell hb hx1
          clear hHeld hb hwz
          have hHeld : Below wa.heap.size wa wa := (Below.refl _ _)
          refine wpAnyH_take (i := 8) (oi := ?oome27) (v := ?vvme27) ?hime27 (by kernel_rfl) (by kernel_rfl) (by kernel_rfl) ?hqme27 (Or.inl ⟨?hgme27, ?hyme27⟩) (by assumption) ?restme27
          case hime27 => simp only [List.getElem?_toArray, List.getElem?_cons_zero, List.getElem?_cons_succ]; rfl
          case hqme27 => exact fun _ _ _ h => h
          case hgme27 => rfl
          case hyme27 =>
            intro wq hSw
            replace hx0 := keep_cell hSw hx0
            replace hx1 := keep_cell hSw hx1
            go_simp
            (try with_reducible rfl)
          (try simp only [Act.put, List.setIfInBounds_toArray, List.set_cons_zero, List.set_cons_succ])
          refine wpAnyH_take (i := 9) (oi := ?oome28) (v := ?vvme28) ?hime28 (by kernel_rfl) (by kernel_rfl) (by kernel_rfl) ?hqme28 (Or.inl ⟨?hgme28, ?hyme28⟩) (by assumption) ?restme28
          case hime28 => simp only [List.getElem?_toArray, List.getElem?_cons_zero, List.getElem?_cons_succ]; rfl
          case hqme28 => exact fun _ _ _ h => h
          case hgme28 => rfl
          case hyme28 =>
            intro wq hSw
            replace hx0 := keep_cell hSw hx0
            replace hx1 := keep_cell hSw hx1
            go_simp
            (try with_reducible rfl)
          (try simp only [Act.put, List.setIfInBounds_toArray, List.set_cons_zero, List.set_cons_succ])
          refine wpAnyH_take (i := 10) (oi := ?oome29) (v := ?vvme29) ?hime29 (by kernel_rfl) (by kernel_rfl) (by kernel_rfl) ?hqme29 (Or.inl ⟨?hgme29, ?hyme29⟩) (by assumption) ?restme29
          case hime29 => simp only [List.getElem?_toArray, List.getElem?_cons_zero, List.getElem?_cons_succ]; rfl
          case hqme29 => exact fun _ _ _ h => h
          case hgme29 => rfl
          case hyme29 =>
            intro wq hSw
            replace hx0 := keep_cell hSw hx0
            replace hx1 := keep_cell hSw hx1
            go_simp
            (try with_reducible rfl)
          (try simp only [Act.put, List.setIfInBounds_toArray, List.set_cons_zero, List.set_cons_succ])
          clear hHeld
          refine wpAnyH_done (by kernel_rfl) ?_ _
          go_wp2_with fail
          go_meet
          go_split_ands
          have hW1 := HW1.out
          exact ⟨_, _, _, _, _, rfl, rfl, rfl, by simp at *; omega, by simp at *; omega, by simp at *; omega, by simp at *; omega, hown, hrS, hrT, hw⟩
        exact AllReadyH.nil
      exact AllReadyH.nil
    exact AllReadyH.nil
  case rest =>
    obtain ⟨gO, gS, gT, cS, cT, rfl, rfl, rfl, hOS, hOT, _, _, hown, hrS, hrT, hw⟩ := hcut
    clear HSu HSp HGa HSL1 HTL1 hx0 hx1 HW1
    go_wp2
    go_loopw [5, 22] (fun v i wr => ∃ j : Nat, j ≤ xs.length ∧ i = .int .i64 j ∧ wr.ownsRow (w.heap.size + 1) 43 2 v j (i64p (F j)) ∧ v.ownBlock ≠ some gS ∧ v.ownBlock ≠ some gT ∧ Row wr gS S ∧ Row wr gT TT ∧ Below w.heap.size w wr) (fun _ i _ => xs.length - (intOf i).toNat)
    case atStart => exact ⟨0, by omega, rfl, by rw [HD0.out]; exact hown, by simpa [Value.ownBlock] using hOS, by simpa [Value.ownBlock] using hOT, hrS, hrT, hw⟩
    case round =>
      clear hown hrS hrT hw hOS hOT
      obtain ⟨j, hj, rfl, hown, hneS, hneT, hrS, hrT, hw⟩ := hrel
      by_cases hlt : j < xs.length
      · have hcS := hrS.cell (j := j) (by rw [HSL.out]; exact hlt)
        have hcT := hrT.cell (j := j) (by rw [HTL.out]; exact hlt)
        have i1 : (j : Int) < S.length := by rw [HSL.out]; omega
        have i2 : (j : Int) < TT.length := by rw [HTL.out]; omega
        have b1 := hsb.out j
        have b2 := hs1.out j hlt
        have b3 := htb.out j
        have hds := HDS.out j
        rw [HDf.out j] at hds
        obtain ⟨s, hs⟩ : ∃ s, nth S j = s := ⟨_, rfl⟩
        obtain ⟨u, hu⟩ : ∃ u, nth TT j = u := ⟨_, rfl⟩
        rw [hs] at hcS b1 b2 hds
        rw [hu] at hcT b3 hds
        clear hs hu
        have hds2 : i64p (F (j + 1)) = i64p (F j) ++ [Value.int .i64 (lowX u s), Value.int .i64 (lowY u s)] := by rw [hds]; exact i64p_app _ _ _
        have HPX := Lib.hid hds2
        have HC := fun W => lowest_any u s W (by omega) (by omega) (by omega)
        have hlo := low_small (a := u) (b := s) (by omega) (by omega)
        rw [hlo.1, hlo.2.1, hlo.2.2] at HC
        clear hlo
        replace HC := Lib.hid HC
        clear hds hds2
        generalize F j = FX at *
        generalize lowX u s = a9 at *
        generalize lowY u s = b9 at *
        go_wp2_with fail
        refine (HC.out _).mono ?_
        rintro e1 w3 ⟨rfl, hb2⟩
        replace hown := own_below hown hb2
        replace hrS := hrS.below hb2
        replace hrT := hrT.below hb2
        replace hw := keep_below hb2 hw
        clear hb2
        have hwz := hw.size
        have hsz3 : (w3.alloc (.cells #[.int .i64 a9, .int .i64 b9] 43)).heap.size = w3.heap.size + 1 := by simp
        replace hown := hown.alloc (.cells #[.int .i64 a9, .int .i64 b9] 43)
        replace hrS := hrS.alloc (.cells #[.int .i64 a9, .int .i64 b9] 43)
        replace hrT := hrT.alloc (.cells #[.int .i64 a9, .int .i64 b9] 43)
        replace hw := hw.alloc hw.size (.cells #[.int .i64 a9, .int .i64 b9] 43)
        have hcn := cells2_new (w3.alloc (.cells #[.int .i64 a9, .int .i64 b9] 43)) (.int .i64 a9) (.int .i64 b9) 43
        rw [hsz3] at hcn
        go_wp2_with (at_builtin; ((refine wpList_append_own_at _ rfl _ _ 36 rfl (w.heap.size + 1) 43 i0 (.agg #[.int .i64 0, .int .i64 0]) 2 16 Try.underlying36 hi hz0 hz1 hz2 rfl (by decide) _ _ _ rfl (hown.alloc _) ⟨w3.heap.size + 1, 0, none⟩ 1 1 [.int .i64 (a9), .int .i64 (b9)] rfl rfl hcn (by simp [Value.oneCell']) (by unfold maxLen; omega) (by omega) (by simp; omega) ?_); intro v' w1 hown1 hgrow _ hat))
        have hrS1 := (hrS.alloc _).grown hgrow (fun h => hneS (by exact h.symm))
        have hrT1 := (hrT.alloc _).grown hgrow (fun h => hneT (by exact h.symm))
        have hlS := hrS.lt
        have hlT := hrT.lt
        have hne1 : v'.ownBlock ≠ some gS := by
          rcases hat with e | e
          · rw [e]; exact hneS
          · rw [e]; intro h'; injection h' with h'; simp at h' hlS; omega
        have hne2 : v'.ownBlock ≠ some gT := by
          rcases hat with e | e
          · rw [e]; exact hneT
          · rw [e]; intro h'; injection h' with h'; simp at h' hlT; omega
        have hb3 : Below w.heap.size w w1 := Below.grown (hw.alloc hw.size _) hgrow (by have := hw.size; simp at *; omega) (fun g hg => by have := (hown.lt g hg).1; omega)
        rw [← HPX.out] at hown1
        clear hown hgrow hw HPX hat hrS hrT hneS hneT
        go_wp2
        go_roundw
        case rel => exact ⟨j + 1, by omega, by go_num, hown1, hne1, hne2, hrS1, hrT1, hb3⟩
        case measure => simp only [intOf]; omega
      · have hkn : j = xs.length := by omega
        rw [hkn] at hown
        obtain ⟨A', c', rfl, hO⟩ := own_form2 hown
        have hll := Lib.hid (HDL.out xs.length)
        have i3 : ¬ ((j : Int) < S.length) := by rw [HSL.out]; omega
        have i4 : ¬ ((j : Int) < TT.length) := by rw [HTL.out]; omega
        clear hkn hown HDL HDS hrS hrT hneS hneT
        go_wp2
        go_ret
        exact ⟨A', c', rfl, hO.mono (by omega), hw⟩
set_option maxHeartbeats 1000000 in
set_option maxRecDepth 100000 in
theorem specMeansOf_any (A B : Option Addr) (c e : Nat) (xs ys : List Int) (P : Option Addr) (cp : Nat) (ps : List Int) (w : World) (h : IntS w A xs) (k : IntS w B ys) (zp : IntS w P ps) (_hx : Bd xs) (_hy : Bd ys) (_bp : Bd ps) (hn : xs.length ≤ 1048576) (hm : ys.length ≤ 1048576) (lp : ps.length ≤ 1048576) :
    Calls Try.prog 29 #[.agg #[.slice A xs.length c, .slice B ys.length e], .slice P ps.length cp] w (RetPB w (mnsR xs ys ps) (mnsOk xs ys ps)) := by
  obtain ⟨r1, q1⟩ : ∃ r, (good xs ys && payB xs ps) = r := ⟨_, rfl⟩
  cases r1
  case false =>
    have hO : mnsOk xs ys ps = false := by unfold mnsOk ; simp [q1]
    have hV_mnsR := mnsR_no hO
    rw [hV_mnsR]
    (try rw [hO])
    clear hO hV_mnsR
    have HG1 := Lib.hid (fun W (h : IntS W A xs) (k : IntS W B ys) (zp : IntS W P ps) => l2Pays_any A B P c e cp xs ys ps W h k zp _hx _hy hn hm lp)
    rw [q1] at HG1
    clear q1 _hx _hy _bp
    go_enter Try.func29, Try.ntmps29
    go_wp2_with fail
    refine (HG1.out _ (h.alloc _) (k.alloc _) (zp.alloc _)).mono ?_
    rintro e1 w1 ⟨rfl, hb⟩
    have hx0 : w1.cell? ⟨w.heap.size, 0, none⟩ = some (.slice A xs.length c) := keep_cell hb (by simp)
    have hx1 : w1.cell? ⟨w.heap.size, 1, none⟩ = some (.slice B ys.length e) := keep_cell hb (by simp)
    have hw : Below w.heap.size w w1 := below_alloc (hb)
    clear hb
    go_wp2
    go_ret2
    exact ⟨_, _, rfl, .inr ⟨_, rfl, hw.size, ⟨#[], heap_alloc_new _ _, [], rfl⟩⟩, keep_below_alloc hw _⟩
  case true =>
    have hO : mnsOk xs ys ps = true := by unfold mnsOk ; simp [q1]
    have hV_mnsR := mnsR_yes hO
    rw [hV_mnsR]
    (try rw [hO])
    clear hO hV_mnsR
    have HG1 := Lib.hid (fun W (h : IntS W A xs) (k : IntS W B ys) (zp : IntS W P ps) => l2Pays_any A B P c e cp xs ys ps W h k zp _hx _hy hn hm lp)
    rw [q1] at HG1
    have HD := Lib.hid (fun W (h : IntS W A xs) (k : IntS W B ys) (zp : IntS W P ps) => l2Means_good (Bool.and_eq_true_iff.1 q1).1 A B P c e cp ps W h k zp (Bool.and_eq_true_iff.1 q1).2)
    generalize mnsK xs ys ps xs.length = L at *
    clear q1 _hx _hy _bp
    go_enter Try.func29, Try.ntmps29
    go_wp2_with fail
    refine (HG1.out _ (h.alloc _) (k.alloc _) (zp.alloc _)).mono ?_
    rintro e1 w1 ⟨rfl, hb⟩
    have hx0 : w1.cell? ⟨w.heap.size, 0, none⟩ = some (.slice A xs.length c) := keep_cell hb (by simp)
    have hx1 : w1.cell? ⟨w.heap.size, 1, none⟩ = some (.slice B ys.length e) := keep_cell hb (by simp)
    have hw : Below w.heap.size w w1 := below_alloc (hb)
    clear hb
    go_wp2_with fail
    refine (HD.out _ (h.below hw) (k.below hw) (zp.below hw)).mono ?_
    rintro e1 w9 ⟨A1, c1, rfl, ho, hb1⟩
    go_wp2
    go_ret2
    exact ⟨A1, c1, rfl, ho.mono hw.size, keep_below hb1 hw⟩
set_option maxHeartbeats 1000000 in
set_option maxRecDepth 100000 in
theorem implMeansOf_any (A B : Option Addr) (c e : Nat) (xs ys : List Int) (P : Option Addr) (cp : Nat) (ps : List Int) (w : World) (h : IntS w A xs) (k : IntS w B ys) (zp : IntS w P ps) (_hx : Bd xs) (_hy : Bd ys) (_bp : Bd ps) (hn : xs.length ≤ 1048576) (hm : ys.length ≤ 1048576) (lp : ps.length ≤ 1048576) :
    Calls Try.prog 30 #[.agg #[.slice A xs.length c, .slice B ys.length e], .slice P ps.length cp] w (RetPB w (mnsR xs ys ps) (mnsOk xs ys ps)) := by
  obtain ⟨r1, q1⟩ : ∃ r, (good xs ys) = r := ⟨_, rfl⟩
  cases r1
  case false =>
    have hO : mnsOk xs ys ps = false := by unfold mnsOk ; simp [q1]
    have hV_mnsR := mnsR_no hO
    rw [hV_mnsR]
    (try rw [hO])
    clear hO hV_mnsR
    have HG1 := Lib.hid (fun W (h : IntS W A xs) (k : IntS W B ys) => isTree_any A B c e xs ys W h k _hx _hy hn hm)
    rw [q1] at HG1
    clear q1 _hx _hy _bp
    go_enter Try.func30, Try.ntmps30
    go_wp2_with fail
    refine (HG1.out _ (h.alloc _) (k.alloc _)).mono ?_
    rintro e1 w1 ⟨rfl, hb⟩
    have hx0 : w1.cell? ⟨w.heap.size, 0, none⟩ = some (.slice A xs.length c) := keep_cell hb (by simp)
    have hx1 : w1.cell? ⟨w.heap.size, 1, none⟩ = some (.slice B ys.length e) := keep_cell hb (by simp)
    have hw : Below w.heap.size w w1 := below_alloc (hb)
    clear hb
    go_wp2
    go_ret2
    exact ⟨none, 0, rfl, .inl ⟨rfl, rfl⟩, hw⟩
  case true =>
    obtain ⟨r2, q2⟩ : ∃ r, (payB xs ps) = r := ⟨_, rfl⟩
    cases r2
    case false =>
      have hO : mnsOk xs ys ps = false := by unfold mnsOk ; simp [q1, q2]
      have hV_mnsR := mnsR_no hO
      rw [hV_mnsR]
      (try rw [hO])
      clear hO hV_mnsR
      have HG1 := Lib.hid (fun W (h : IntS W A xs) (k : IntS W B ys) => isTree_any A B c e xs ys W h k _hx _hy hn hm)
      rw [q1] at HG1
      have HG2 := Lib.hid (fun W (h : IntS W A xs) (zp : IntS W P ps) => arePays_good q1 A B P c ys.length e cp ps W h zp lp)
      rw [q2] at HG2
      clear q1 q2 _hx _hy _bp
      go_enter Try.func30, Try.ntmps30
      go_wp2_with fail
      refine (HG1.out _ (h.alloc _) (k.alloc _)).mono ?_
      rintro e1 w1 ⟨rfl, hb⟩
      have hx0 : w1.cell? ⟨w.heap.size, 0, none⟩ = some (.slice A xs.length c) := keep_cell hb (by simp)
      have hx1 : w1.cell? ⟨w.heap.size, 1, none⟩ = some (.slice B ys.length e) := keep_cell hb (by simp)
      have hw : Below w.heap.size w w1 := below_alloc (hb)
      clear hb
      go_wp2_with fail
      refine (HG2.out _ (h.below hw) (zp.below hw)).mono ?_
      rintro e1 w2 ⟨rfl, hb⟩
      replace hx0 := keep_cell hb hx0
      replace hx1 := keep_cell hb hx1
      replace hw := keep_below hb hw
      clear hb
      go_wp2
      go_ret2
      exact ⟨none, 0, rfl, .inl ⟨rfl, rfl⟩, hw⟩
    case true =>
      have hO : mnsOk xs ys ps = true := by unfold mnsOk ; simp [q1, q2]
      have hV_mnsR := mnsR_yes hO
      rw [hV_mnsR]
      (try rw [hO])
      clear hO hV_mnsR
      have HG1 := Lib.hid (fun W (h : IntS W A xs) (k : IntS W B ys) => isTree_any A B c e xs ys W h k _hx _hy hn hm)
      rw [q1] at HG1
      have HG2 := Lib.hid (fun W (h : IntS W A xs) (zp : IntS W P ps) => arePays_good q1 A B P c ys.length e cp ps W h zp lp)
      rw [q2] at HG2
      have HD := Lib.hid (fun W (h : IntS W A xs) (k : IntS W B ys) (zp : IntS W P ps) => means_good q1 A B P c e cp ps W h k zp q2)
      generalize mnsK xs ys ps xs.length = L at *
      clear q1 q2 _hx _hy _bp
      go_enter Try.func30, Try.ntmps30
      go_wp2_with fail
      refine (HG1.out _ (h.alloc _) (k.alloc _)).mono ?_
      rintro e1 w1 ⟨rfl, hb⟩
      have hx0 : w1.cell? ⟨w.heap.size, 0, none⟩ = some (.slice A xs.length c) := keep_cell hb (by simp)
      have hx1 : w1.cell? ⟨w.heap.size, 1, none⟩ = some (.slice B ys.length e) := keep_cell hb (by simp)
      have hw : Below w.heap.size w w1 := below_alloc (hb)
      clear hb
      go_wp2_with fail
      refine (HG2.out _ (h.below hw) (zp.below hw)).mono ?_
      rintro e1 w2 ⟨rfl, hb⟩
      replace hx0 := keep_cell hb hx0
      replace hx1 := keep_cell hb hx1
      replace hw := keep_below hb hw
      clear hb
      go_wp2_with fail
      refine (HD.out _ (h.below hw) (k.below hw) (zp.below hw)).mono ?_
      rintro e1 w9 ⟨A1, c1, rfl, ho, hb1⟩
      go_wp2
      go_ret2
      exact ⟨A1, c1, rfl, ho.mono hw.size, keep_below hb1 hw⟩
end Go.Proofs.Ytkbjocndkopjiaa
