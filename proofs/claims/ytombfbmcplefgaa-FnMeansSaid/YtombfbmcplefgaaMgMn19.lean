/- Plain: ascending lists. -/
import Derived.StillTailTactics
import Derived.StillTactics
import Derived.Test.YtombfbmcplefgaaMgMn9
import Derived.Test.YtombfbmcplefgaaMgMn17
import Derived.Test.YtombfbmcplefgaaMgMn10
import Derived.Test.YtombfbmcplefgaaMgMn2
import Derived.Test.YtombfbmcplefgaaMgMn7
import Derived.Test.YtombfbmcplefgaaMgMn5
namespace Go.Proofs.Ytombfbmcplefgaa
open Go.ChangeShapes Go.WideShapes Go.ChangeAt Go.RowKit

def Asc (L : List Int) : Prop := L.Pairwise (· < ·)
theorem asc_ext : ∀ {L M : List Int}, Asc L → Asc M → (∀ v, v ∈ L ↔ v ∈ M) → L = M
  | [], [], _, _, _ => rfl
  | [], b :: M, _, _, h => by have := (h b).2 (by simp); cases this
  | a :: L, [], _, _, h => by have := (h a).1 (by simp); cases this
  | a :: L, b :: M, hL, hM, h => by
    have hL' := List.pairwise_cons.1 hL
    have hM' := List.pairwise_cons.1 hM
    have hab : a = b := by
      have h1 := (h a).1 (by simp)
      have h2 := (h b).2 (by simp)
      rcases List.mem_cons.1 h1 with e | h1
      · exact e
      · rcases List.mem_cons.1 h2 with e | h2
        · exact e.symm
        · have := hL'.1 b h2; have := hM'.1 a h1; omega
    subst hab
    rw [asc_ext hL'.2 hM'.2 fun v => ?_]
    have hv := h v
    constructor
    · intro hm
      have := hL'.1 v hm
      rcases List.mem_cons.1 (hv.1 (List.mem_cons_of_mem _ hm)) with e | hm'
      · omega
      · exact hm'
    · intro hm
      have := hM'.1 v hm
      rcases List.mem_cons.1 (hv.2 (List.mem_cons_of_mem _ hm)) with e | hm'
      · omega
      · exact hm'
theorem nth_get {L : List Int} {j : Nat} (h : j < L.length) : nth L j = L[j] := by simp [nth, List.getD, h]
theorem asc_rise {L : List Int} : riseB L = true ↔ Asc L := by
  constructor
  · intro h
    refine List.pairwise_iff_getElem.2 fun i j hi hj hij => ?_
    have := rise_lt h hij hj
    rwa [nth_get hi, nth_get hj] at this
  · intro h
    refine riseB_yes fun j hj => ?_
    rw [nth_get (by omega), nth_get hj]
    exact List.pairwise_iff_getElem.1 h j (j + 1) (by omega) hj (by omega)
theorem hasB_mem {L : List Int} {v : Int} : hasB L v = true ↔ v ∈ L := by
  rw [hasB_iff]
  constructor
  · rintro ⟨j, hj, he⟩; rw [← he]; exact nth_mem hj
  · exact fun h => mem_nth h
theorem both_mem {L M : List Int} {v : Int} : v ∈ bothL L M ↔ v ∈ L ∧ v ∈ M := by
  unfold bothL; rw [List.mem_filter, hasB_mem]
theorem asc_both {L : List Int} (h : Asc L) (M : List Int) : Asc (bothL L M) := List.Pairwise.filter _ h
theorem both_comm {L M : List Int} (hL : Asc L) (hM : Asc M) : bothL L M = bothL M L :=
  asc_ext (asc_both hL M) (asc_both hM L) fun v => by rw [both_mem, both_mem, and_comm]
theorem asc_way {xs : List Int} (hu : ∀ j, 1 ≤ j → j < xs.length → ∃ p : Nat, nth xs j = p ∧ p < j) : ∀ x, x < xs.length → Asc (wayL xs x) := by
  intro x
  induction x using Nat.strongRecOn with
  | ind x ih =>
    intro hx
    by_cases h0 : x = 0
    · subst h0; rw [way_zero]; exact List.pairwise_singleton _ _
    · obtain ⟨p, hp, hpx⟩ := hu x (by omega) hx
      rw [way_step hu (by omega) hx hp hpx]
      refine List.pairwise_append.2 ⟨ih p hpx (by omega), List.pairwise_singleton _ _, fun a ha b hb => ?_⟩
      have hb' : b = (x : Int) := by simpa using hb
      obtain ⟨q, hq, hqp⟩ := up_mem hu p (by omega) a (by unfold wayL at ha; exact List.mem_reverse.1 ha)
      omega
theorem asc_pick (f : Nat → Bool) (n : Nat) : Asc (pick f n) := by
  unfold pick
  refine List.Pairwise.map _ (fun a b h => ?_) (List.Pairwise.filter _ List.pairwise_lt_range)
  show (a : Int) < b
  omega
theorem mem_pick {f : Nat → Bool} {n : Nat} {v : Int} : v ∈ pick f n ↔ ∃ x : Nat, v = x ∧ x < n ∧ f x = true := by
  unfold pick
  rw [List.mem_map]
  constructor
  · rintro ⟨x, hx, rfl⟩
    have := List.mem_filter.1 hx
    exact ⟨x, rfl, List.mem_range.1 this.1, this.2⟩
  · rintro ⟨x, rfl, hx, hf⟩
    exact ⟨x, List.mem_filter.2 ⟨List.mem_range.2 hx, hf⟩, rfl⟩
end Go.Proofs.Ytombfbmcplefgaa
/- Contracts: drifts. -/
namespace Go.Proofs.Ytombfbmcplefgaa
open Go.ChangeShapes Go.WideShapes Go.ChangeAt Go.RowKit

set_option maxHeartbeats 2000000 in
set_option maxRecDepth 100000 in
theorem l3Drift_good {xs ys : List Int} (hg : good xs ys = true) (A B P : Option Addr) (c e cp x : Nat) (ps : List Int) (w : World) (h : IntS w A xs) (k : IntS w B ys) (zp : IntS w P ps) (hpl : ps.length = xs.length) (hp : ∀ j, -999 ≤ nth ps j ∧ nth ps j ≤ 999) (hx : x < xs.length) :
    Calls Try.prog 146 #[.agg #[.slice A xs.length c, .slice B ys.length e], .slice P ps.length cp, .int .i64 x] w fun e1 w' => e1 = .returned (.agg #[.int .i64 (dftP xs ys ps x).1, .int .i64 (dftP xs ys ps x).2]) ∧ Below w.heap.size w w' := by
  have hgl := good_len hg
  have HK := fun W (h : IntS W A xs) => l2Kids_any A B c ys.length e x xs W h (by omega) hx
  rw [kid_same hg x] at HK
  change ∀ W (h : IntS W A xs), Calls _ _ _ W (RetI W (kidsL xs x)) at HK
  replace HK := Lib.hid HK
  have HSu := Lib.hid (fun W (h : IntS W A xs) (k : IntS W B ys) => l2Sums_good hg A B c e W h k)
  have hsl := sums_len hg
  have hs1 := sums_one hg hx
  have hsb := Lib.hid (fun j => sums_bd hg j)
  have hdb := dft_bd hg hp x
  have HP := Lib.hid hp
  have hkl := kids_len xs x
  have HMem : Hid (∀ j, j < (kidsL xs x).length → ∃ y : Nat, nth (kidsL xs x) j = y ∧ y < xs.length) := fun j hj => by obtain ⟨y, h1, h2, _⟩ := pick_mem hj; exact ⟨y, h1, h2⟩
  have HLeaf : Hid ((kidsL xs x).length = 0 → dftP xs ys ps x = (0, 1)) := dft_leaf hg hx
  have HIn : Hid (1 ≤ (kidsL xs x).length → lsum (fun y => nth (sumsL xs ys) y.toNat * nth ps y.toNat) (kidsL xs x) - nth (sumsL xs ys) x * nth ps x = dftN xs ys ps x) := dft_spec hg hx
  have HD : Hid (dftP xs ys ps x = (lowX (dftN xs ys ps x) (nth (sumsL xs ys) x), lowY (dftN xs ys ps x) (nth (sumsL xs ys) x))) := rfl
  have hsbx := sums_bd hg x
  have HC := Lib.hid (fun W => l2Cut_any (dftN xs ys ps x) (nth (sumsL xs ys) x) W (by omega) (by omega) (by omega))
  obtain ⟨n, e1⟩ : ∃ n, xs.length = n := ⟨_, rfl⟩
  have e2 : ys.length = n := by rw [hgl.2.2]; exact e1
  have e3 : ps.length = n := by rw [hpl]; exact e1
  simp only [e1, e2, e3] at HK HSu HMem hkl hgl hx ⊢
  have HPL := Lib.hid e3.symm
  have HSL : Hid ((sumsL xs ys).length = n) := by show _ = _; rw [hsl]; exact e1
  obtain ⟨g1, g2, _⟩ := hgl
  clear e1 e2 e3 hpl hp hg hsl hsbx
  generalize dftP xs ys ps x = DP at *
  generalize dftN xs ys ps x = DN at *
  generalize kidsL xs x = K at *
  generalize sumsL xs ys = S at *
  have n1 := g1
  go_enter Try.func146, Try.ntmps146
  obtain ⟨w0, hw0⟩ : ∃ w0, w0 = (w.alloc (.cells #[.slice A n c, .slice B n e] 28)).alloc (.cells #[.int .i64 0, .int .i64 0] 51) := ⟨_, rfl⟩
  have hx0 : w0.cell? ⟨w.heap.size, 0, none⟩ = some (.slice A n c) := by rw [hw0]; simp
  have hx1 : w0.cell? ⟨w.heap.size, 1, none⟩ = some (.slice B n e) := by rw [hw0]; simp
  have hr0 : w0.cell? ⟨w.heap.size + 1, 0, none⟩ = some (.int .i64 0) := by rw [hw0]; simp
  have hr1 : w0.cell? ⟨w.heap.size + 1, 1, none⟩ = some (.int .i64 0) := by rw [hw0]; simp
  have hf0 : w0.frozen? ⟨w.heap.size + 1, 0, none⟩ = false := by rw [hw0]; simp
  have hf1 : w0.frozen? ⟨w.heap.size + 1, 1, none⟩ = false := by rw [hw0]; simp
  have hw : Below w.heap.size w w0 := by rw [hw0]; (repeat (first | with_reducible exact Below.refl _ _ | with_reducible assumption | with_reducible refine Below.alloc' ?_ ?_ _ | with_reducible refine Below.setCell' ?_ ?_ _ | with_reducible refine Below.drewN' ?_ _ | with_reducible refine Below.drew ?_ | with_reducible refine Below.transA ?_ (by assumption) ?_ | omega | (focus (simp; done)) | (focus (simp; omega))))
  have HW0 := Lib.hid hw0
  clear hw0
  go_wp2
  rw [← HW0.out]
  clear HW0
  refine wp_region_held_drew (S := fun w' => Below w0.heap.size w0 w') (by kernel_rfl) ((Below.refl _ _)).drew (fun hHeld => ?_)
  replace hw := hw.drew
  refine wpAnyH_take (i := 0) (oi := ?oo1) (v := ?vv1) ?hi1 (by kernel_rfl) (by kernel_rfl) (by kernel_rfl) ?hq1 (Or.inl ⟨?hg1, ?hy1⟩) (by assumption) ?rest1
  case hi1 => simp only [List.getElem?_toArray, List.getElem?_cons_zero]; rfl
  case hq1 => exact fun _ _ _ h => h
  case hg1 => rfl
  case hy1 =>
    intro wq hSw
    replace hx0 := keep_cell hSw hx0
    replace hx1 := keep_cell hSw hx1
    replace hr0 := keep_cell hSw hr0
    replace hr1 := keep_cell hSw hr1
    go_simp
    (try with_reducible rfl)
  (try simp only [Act.put, List.setIfInBounds_toArray, List.set_cons_zero, List.set_cons_succ])
  refine wpAnyH_take (i := 1) (oi := ?oo2) (v := ?vv2) ?hi2 (by kernel_rfl) (by kernel_rfl) (by kernel_rfl) ?hq2 (Or.inl ⟨?hg2, ?hy2⟩) (by assumption) ?rest2
  case hi2 => simp only [List.getElem?_toArray, List.getElem?_cons_zero, List.getElem?_cons_succ]; rfl
  case hq2 => exact fun _ _ _ h => h
  case hg2 => rfl
  case hy2 =>
    intro wq hSw
    replace hx0 := keep_cell hSw hx0
    replace hx1 := keep_cell hSw hx1
    replace hr0 := keep_cell hSw hr0
    replace hr1 := keep_cell hSw hr1
    go_simp
    (try with_reducible rfl)
  (try simp only [Act.put, List.setIfInBounds_toArray, List.set_cons_zero, List.set_cons_succ])
  refine wpAnyH_take (i := 3) (oi := ?oo3) (v := ?vv3) ?hi3 (by kernel_rfl) (by kernel_rfl) (by kernel_rfl) ?hq3 (Or.inl ⟨?hg3, ?hy3⟩) (by assumption) ?rest3
  case hi3 => simp only [List.getElem?_toArray, List.getElem?_cons_zero, List.getElem?_cons_succ]; rfl
  case hq3 => exact fun _ _ _ h => h
  case hg3 => rfl
  case hy3 =>
    intro wq hSw
    replace hx0 := keep_cell hSw hx0
    replace hx1 := keep_cell hSw hx1
    replace hr0 := keep_cell hSw hr0
    replace hr1 := keep_cell hSw hr1
    go_simp
    (try with_reducible rfl)
  (try simp only [Act.put, List.setIfInBounds_toArray, List.set_cons_zero, List.set_cons_succ])
  refine wpAnyH_ready (rs := [2]) (by kernel_rfl) (by simp) ?_
  refine AllReadyH.cons (i := 2) (o := ?oo4) ?ho4 (fun K hK => ?hstep4) AllReadyH.nil
  case ho4 => simp only [List.getElem?_toArray, List.getElem?_cons_zero, List.getElem?_cons_succ]; rfl
  go_simp
  refine (HK.out _ (h.below hw)).mono ?_
  rintro e1 wz ⟨A1, c1, rfl, hok, hb⟩
  go_wp2_with fail
  refine hK.out _ _ (keep_below hb hHeld) (fun _ => ?_)
  clear hK K
  (try simp only [Act.put, List.setIfInBounds_toArray, List.set_cons_zero, List.set_cons_succ])
  refine wpAnyH_mono (S' := fun w' => Below wz.heap.size wz w') (fun _ h => keep_below h (keep_below hb hHeld)) _ _ _ _ ?_
  replace hw := keep_below hb hw
  replace hf0 := keep_froz2 hb hr0 hf0
  replace hf1 := keep_froz2 hb hr1 hf1
  replace hx0 := keep_cell hb hx0
  replace hx1 := keep_cell hb hx1
  replace hr0 := keep_cell hb hr0
  replace hr1 := keep_cell hb hr1
  clear hHeld hb
  have hHeld : Below wz.heap.size wz wz := (Below.refl _ _)
  refine wpAnyH_ready (rs := [4]) (by kernel_rfl) (by simp) ?_
  refine AllReadyH.cons (i := 4) (o := ?oo5) ?ho5 (fun K hK => ?hstep5) AllReadyH.nil
  case ho5 => simp only [List.getElem?_toArray, List.getElem?_cons_zero, List.getElem?_cons_succ]; rfl
  go_simp
  refine (HSu.out _ (h.below hw) (k.below hw)).mono ?_
  rintro e1 wz ⟨As, cs, rfl, hos, hb⟩
  replace hok := hok.below hb
  go_wp2_with fail
  refine hK.out _ _ (keep_below hb hHeld) (fun _ => ?_)
  clear hK K
  (try simp only [Act.put, List.setIfInBounds_toArray, List.set_cons_zero, List.set_cons_succ])
  refine wpAnyH_mono (S' := fun w' => Below wz.heap.size wz w') (fun _ h => keep_below h (keep_below hb hHeld)) _ _ _ _ ?_
  replace hw := keep_below hb hw
  replace hf0 := keep_froz2 hb hr0 hf0
  replace hf1 := keep_froz2 hb hr1 hf1
  replace hx0 := keep_cell hb hx0
  replace hx1 := keep_cell hb hx1
  replace hr0 := keep_cell hb hr0
  replace hr1 := keep_cell hb hr1
  clear hHeld hb
  have hHeld : Below wz.heap.size wz wz := (Below.refl _ _)
  refine wpAnyH_take (i := 5) (oi := ?oo6) (v := ?vv6) ?hi6 (by kernel_rfl) (by kernel_rfl) (by kernel_rfl) ?hq6 (Or.inl ⟨?hg6, ?hy6⟩) (by assumption) ?rest6
  case hi6 => simp only [List.getElem?_toArray, List.getElem?_cons_zero, List.getElem?_cons_succ]; rfl
  case hq6 => exact fun _ _ _ h => h
  case hg6 => rfl
  case hy6 =>
    intro wq hSw
    replace hx0 := keep_cell hSw hx0
    replace hx1 := keep_cell hSw hx1
    replace hr0 := keep_cell hSw hr0
    replace hr1 := keep_cell hSw hr1
    go_simp
    (try with_reducible rfl)
  (try simp only [Act.put, List.setIfInBounds_toArray, List.set_cons_zero, List.set_cons_succ])
  refine wpAnyH_take (i := 6) (oi := ?oo7) (v := ?vv7) ?hi7 (by kernel_rfl) (by kernel_rfl) (by kernel_rfl) ?hq7 (Or.inl ⟨?hg7, ?hy7⟩) (by assumption) ?rest7
  case hi7 => simp only [List.getElem?_toArray, List.getElem?_cons_zero, List.getElem?_cons_succ]; rfl
  case hq7 => exact fun _ _ _ h => h
  case hg7 => rfl
  case hy7 =>
    intro wq hSw
    replace hx0 := keep_cell hSw hx0
    replace hx1 := keep_cell hSw hx1
    replace hr0 := keep_cell hSw hr0
    replace hr1 := keep_cell hSw hr1
    go_simp
    (try with_reducible rfl)
  (try simp only [Act.put, List.setIfInBounds_toArray, List.set_cons_zero, List.set_cons_succ])
  clear hHeld
  refine wpAnyH_done (by kernel_rfl) ?_ _
  obtain ⟨gS, rfl, hgS, hrS⟩ := hos.pos (by rw [HSL.out]; exact g1)
  clear hos hgS
  by_cases hk0 : K.length = 0
  · have hd := HLeaf.out hk0
    have hz : ((K.length : Int) == 0) = true := by rw [beq_iff_eq]; omega
    subst hd
    clear hk0 HIn HC HD HLeaf hrS hok
    go_wp2
    refine bodyPost_ret (v := .agg #[.int .i64 0, .int .i64 1]) (by simp (maxDischargeDepth := 9) [results, Try.results146, go_sem, *]) rfl ⟨rfl, ?_⟩
    (repeat (first | with_reducible exact Below.refl _ _ | with_reducible assumption | with_reducible refine Below.alloc' ?_ ?_ _ | with_reducible refine Below.setCell' ?_ ?_ _ | with_reducible refine Below.drewN' ?_ _ | with_reducible refine Below.drew ?_ | with_reducible refine Below.transA ?_ (by assumption) ?_ | omega | (focus (simp; done)) | (focus (simp; omega))))
  · have hk1 : 1 ≤ K.length := by omega
    have hz : ((K.length : Int) == 0) = false := by rw [beq_eq_false_iff_ne]; omega
    obtain ⟨gK, rfl, hgK, hrK⟩ := hok.pos hk1
    have hin := HIn.out hk1
    have hd := HD.out
    subst hd
    clear hk0 HIn HD HLeaf hok hgK
    have HT := Lib.hid (fun j (hj : j < K.length) => lsum_take (fun y => nth S y.toNat * nth ps y.toNat) hj)
    have HB := Lib.hid (fun j => lsum_bd (fun y => nth S y.toNat * nth ps y.toNat) (M := 479520) (fun y => by
      have h1 := hsb.out y.toNat
      have h2 := HP.out y.toNat
      have := mul_bd (A := 480) (D := 999) (a := nth S y.toNat) (d := nth ps y.toNat) (by omega) h2
      omega) (K.take j))
    have HF : Hid (lsum (fun y => nth S y.toNat * nth ps y.toNat) (K.take K.length) - nth S x * nth ps x = DN) := by show _ = _; rw [List.take_length]; exact hin
    have H0 : Hid (lsum (fun y => nth S y.toNat * nth ps y.toNat) (K.take 0) = 0) := rfl
    have HFn : Hid (∀ y : Nat, (fun y : Int => nth S y.toNat * nth ps y.toNat) (y : Int) = nth S y * nth ps y) := fun y => rfl
    clear hin
    generalize hL : lsum (fun y => nth S y.toNat * nth ps y.toNat) = L at *
    clear hL
    go_wp2
    go_loopw [9, 10] (fun sv i wr => ∃ j : Nat, j ≤ K.length ∧ i = .int .i64 j ∧ sv = .int .i64 (L (K.take j)) ∧ Row wr gK K ∧ Row wr gS S ∧ wr.cell? ⟨w.heap.size + 1, 0, none⟩ = some (.int .i64 0) ∧ wr.cell? ⟨w.heap.size + 1, 1, none⟩ = some (.int .i64 0) ∧ wr.frozen? ⟨w.heap.size + 1, 0, none⟩ = false ∧ wr.frozen? ⟨w.heap.size + 1, 1, none⟩ = false ∧ Below w.heap.size w wr) (fun _ i _ => K.length - (intOf i).toNat)
    case atStart => exact ⟨0, by omega, rfl, by rw [H0.out], hrK, hrS, hr0, hr1, hf0, hf1, hw⟩
    case round =>
      clear hrK hrS hr0 hr1 hf0 hf1 hw hx0 hx1
      obtain ⟨j, hj, rfl, rfl, hrK, hrS, hr0, hr1, hf0, hf1, hw⟩ := hrel
      have hbd := HB.out j
      have htl : ((K.take j).length : Int) ≤ 24 := by have := List.length_take_le j K; omega
      have hbd2 : ((479520 : Nat) : Int) * ((K.take j).length : Int) ≤ 479520 * 24 := Int.mul_le_mul_of_nonneg_left htl (by omega)
      by_cases hlt : j < K.length
      · obtain ⟨y, hy, hyn⟩ := HMem.out j hlt
        have hcK := hrK.cell hlt
        have hcS := hrS.cell (j := y) (by rw [HSL.out]; exact hyn)
        obtain ⟨b, o, rfl, hcp⟩ := (zp.below hw).at_ (j := y) (by rw [← HPL.out]; exact hyn)
        have hs := hsb.out y
        have hpy := HP.out y
        have ht := HT.out j hlt
        rw [hy] at hcK ht
        rw [HFn.out y] at ht
        obtain ⟨a, ha⟩ : ∃ a, nth S y = a := ⟨_, rfl⟩
        obtain ⟨q, hq⟩ : ∃ q, nth ps y = q := ⟨_, rfl⟩
        rw [ha, hq] at ht
        rw [ha] at hcS hs
        rw [hq] at hcp hpy
        have hm := mul_bd (A := 480) (D := 999) (a := a) (d := q) (by omega) hpy
        obtain ⟨m, hme⟩ : ∃ m, a * q = m := ⟨_, rfl⟩
        rw [hme] at ht hm
        have HTT := Lib.hid ht
        generalize L (K.take j) = sv at *
        have u1 : IntKind.i64.wrap (a * q) = m := by rw [hme]; exact IntWalk.i64_in _ (by omega)
        have u2 : IntKind.i64.wrap (sv + m) = sv + m := IntWalk.i64_in _ (by omega)
        have i1 : (j : Int) < K.length := by omega
        have i2 : (y : Int) < S.length := by rw [HSL.out]; omega
        have i3 : (y : Int) < n := by omega
        clear hy ha hq hme ht hbd hbd2 htl
        go_wp2
        go_still (by kernel_rfl)
        go_wp2
        go_roundw
        case rel => exact ⟨j + 1, by omega, by go_num, by rw [HTT.out], hrK, hrS, hr0, hr1, hf0, hf1, hw.drew⟩
        case measure => simp [intOf]; omega
      · have hje : j = K.length := by omega
        subst hje
        have hcS := hrS.cell (j := x) (by rw [HSL.out]; exact hx)
        obtain ⟨b, o, rfl, hcp⟩ := (zp.below hw).at_ (j := x) (by rw [← HPL.out]; exact hx)
        have hs := hsb.out x
        have hpy := HP.out x
        have hf := HF.out
        have hlS : (x : Int) < S.length := by rw [HSL.out]; omega
        have hxn : (x : Int) < n := by omega
        obtain ⟨a, ha⟩ : ∃ a, nth S x = a := ⟨_, rfl⟩
        obtain ⟨q, hq⟩ : ∃ q, nth ps x = q := ⟨_, rfl⟩
        rw [ha, hq] at hf
        rw [ha] at hcS hs HC hs1
        rw [hq] at hcp hpy
        have hm := mul_bd (A := 480) (D := 999) (a := a) (d := q) (by omega) hpy
        obtain ⟨m, hme⟩ : ∃ m, a * q = m := ⟨_, rfl⟩
        rw [hme] at hf hm
        generalize L (K.take K.length) = sv at *
        have u1 : IntKind.i64.wrap (a * q) = m := by rw [hme]; exact IntWalk.i64_in _ (by omega)
        have u2 : IntKind.i64.wrap (sv - m) = DN := by rw [hf]; exact IntWalk.i64_in _ (by omega)
        have HA := Lib.hid ha
        clear ha hq hme hf HF HT HB hbd hbd2 htl HMem hrK hrS
        go_wp2
        go_still_tail 15, (by kernel_rfl)
        change wpList _ _ _ _ _ wr.drew
        go_wp2_with fail
        refine (HC.out _).mono ?_
        rintro e1 wz ⟨rfl, hb⟩
        replace hf0 := keep_froz2 hb hr0 hf0
        replace hf1 := keep_froz2 hb hr1 hf1
        replace hr0 := keep_cell hb hr0
        replace hr1 := keep_cell hb hr1
        replace hw := keep_below hb hw.drew
        go_wp2
        refine bodyPost_ret (v := .agg #[.int .i64 (lowX DN a), .int .i64 (lowY DN a)]) (by simp (maxDischargeDepth := 9) [results, Try.results146, go_sem, *]) rfl ⟨by rw [HA.out], ?_⟩
        (repeat (first | with_reducible exact Below.refl _ _ | with_reducible assumption | with_reducible refine Below.alloc' ?_ ?_ _ | with_reducible refine Below.setCell' ?_ ?_ _ | with_reducible refine Below.drewN' ?_ _ | with_reducible refine Below.drew ?_ | with_reducible refine Below.transA ?_ (by assumption) ?_ | omega | (focus (simp; done)) | (focus (simp; omega))))
set_option maxHeartbeats 2000000 in
set_option maxRecDepth 100000 in
theorem l3Drifts_good {xs ys : List Int} (hg : good xs ys = true) (A B P : Option Addr) (c e cp : Nat) (ps : List Int) (w : World) (h : IntS w A xs) (k : IntS w B ys) (zp : IntS w P ps) (hpl : ps.length = xs.length) (hp : ∀ j, -999 ≤ nth ps j ∧ nth ps j ≤ 999) :
    Calls Try.prog 100 #[.agg #[.slice A xs.length c, .slice B ys.length e], .slice P ps.length cp] w (RetP w (dftK xs ys ps xs.length)) := by
  have hgl := good_len hg
  have HX := Lib.hid (fun W (h : IntS W A xs) (k : IntS W B ys) (zp : IntS W P ps) (x : Nat) (hx : x < xs.length) => l3Drift_good hg A B P c e cp x ps W h k zp hpl hp hx)
  have HDL := Lib.hid (fun k => dftK_len xs ys ps k)
  have HDS := Lib.hid (fun k => dftK_succ xs ys ps k)
  have HD0 : Hid (dftK xs ys ps 0 = []) := rfl
  obtain ⟨n, e1⟩ : ∃ n, xs.length = n := ⟨_, rfl⟩
  have e2 : ys.length = n := by rw [hgl.2.2]; exact e1
  have e3 : ps.length = n := by rw [hpl]; exact e1
  simp only [e1, e2, e3] at HX hgl ⊢
  obtain ⟨g1, g2, _⟩ := hgl
  clear e1 e2 e3 hpl hp hg
  generalize dftK xs ys ps = F at *
  generalize dftP xs ys ps = D at *
  obtain ⟨i0, hi, hz0, hz1, hz2⟩ := info_parts info_A2
  go_enter Try.func100, Try.ntmps100
  go_wp2
  go_loopw [5, 6] (fun v i wr => ∃ j : Nat, j ≤ n ∧ i = .int .i64 j ∧ wr.ownsRow (w.heap.size + 1) 51 2 v j (i64p (F j)) ∧ wr.cell? ⟨w.heap.size, 0, none⟩ = some (.slice A n c) ∧ wr.cell? ⟨w.heap.size, 1, none⟩ = some (.slice B n e) ∧ Below w.heap.size w wr) (fun _ i _ => n - (intOf i).toNat)
  case atStart => exact ⟨0, by omega, rfl, by rw [HD0.out]; exact own_empty2 _ _ _ (by simp) (by simp), by simp, by simp, by (repeat (first | with_reducible exact Below.refl _ _ | with_reducible assumption | with_reducible refine Below.alloc' ?_ ?_ _ | with_reducible refine Below.setCell' ?_ ?_ _ | with_reducible refine Below.drewN' ?_ _ | with_reducible refine Below.drew ?_ | with_reducible refine Below.transA ?_ (by assumption) ?_ | omega | (focus (simp; done)) | (focus (simp; omega))))⟩
  case round =>
    obtain ⟨j, hj, rfl, hown, hx0, hx1, hw⟩ := hrel
    by_cases hlt : j < n
    · have HXj := Lib.hid (fun W (h : IntS W A xs) (k : IntS W B ys) (zp : IntS W P ps) => HX.out W h k zp j hlt)
      have hds := HDS.out j
      obtain ⟨a, ha⟩ : ∃ a, (D j).1 = a := ⟨_, rfl⟩
      obtain ⟨b, hb⟩ : ∃ b, (D j).2 = b := ⟨_, rfl⟩
      have hds2 : i64p (F (j + 1)) = i64p (F j) ++ [Value.int .i64 a, Value.int .i64 b] := by rw [hds, ← ha, ← hb]; exact i64p_app _ _ _
      have HPX := Lib.hid hds2
      rw [ha, hb] at HXj
      clear hds hds2 ha hb
      generalize F j = L at *
      go_wp2_with fail
      refine (HXj.out _ (h.below hw) (k.below hw) (zp.below hw)).mono ?_
      rintro e1 w2 ⟨rfl, hb2⟩
      replace hown := own_below hown hb2
      replace hx0 := keep_cell hb2 hx0
      replace hx1 := keep_cell hb2 hx1
      replace hw := keep_below hb2 hw
      clear hb2
      have hlx : w.heap.size < w2.heap.size := World.block_lt_of_cell? _ _ hx0
      go_wp2_with (at_builtin; (refine wpList_append_own_at _ rfl _ _ 44 rfl (w.heap.size + 1) 51 i0 (.agg #[.int .i64 0, .int .i64 0]) 2 16 Try.underlying44 hi hz0 hz1 hz2 rfl (by decide) _ _ _ rfl (hown.alloc _) ⟨w2.heap.size, 0, none⟩ 1 1 [.int .i64 (a), .int .i64 (b)] rfl rfl (cells2_new _ _ _ _) (by simp [Value.oneCell']) (by unfold maxLen; omega) (by omega) (by simp; omega) ?_); intro v' w1 hown1 hgrow _ hat)
      have hxx0 := grown_cell hgrow (p := ⟨w.heap.size, 0, none⟩) (by rw [World.cell?_alloc_lt _ _ _ hlx]; exact hx0) (own_ne (g := w.heap.size) hown (by omega))
      have hxx1 := grown_cell hgrow (p := ⟨w.heap.size, 1, none⟩) (by rw [World.cell?_alloc_lt _ _ _ hlx]; exact hx1) (own_ne (g := w.heap.size) hown (by omega))
      have hb3 : Below w.heap.size w w1 := Below.grown (hw.alloc hw.size _) hgrow (by simp; omega) (fun g hg => by have := (hown.lt g hg).1; omega)
      rw [← HPX.out] at hown1
      clear hown hgrow hw HPX hx0 hx1 hat
      go_wp2
      go_roundw
      case rel => exact ⟨j + 1, by omega, by go_num, hown1, hxx0, hxx1, hb3⟩
      case measure => simp only [intOf]; omega
    · have hkn : j = n := by omega
      rw [hkn] at hown
      obtain ⟨A', c', rfl, hO⟩ := own_form2 hown
      have hll := Lib.hid (HDL.out n)
      clear hkn hown HDL HDS
      go_wp2
      go_ret
      exact ⟨A', c', rfl, hO.mono (by omega), hw⟩
set_option maxHeartbeats 4000000 in
set_option maxRecDepth 100000 in
theorem drifts_good {xs ys : List Int} (hg : good xs ys = true) (A B P : Option Addr) (c e cp : Nat) (ps : List Int) (w : World) (h : IntS w A xs) (k : IntS w B ys) (zp : IntS w P ps) (hpl : ps.length = xs.length) (hp : ∀ j, -999 ≤ nth ps j ∧ nth ps j ≤ 999) :
    Calls Try.prog 103 #[.agg #[.slice A xs.length c, .slice B ys.length e], .slice P ps.length cp] w (RetP w (dftK xs ys ps xs.length)) := by
  have hgl := good_len hg
  have HK := fun W (h : IntS W A xs) (x : Nat) => children_any A B c ys.length e (x : Int) xs W h (by omega)
  change ∀ W (h : IntS W A xs) (x : Nat), Calls _ _ _ W (RetI W (kidsL xs x)) at HK
  replace HK := Lib.hid HK
  have HSu := Lib.hid (fun W (h : IntS W A xs) (k : IntS W B ys) => sums_good hg A B c e W h k)
  have hsl := sums_len hg
  have hs1 := Lib.hid (fun x (hx : x < xs.length) => sums_one hg hx)
  have hsb := Lib.hid (fun j => sums_bd hg j)
  have hdb := Lib.hid (fun x => dft_bd hg hp x)
  have HP := Lib.hid hp
  have hkl := Lib.hid (fun x => kids_len xs x)
  have HMem : Hid (∀ x j, j < (kidsL xs x).length → ∃ y : Nat, nth (kidsL xs x) j = y ∧ y < xs.length) := fun x j hj => by obtain ⟨y, h1, h2, _⟩ := pick_mem hj; exact ⟨y, h1, h2⟩
  have HDf : Hid (∀ x, dftP xs ys ps x = (lowX (dftN xs ys ps x) (nth (sumsL xs ys) x), lowY (dftN xs ys ps x) (nth (sumsL xs ys) x))) := fun x => rfl
  have HNf : Hid (∀ x, dftN xs ys ps x = lsum (fun y => nth (sumsL xs ys) y.toNat * (nth ps y.toNat - nth ps x)) (kidsL xs x)) := fun x => rfl
  have HDL := Lib.hid (fun k => dftK_len xs ys ps k)
  have HDS := Lib.hid (fun k => dftK_succ xs ys ps k)
  have HD0 : Hid (dftK xs ys ps 0 = []) := rfl
  obtain ⟨n, e1⟩ : ∃ n, xs.length = n := ⟨_, rfl⟩
  have e2 : ys.length = n := by rw [hgl.2.2]; exact e1
  have e3 : ps.length = n := by rw [hpl]; exact e1
  simp only [e1, e2, e3] at HK HSu HMem hkl hgl hs1 ⊢
  have HPL := Lib.hid e3.symm
  have HSL : Hid ((sumsL xs ys).length = n) := by show _ = _; rw [hsl]; exact e1
  obtain ⟨g1, g2, _⟩ := hgl
  clear e1 e2 e3 hpl hp hg hsl
  generalize dftK xs ys ps = F at *
  generalize dftP xs ys ps = D at *
  generalize dftN xs ys ps = DN at *
  generalize kidsL xs = KL at *
  generalize sumsL xs ys = S at *
  obtain ⟨i0, hi, hz0, hz1, hz2⟩ := info_parts info_A2
  go_enter Try.func103, Try.ntmps103
  go_wp2_with fail
  refine (HSu.out _ ((h.alloc _).alloc _) ((k.alloc _).alloc _)).mono ?_
  rintro e1 w1 ⟨As, cs, rfl, hos, hb1⟩
  have hx0 : w1.cell? ⟨w.heap.size, 0, none⟩ = some (.slice A n c) := keep_cell hb1 (by simp)
  have hx1 : w1.cell? ⟨w.heap.size, 1, none⟩ = some (.slice B n e) := keep_cell hb1 (by simp)
  have hown0 := own_below (own_empty2 (w.alloc (.cells #[.slice A n c, .slice B n e] 28)) (w.heap.size + 1) (w.heap.size + 1) (by simp) (by simp)) hb1
  have hw : Below w.heap.size w w1 := below_alloc (below_alloc hb1)
  obtain ⟨gS, rfl, hgS, hrS⟩ := hos.pos (by rw [HSL.out]; exact g1)
  replace hgS : w.heap.size + 1 < gS := by simp at hgS; omega
  clear hos hb1 HSu
  go_wp2
  go_loopw [5, 19] (fun v i wr => ∃ j : Nat, j ≤ n ∧ i = .int .i64 j ∧ wr.ownsRow (w.heap.size + 1) 51 2 v j (i64p (F j)) ∧ v.ownBlock ≠ some gS ∧ Row wr gS S ∧ wr.cell? ⟨w.heap.size, 0, none⟩ = some (.slice A n c) ∧ wr.cell? ⟨w.heap.size, 1, none⟩ = some (.slice B n e) ∧ Below w.heap.size w wr) (fun _ i _ => n - (intOf i).toNat)
  case atStart => exact ⟨0, by omega, rfl, by rw [HD0.out]; exact hown0, by simp [Value.ownBlock]; omega, hrS, hx0, hx1, hw⟩
  case round =>
    clear hown0 hrS hx0 hx1 hw
    obtain ⟨x, hxj, rfl, hown, hne, hrS, hx0, hx1, hw⟩ := hrel
    by_cases hlt : x < n
    · have HKx := Lib.hid (fun W (h : IntS W A xs) => HK.out W h x)
      have hkx := hkl.out x
      have HMx := Lib.hid (fun j hj => HMem.out x j hj)
      have HNx := Lib.hid (HNf.out x)
      have HDx := Lib.hid (HDf.out x)
      have hsx := hsb.out x
      have hs1x := hs1.out x hlt
      have hdx := hdb.out x
      have hpx := HP.out x
      have hds := HDS.out x
      have HT := Lib.hid (fun j (hj : j < (KL x).length) => lsum_take (fun y => nth S y.toNat * (nth ps y.toNat - nth ps x)) hj)
      have HB := Lib.hid (fun j => lsum_bd (fun y => nth S y.toNat * (nth ps y.toNat - nth ps x)) (M := 959040) (fun y => by
        have h1 := hsb.out y.toNat
        have h2 := HP.out y.toNat
        have := mul_bd (A := 480) (D := 1998) (a := nth S y.toNat) (d := nth ps y.toNat - nth ps x) (by omega) (by omega)
        omega) ((KL x).take j))
      have H0 : Hid (lsum (fun y => nth S y.toNat * (nth ps y.toNat - nth ps x)) ((KL x).take 0) = 0) := rfl
      have HFn : Hid (∀ y : Nat, (fun y : Int => nth S y.toNat * (nth ps y.toNat - nth ps x)) (y : Int) = nth S y * (nth ps y - nth ps x)) := fun y => rfl
      have HNl : Hid (lsum (fun y => nth S y.toNat * (nth ps y.toNat - nth ps x)) ((KL x).take (KL x).length) = DN x) := by show _ = _; rw [List.take_length, ← HNx.out]
      obtain ⟨px, hpe⟩ : ∃ q, nth ps x = q := ⟨_, rfl⟩
      obtain ⟨sx, hse⟩ : ∃ q, nth S x = q := ⟨_, rfl⟩
      rw [hpe] at hpx HT HB H0 HFn HNl
      have HPE := Lib.hid hpe
      have HSE := Lib.hid hse
      have hds2 : i64p (F (x + 1)) = i64p (F x) ++ [Value.int .i64 (lowX (DN x) sx), Value.int .i64 (lowY (DN x) sx)] := by rw [hds, HDx.out, hse]; exact i64p_app _ _ _
      have HPX := Lib.hid hds2
      rw [hse] at hsx hs1x
      have hlow := drift_low (a := DN x) (b := sx) (by omega) (by omega)
      have HC := fun W => lowest_any (DN x) sx W (by omega) (by omega) (by omega)
      rw [hlow.1, hlow.2.1, hlow.2.2] at HC
      replace HC := Lib.hid HC
      clear hpe hse hlow hds hds2 HDx HNx hdx
      generalize hL : lsum (fun y => nth S y.toNat * (nth ps y.toNat - px)) = L at *
      clear hL
      generalize KL x = K at *
      generalize DN x = dn at *
      generalize F x = FX at *
      generalize lowX dn sx = a9 at *
      generalize lowY dn sx = b9 at *
      go_wp2_with fail
      refine (HKx.out _ (h.below hw)).mono ?_
      rintro e1 w2 ⟨A2, c2, rfl, hok, hb2⟩
      replace hown := own_below hown hb2
      replace hrS := hrS.below hb2
      replace hx0 := keep_cell hb2 hx0
      replace hx1 := keep_cell hb2 hx1
      replace hw := keep_below hb2 hw
      have hIK := hok.upper
      clear hb2 hok
      go_wp2
      go_loopw [8, 27] (fun sv i wq => ∃ j : Nat, j ≤ K.length ∧ i = .int .i64 j ∧ sv = .int .i64 (L (K.take j)) ∧ wq.ownsRow (w.heap.size + 1) 51 2 u5 x (i64p FX) ∧ IntS wq A2 K ∧ Row wq gS S ∧ wq.cell? ⟨w.heap.size, 0, none⟩ = some (.slice A n c) ∧ wq.cell? ⟨w.heap.size, 1, none⟩ = some (.slice B n e) ∧ Below w.heap.size w wq) (fun _ i _ => K.length - (intOf i).toNat)
      case atStart => exact ⟨0, by omega, rfl, by rw [H0.out], hown, hIK.ints, hrS, hx0, hx1, hw⟩
      case round =>
        clear hown hIK hrS hx0 hx1 hw
        obtain ⟨j, hj, rfl, rfl, hown, hIK, hrS, hx0, hx1, hw⟩ := hrel
        have hbd := HB.out j
        have htl : ((K.take j).length : Int) ≤ 24 := by have := List.length_take_le j K; omega
        have hbd2 : ((959040 : Nat) : Int) * ((K.take j).length : Int) ≤ 959040 * 24 := Int.mul_le_mul_of_nonneg_left htl (by omega)
        by_cases hlj : j < K.length
        · obtain ⟨y, hy, hyn⟩ := HMx.out j hlj
          obtain ⟨b1, o1, rfl, hcK⟩ := hIK.at_ hlj
          have hcS := hrS.cell (j := y) (by rw [HSL.out]; exact hyn)
          obtain ⟨b, o, rfl, hcp⟩ := (zp.below hw).at_ (j := y) (by rw [← HPL.out]; exact hyn)
          obtain ⟨b', o', hbo, hcx⟩ := (zp.below hw).at_ (j := x) (by rw [← HPL.out]; exact hlt)
          cases hbo
          rw [HPE.out] at hcx
          have hs := hsb.out y
          have hpy := HP.out y
          have ht := HT.out j hlj
          rw [hy] at hcK ht
          rw [HFn.out y] at ht
          obtain ⟨a, ha⟩ : ∃ a, nth S y = a := ⟨_, rfl⟩
          obtain ⟨q, hq⟩ : ∃ q, nth ps y = q := ⟨_, rfl⟩
          rw [ha, hq] at ht
          rw [ha] at hcS hs
          rw [hq] at hcp hpy
          have hm := mul_bd (A := 480) (D := 1998) (a := a) (d := q - px) (by omega) (by omega)
          obtain ⟨m, hme⟩ : ∃ m, a * (q - px) = m := ⟨_, rfl⟩
          rw [hme] at ht hm
          have HTT := Lib.hid ht
          generalize L (K.take j) = sv at *
          have u0 : IntKind.i64.wrap (q - px) = q - px := IntWalk.i64_in _ (by omega)
          have u1 : IntKind.i64.wrap (a * (q - px)) = m := by rw [hme]; exact IntWalk.i64_in _ (by omega)
          have u2 : IntKind.i64.wrap (sv + m) = sv + m := IntWalk.i64_in _ (by omega)
          have i1 : (j : Int) < K.length := by omega
          have i2 : (y : Int) < S.length := by rw [HSL.out]; omega
          have i3 : (y : Int) < n := by omega
          have i4 : (x : Int) < n := by omega
          clear hy ha hq hme ht hbd hbd2 htl
          go_wp2
          go_still (by kernel_rfl)
          go_wp2
          go_roundw
          case rel => exact ⟨j + 1, by omega, by go_num, by rw [HTT.out], hown, hIK, hrS, hx0, hx1, hw.drew⟩
          case measure => simp [intOf]; omega
        · have hje : j = K.length := by omega
          subst hje
          have hcS := hrS.cell (j := x) (by rw [HSL.out]; exact hlt)
          rw [HSE.out] at hcS
          have hlS : (x : Int) < S.length := by rw [HSL.out]; omega
          rw [HNl.out]
          clear HT HB HFn HNl HMx hbd hbd2 htl hIK H0
          go_wp2_with fail
          refine (HC.out _).mono ?_
          rintro e1 w3 ⟨rfl, hb3⟩
          replace hb3 : Below wr.heap.size wr w3 := ⟨hb3.os, hb3.tape, hb3.output, hb3.size, hb3.block⟩
          replace hown := own_below hown hb3
          replace hrS := hrS.below hb3
          replace hx0 := keep_cell hb3 hx0
          replace hx1 := keep_cell hb3 hx1
          replace hw := keep_below hb3 hw
          clear hb3 hcS
          have hlx : w.heap.size < w3.heap.size := World.block_lt_of_cell? _ _ hx0
          have hlS3 := hrS.lt
          replace hown := hown.alloc (.cells #[.int .i64 a9, .int .i64 b9] 51)
          replace hrS := hrS.alloc (.cells #[.int .i64 a9, .int .i64 b9] 51)
          have hy0 : (w3.alloc (.cells #[.int .i64 a9, .int .i64 b9] 51)).cell? ⟨w.heap.size, 0, none⟩ = some (.slice A n c) := by rw [World.cell?_alloc_lt _ _ _ hlx]; exact hx0
          have hy1 : (w3.alloc (.cells #[.int .i64 a9, .int .i64 b9] 51)).cell? ⟨w.heap.size, 1, none⟩ = some (.slice B n e) := by rw [World.cell?_alloc_lt _ _ _ hlx]; exact hx1
          replace hw := hw.alloc hw.size (.cells #[.int .i64 a9, .int .i64 b9] 51)
          have hlz := hlx
          replace hlx : w.heap.size < (w3.alloc (.cells #[.int .i64 a9, .int .i64 b9] 51)).heap.size := by simp; omega
          clear hx0 hx1
          have hcn := cells2_new (w3.alloc (.cells #[.int .i64 a9, .int .i64 b9] 51)) (.int .i64 a9) (.int .i64 b9) 51
          rw [show (w3.alloc (.cells #[.int .i64 a9, .int .i64 b9] 51)).heap.size = w3.heap.size + 1 from by simp] at hcn
          go_wp2_with (at_builtin; go_loud ((refine wpList_append_own_at _ rfl _ _ 44 rfl (w.heap.size + 1) 51 i0 (.agg #[.int .i64 0, .int .i64 0]) 2 16 Try.underlying44 hi hz0 hz1 hz2 rfl (by decide) _ _ _ rfl (hown.alloc _) ⟨w3.heap.size + 1, 0, none⟩ 1 1 [.int .i64 (a9), .int .i64 (b9)] rfl rfl hcn (by simp [Value.oneCell']) (by unfold maxLen; omega) (by omega) (by simp; omega) ?_); intro v' w1 hown1 hgrow _ hat))
          have hxx0 := grown_cell hgrow (p := ⟨w.heap.size, 0, none⟩) (by rw [World.cell?_alloc_lt _ _ _ hlx]; exact hy0) (own_ne (g := w.heap.size) hown (by omega))
          have hxx1 := grown_cell hgrow (p := ⟨w.heap.size, 1, none⟩) (by rw [World.cell?_alloc_lt _ _ _ hlx]; exact hy1) (own_ne (g := w.heap.size) hown (by omega))
          have hrS1 := (hrS.alloc _).grown hgrow (fun h => hne (by exact h.symm))
          have hne1 : v'.ownBlock ≠ some gS := by
            rcases hat with e | e
            · rw [e]; exact hne
            · rw [e]; intro h'; injection h' with h'; have := hrS.lt; simp at h'; omega
          have hb3 : Below w.heap.size w w1 := Below.grown (hw.alloc hw.size _) hgrow (by simp; omega) (fun g hg => by have := (hown.lt g hg).1; omega)
          rw [← HPX.out] at hown1
          clear hown hgrow hw HPX hy0 hy1 hat hrS hne
          go_wp2
          go_roundw
          case rel => exact ⟨x + 1, by omega, by go_num, hown1, hne1, hrS1, hxx0, hxx1, hb3⟩
          case measure => simp only [intOf]; omega
    · have hkn : x = n := by omega
      rw [hkn] at hown
      obtain ⟨A', c', rfl, hO⟩ := own_form2 hown
      have hll := Lib.hid (HDL.out n)
      clear hkn hown HDL HDS hrS hne
      go_wp2
      go_ret
      exact ⟨A', c', rfl, hO.mono (by omega), hw⟩
end Go.Proofs.Ytombfbmcplefgaa
/- Contracts: the ends that are not in an event; its pays. -/
namespace Go.Proofs.Ytombfbmcplefgaa
open Go.ChangeShapes Go.WideShapes Go.ChangeAt Go.RowKit

def filK (f : Int → Bool) (E : List Int) (k : Nat) : List Int := (E.take k).filter f
theorem filK_zero (f : Int → Bool) (E : List Int) : filK f E 0 = [] := rfl
theorem filK_all (f : Int → Bool) (E : List Int) : filK f E E.length = E.filter f := by simp [filK]
theorem filK_yes {f : Int → Bool} {a : List Int} {k : Nat} (h : k < a.length) (hb : f (nth a k) = true) : filK f a (k + 1) = filK f a k ++ [nth a k] := by
  have e : nth a k = a[k] := by simp [nth, List.getD, h]
  unfold filK
  rw [List.take_succ_eq_append_getElem h, List.filter_append, ← e]
  simp [hb]
theorem filK_no {f : Int → Bool} {a : List Int} {k : Nat} (h : k < a.length) (hb : f (nth a k) = false) : filK f a (k + 1) = filK f a k := by
  have e : nth a k = a[k] := by simp [nth, List.getD, h]
  unfold filK
  rw [List.take_succ_eq_append_getElem h, List.filter_append, ← e]
  simp [hb]
theorem filK_len (f : Int → Bool) (a : List Int) (k : Nat) : (filK f a k).length ≤ k := by
  unfold filK
  exact Nat.le_trans (List.length_filter_le _ _) (List.length_take_le _ _)
noncomputable def evOk (xs ys ps : List Int) : Bool := good xs ys && isEv xs ps
def othL (xs ps : List Int) : List Int := filK (fun v => !hasB ps v) (endsL xs) (endsL xs).length
noncomputable def othR (xs ys ps : List Int) : List Int := if evOk xs ys ps then othL xs ps else []
theorem othR_no {xs ys ps : List Int} (h : evOk xs ys ps = false) : othR xs ys ps = [] := by unfold othR; rw [h]; rfl
theorem othR_yes {xs ys ps : List Int} (h : evOk xs ys ps = true) : othR xs ys ps = othL xs ps := by unfold othR; rw [h]; rfl
theorem othR_len (xs ys ps : List Int) (hn : xs.length ≤ 1048576) : (othR xs ys ps).length ≤ 2000000 := by
  unfold othR; split
  · unfold othL; have := filK_len (fun v => !hasB ps v) (endsL xs) (endsL xs).length; have := ends_len xs; omega
  · simp
def indE (ps : List Int) (v : Int) : Int := if hasB ps v then 1 else 0
def indcL (xs ps : List Int) : List Int := mapI (indE ps) (endsL xs) (endsL xs).length
noncomputable def indcR (xs ys ps : List Int) : List Int := if evOk xs ys ps then indcL xs ps else []
theorem indcR_no {xs ys ps : List Int} (h : evOk xs ys ps = false) : indcR xs ys ps = [] := by unfold indcR; rw [h]; rfl
theorem indcR_yes {xs ys ps : List Int} (h : evOk xs ys ps = true) : indcR xs ys ps = indcL xs ps := by unfold indcR; rw [h]; rfl
theorem indcR_len (xs ys ps : List Int) (hn : xs.length ≤ 1048576) : (indcR xs ys ps).length ≤ 2000000 := by
  unfold indcR; split
  · unfold indcL; rw [mapI_len _ _ (Nat.le_refl _)]; have := ends_len xs; omega
  · simp
set_option maxHeartbeats 1000000 in
set_option maxRecDepth 100000 in
theorem specOtherEnds_any (A B : Option Addr) (c e : Nat) (xs ys : List Int) (P : Option Addr) (cp : Nat) (ps : List Int) (w : World) (h : IntS w A xs) (k : IntS w B ys) (zp : IntS w P ps) (_hx : Bd xs) (_hy : Bd ys) (_bp : Bd ps) (hn : xs.length ≤ 1048576) (hm : ys.length ≤ 1048576) (lp : ps.length ≤ 1048576) :
    Calls Try.prog 54 #[.agg #[.slice A xs.length c, .slice B ys.length e], .slice P ps.length cp] w (RetIB w (othR xs ys ps) (evOk xs ys ps)) := by
  obtain ⟨r1, q1⟩ : ∃ r, (good xs ys && isEv xs ps) = r := ⟨_, rfl⟩
  cases r1
  case false =>
    have hO : evOk xs ys ps = false := by unfold evOk ; simp [q1]
    have hV_othR := othR_no hO
    rw [hV_othR]
    (try rw [hO])
    clear hO hV_othR
    have HG1 := Lib.hid (fun W (h : IntS W A xs) (k : IntS W B ys) (zp : IntS W P ps) => l2Event_any A B P c e cp xs ys ps W h k zp _hx _hy hn hm lp)
    rw [q1] at HG1
    clear q1 _hx _hy _bp
    go_enter Try.func54, Try.ntmps54
    go_wp2_with fail
    refine (HG1.out _ ((h.alloc _).alloc _) ((k.alloc _).alloc _) ((zp.alloc _).alloc _)).mono ?_
    rintro e1 w1 ⟨rfl, hb⟩
    have hx0 : w1.cell? ⟨w.heap.size, 0, none⟩ = some (.slice A xs.length c) := keep_cell hb (by simp)
    have hx1 : w1.cell? ⟨w.heap.size, 1, none⟩ = some (.slice B ys.length e) := keep_cell hb (by simp)
    have hown := own_below (own_empty _ (w.heap.size + 1) (w.heap.size + 1) (by simp) (by simp)) hb
    have hw : Below w.heap.size w w1 := below_alloc (below_alloc (hb))
    clear hb
    obtain ⟨A', c', hv, hO⟩ := own_form (xs := []) hown
    cases hv
    clear hown
    go_wp2
    go_ret2
    exact ⟨_, _, rfl, hO.mono (by omega), hw⟩
  case true =>
    have hO : evOk xs ys ps = true := by unfold evOk ; simp [q1]
    have hV_othR := othR_yes hO
    rw [hV_othR]
    (try rw [hO])
    clear hO hV_othR
    have HG1 := Lib.hid (fun W (h : IntS W A xs) (k : IntS W B ys) (zp : IntS W P ps) => l2Event_any A B P c e cp xs ys ps W h k zp _hx _hy hn hm lp)
    rw [q1] at HG1
    have hgl := good_len (Bool.and_eq_true_iff.1 q1).1
    have HE := Lib.hid (fun W (h : IntS W A xs) => l2Ends_any A B c ys.length e xs W h (by omega) (good_iff.1 (Bool.and_eq_true_iff.1 q1).1).2.1 (good_root (Bool.and_eq_true_iff.1 q1).1))
    have HH := Lib.hid (fun W (v : Int) (z : IntS W P ps) => l1Has_any P cp ps v W z (by omega))
    have hel := ends_len xs
    have hep := ends_pos (Bool.and_eq_true_iff.1 q1).1
    obtain ⟨n, e1⟩ : ∃ n, xs.length = n := ⟨_, rfl⟩
    have e2 : ys.length = n := by rw [hgl.2.2]; exact e1
    simp only [e1, e2] at HG1 HE hn hm hgl hel ⊢
    have HN := Lib.hid e1.symm
    obtain ⟨hgl1, hgl2, _⟩ := hgl
    clear e1 e2
    unfold othL
    have HY := Lib.hid (fun i (h : i < (endsL xs).length) (hb : hasB ps (nth (endsL xs) i) = false) => filK_yes (f := fun v => !hasB ps v) h (by rw [hb]; rfl))
    have HNo := Lib.hid (fun i (h : i < (endsL xs).length) (hb : hasB ps (nth (endsL xs) i) = true) => filK_no (f := fun v => !hasB ps v) h (by rw [hb]; rfl))
    have HKL := Lib.hid (fun k => filK_len (fun v => !hasB ps v) (endsL xs) k)
    have HZ : Hid (filK (fun v => !hasB ps v) (endsL xs) 0 = []) := rfl
    generalize filK (fun v => !hasB ps v) (endsL xs) = F at *
    generalize endsL xs = E at *
    clear q1 _hx _hy _bp
    go_enter Try.func54, Try.ntmps54
    go_wp2_with fail
    refine (HG1.out _ ((h.alloc _).alloc _) ((k.alloc _).alloc _) ((zp.alloc _).alloc _)).mono ?_
    rintro e1 w1 ⟨rfl, hb⟩
    have hx0 : w1.cell? ⟨w.heap.size, 0, none⟩ = some (.slice A n c) := keep_cell hb (by simp)
    have hx1 : w1.cell? ⟨w.heap.size, 1, none⟩ = some (.slice B n e) := keep_cell hb (by simp)
    have hown := own_below (own_empty _ (w.heap.size + 1) (w.heap.size + 1) (by simp) (by simp)) hb
    have hw : Below w.heap.size w w1 := below_alloc (below_alloc (hb))
    clear hb
    clear HG1
    obtain ⟨i0, hi, hz0, hz1, hz2⟩ := info_parts info_int
    have hs1 := (hown.lt (w.heap.size + 1) rfl).2
    go_wp2_with fail
    refine (HE.out _ (h.below hw)).mono ?_
    rintro e1 w2 ⟨A1, c1, rfl, ho, hb2⟩
    replace hown := own_below hown hb2
    replace hw := keep_below hb2 hw
    clear hb2 hx0 hx1
    obtain ⟨gE, rfl, hgE, hE⟩ := ho.pos hep
    have hgE' : w.heap.size + 1 < gE := by omega
    clear ho HE hgE hs1
    go_wp2
    go_loopw [6, 8] (fun v i wr => ∃ j : Nat, j ≤ E.length ∧ i = .int .i64 j ∧ wr.ownsRow (w.heap.size + 1) 3 1 v (F j).length (i64s (F j)) ∧ v.ownBlock ≠ some gE ∧ Row wr gE E ∧ Below w.heap.size w wr) (fun _ i _ => E.length - (intOf i).toNat)
    case atStart => exact ⟨0, by omega, rfl, by rw [HZ.out]; exact hown, by simp [Value.ownBlock]; omega, hE, hw⟩
    case round =>
      clear hown hE hw
      obtain ⟨j, hj, rfl, hown, hne, hE, hw⟩ := hrel
      have hlen := HKL.out j
      by_cases hlt : j < E.length
      · have hcE := hE.cell hlt
        have hlt' : (j : Int) < E.length := by omega
        have hyF := HY.out j hlt
        have hnF := HNo.out j hlt
        have HQ := Lib.hid (fun W (z : IntS W P ps) => HH.out W (nth E j) z)
        have hgl := hE.lt
        have hsz := hw.size
        generalize nth E j = y at *
        generalize hasB ps y = r at *
        cases r
        case true =>
          have hF := hnF rfl
          rw [← hF] at hown
          clear hF
          clear hyF hnF
          go_wp2_with fail
          refine (HQ.out _ (zp.below hw)).mono ?_
          rintro e1 w8 ⟨rfl, rfl⟩
          go_wp2
          go_roundw
          case rel => exact ⟨j + 1, by omega, by go_num, hown, hne, hE, hw⟩
          case measure => simp only [intOf]; omega
        case false =>
          have hF := hyF rfl
          have HPX : Hid (i64s (F (j + 1)) = i64s (F j) ++ [Value.int .i64 (y)] ∧ (F (j + 1)).length = (F j).length + 1) := by rw [hF]; exact ⟨i64s_app _ _, by simp⟩
          clear hF
          generalize F j = L at *
          clear hyF hnF
          go_wp2_with fail
          refine (HQ.out _ (zp.below hw)).mono ?_
          rintro e1 w8 ⟨rfl, rfl⟩
          go_wp2_with (at_builtin; (refine wpList_append_own_at _ rfl _ _ 22 rfl (w.heap.size + 1) 3 i0 (.int .i64 0) 1 8 Try.underlying22 hi hz0 hz1 hz2 rfl (by decide) _ _ _ rfl (hown.alloc _) ⟨wr.heap.size, 0, none⟩ 1 1 [.int .i64 (y)] rfl rfl (cell_one_new _ _ _) (by simp [Value.oneCell']) (by unfold maxLen; omega) (by omega) (by simp; omega) ?_); intro v' w1 hown1 hgrow _ hat)
          have hrow1 := (hE.alloc (.cells #[.int .i64 (y)] 3)).grown hgrow (fun e => hne e.symm)
          have hb3 : Below w.heap.size w w1 := Below.grown (hw.alloc hw.size _) hgrow (by simp; omega) (fun g hg => by have := (hown.lt g hg).1; omega)
          have hne1 : v'.ownBlock ≠ some gE := by
            rcases hat with e | e
            · rw [e]; exact hne
            · rw [e]; simp; omega
          rw [← HPX.out.1, ← HPX.out.2] at hown1
          clear hown hgrow hE hw HPX hne hat
          go_wp2
          go_roundw
          case rel => exact ⟨j + 1, by omega, by go_num, hown1, hne1, hrow1, hb3⟩
          case measure => simp only [intOf]; omega
      · have hkn : j = E.length := by omega
        rw [hkn] at hown
        obtain ⟨A', c', rfl, hO⟩ := own_form hown
        clear hkn hown HY HNo HKL
        go_wp2
        go_ret2
        exact ⟨A', c', rfl, hO.mono (by omega), hw⟩
set_option maxHeartbeats 1000000 in
set_option maxRecDepth 100000 in
theorem implOtherEnds_any (A B : Option Addr) (c e : Nat) (xs ys : List Int) (P : Option Addr) (cp : Nat) (ps : List Int) (w : World) (h : IntS w A xs) (k : IntS w B ys) (zp : IntS w P ps) (_hx : Bd xs) (_hy : Bd ys) (_bp : Bd ps) (hn : xs.length ≤ 1048576) (hm : ys.length ≤ 1048576) (lp : ps.length ≤ 1048576) :
    Calls Try.prog 53 #[.agg #[.slice A xs.length c, .slice B ys.length e], .slice P ps.length cp] w (RetIB w (othR xs ys ps) (evOk xs ys ps)) := by
  obtain ⟨r1, q1⟩ : ∃ r, (good xs ys) = r := ⟨_, rfl⟩
  cases r1
  case false =>
    have hO : evOk xs ys ps = false := by unfold evOk ; simp [q1]
    have hV_othR := othR_no hO
    rw [hV_othR]
    (try rw [hO])
    clear hO hV_othR
    have HG1 := Lib.hid (fun W (h : IntS W A xs) (k : IntS W B ys) => isTree_any A B c e xs ys W h k _hx _hy hn hm)
    rw [q1] at HG1
    clear q1 _hx _hy _bp
    go_enter Try.func53, Try.ntmps53
    go_wp2_with fail
    refine (HG1.out _ (h.alloc _) (k.alloc _)).mono ?_
    rintro e1 w1 ⟨rfl, hb⟩
    have hx0 : w1.cell? ⟨w.heap.size, 0, none⟩ = some (.slice A xs.length c) := keep_cell hb (by simp)
    have hx1 : w1.cell? ⟨w.heap.size, 1, none⟩ = some (.slice B ys.length e) := keep_cell hb (by simp)
    have hw : Below w.heap.size w w1 := below_alloc (hb)
    clear hb
    go_wp2
    go_ret2
    exact ⟨none, 0, rfl, .inl ⟨rfl, rfl⟩, hw⟩
  case true =>
    obtain ⟨r2, q2⟩ : ∃ r, (isEv xs ps) = r := ⟨_, rfl⟩
    cases r2
    case false =>
      have hO : evOk xs ys ps = false := by unfold evOk ; simp [q1, q2]
      have hV_othR := othR_no hO
      rw [hV_othR]
      (try rw [hO])
      clear hO hV_othR
      have HG1 := Lib.hid (fun W (h : IntS W A xs) (k : IntS W B ys) => isTree_any A B c e xs ys W h k _hx _hy hn hm)
      rw [q1] at HG1
      have HG2 := Lib.hid (fun W (h : IntS W A xs) (zp : IntS W P ps) => isEvent_good q1 A B P c ys.length e cp ps W h zp lp)
      rw [q2] at HG2
      clear q1 q2 _hx _hy _bp
      go_enter Try.func53, Try.ntmps53
      go_wp2_with fail
      refine (HG1.out _ (h.alloc _) (k.alloc _)).mono ?_
      rintro e1 w1 ⟨rfl, hb⟩
      have hx0 : w1.cell? ⟨w.heap.size, 0, none⟩ = some (.slice A xs.length c) := keep_cell hb (by simp)
      have hx1 : w1.cell? ⟨w.heap.size, 1, none⟩ = some (.slice B ys.length e) := keep_cell hb (by simp)
      have hw : Below w.heap.size w w1 := below_alloc (hb)
      clear hb
      go_wp2_with fail
      refine (HG2.out _ (h.below hw) (zp.below hw)).mono ?_
      rintro e1 w2 ⟨rfl, hb⟩
      replace hx0 := keep_cell hb hx0
      replace hx1 := keep_cell hb hx1
      replace hw := keep_below hb hw
      clear hb
      go_wp2
      go_ret2
      exact ⟨none, 0, rfl, .inl ⟨rfl, rfl⟩, hw⟩
    case true =>
      have hO : evOk xs ys ps = true := by unfold evOk ; simp [q1, q2]
      have hV_othR := othR_yes hO
      rw [hV_othR]
      (try rw [hO])
      clear hO hV_othR
      have HG1 := Lib.hid (fun W (h : IntS W A xs) (k : IntS W B ys) => isTree_any A B c e xs ys W h k _hx _hy hn hm)
      rw [q1] at HG1
      have HG2 := Lib.hid (fun W (h : IntS W A xs) (zp : IntS W P ps) => isEvent_good q1 A B P c ys.length e cp ps W h zp lp)
      rw [q2] at HG2
      have hgl := good_len q1
      have HE := Lib.hid (fun W (h : IntS W A xs) => ends_any A B c ys.length e xs W h (by omega) (good_iff.1 q1).2.1 (good_root q1))
      have HH := Lib.hid (fun W (v : Int) (z : IntS W P ps) => contains_any P cp ps v W z (by omega))
      have hel := ends_len xs
      have hep := ends_pos q1
      obtain ⟨n, e1⟩ : ∃ n, xs.length = n := ⟨_, rfl⟩
      have e2 : ys.length = n := by rw [hgl.2.2]; exact e1
      simp only [e1, e2] at HG1 HG2 HE hn hm hgl hel ⊢
      have HN := Lib.hid e1.symm
      obtain ⟨hgl1, hgl2, _⟩ := hgl
      clear e1 e2
      unfold othL
      have HY := Lib.hid (fun i (h : i < (endsL xs).length) (hb : hasB ps (nth (endsL xs) i) = false) => filK_yes (f := fun v => !hasB ps v) h (by rw [hb]; rfl))
      have HNo := Lib.hid (fun i (h : i < (endsL xs).length) (hb : hasB ps (nth (endsL xs) i) = true) => filK_no (f := fun v => !hasB ps v) h (by rw [hb]; rfl))
      have HKL := Lib.hid (fun k => filK_len (fun v => !hasB ps v) (endsL xs) k)
      have HZ : Hid (filK (fun v => !hasB ps v) (endsL xs) 0 = []) := rfl
      generalize filK (fun v => !hasB ps v) (endsL xs) = F at *
      generalize endsL xs = E at *
      clear q1 q2 _hx _hy _bp
      go_enter Try.func53, Try.ntmps53
      go_wp2_with fail
      refine (HG1.out _ (h.alloc _) (k.alloc _)).mono ?_
      rintro e1 w1 ⟨rfl, hb⟩
      have hx0 : w1.cell? ⟨w.heap.size, 0, none⟩ = some (.slice A n c) := keep_cell hb (by simp)
      have hx1 : w1.cell? ⟨w.heap.size, 1, none⟩ = some (.slice B n e) := keep_cell hb (by simp)
      have hw : Below w.heap.size w w1 := below_alloc (hb)
      clear hb
      go_wp2_with fail
      refine (HG2.out _ (h.below hw) (zp.below hw)).mono ?_
      rintro e1 w2 ⟨rfl, hb⟩
      replace hx0 := keep_cell hb hx0
      replace hx1 := keep_cell hb hx1
      replace hw := keep_below hb hw
      clear hb
      clear HG1 HG2
      obtain ⟨i0, hi, hz0, hz1, hz2⟩ := info_parts info_int
      have hsW := World.block_lt_of_cell? _ _ hx0
      replace hsW : w.heap.size < w2.heap.size := hsW
      have hown := own_empty w2 (w.heap.size + 1) w2.heap.size rfl hsW
      go_wp2_with fail
      refine (HE.out _ ((h.below hw).alloc _)).mono ?_
      rintro e1 w9 ⟨A1, c1, rfl, ho, hb2⟩
      replace hown := own_below hown hb2
      replace hw := keep_below hb2 (keep_below_alloc hw _)
      clear hb2 hx0 hx1
      obtain ⟨gE, rfl, hgE, hE⟩ := ho.pos hep
      have hgE' : w2.heap.size < gE := by simp at hgE; omega
      clear ho HE hgE
      go_wp2
      go_loopw [6, 22] (fun v i wr => ∃ j : Nat, j ≤ E.length ∧ i = .int .i64 j ∧ wr.ownsRow (w.heap.size + 1) 3 1 v (F j).length (i64s (F j)) ∧ v.ownBlock ≠ some gE ∧ Row wr gE E ∧ Below w.heap.size w wr) (fun _ i _ => E.length - (intOf i).toNat)
      case atStart => exact ⟨0, by omega, rfl, by rw [HZ.out]; exact hown, by simp [Value.ownBlock]; omega, hE, hw⟩
      case round =>
        clear hown hE hw
        obtain ⟨j, hj, rfl, hown, hne, hE, hw⟩ := hrel
        have hlen := HKL.out j
        by_cases hlt : j < E.length
        · have hcE := hE.cell hlt
          have hlt' : (j : Int) < E.length := by omega
          have hyF := HY.out j hlt
          have hnF := HNo.out j hlt
          have HQ := Lib.hid (fun W (z : IntS W P ps) => HH.out W (nth E j) z)
          have hgl := hE.lt
          have hsz := hw.size
          generalize nth E j = y at *
          generalize hasB ps y = r at *
          cases r
          case true =>
            have hF := hnF rfl
            rw [← hF] at hown
            clear hF
            clear hyF hnF
            go_wp2_with fail
            refine (HQ.out _ (zp.below hw)).mono ?_
            rintro e1 w8 ⟨rfl, rfl⟩
            go_wp2
            go_roundw
            case rel => exact ⟨j + 1, by omega, by go_num, hown, hne, hE, hw⟩
            case measure => simp only [intOf]; omega
          case false =>
            have hF := hyF rfl
            have HPX : Hid (i64s (F (j + 1)) = i64s (F j) ++ [Value.int .i64 (y)] ∧ (F (j + 1)).length = (F j).length + 1) := by rw [hF]; exact ⟨i64s_app _ _, by simp⟩
            clear hF
            generalize F j = L at *
            clear hyF hnF
            go_wp2_with fail
            refine (HQ.out _ (zp.below hw)).mono ?_
            rintro e1 w8 ⟨rfl, rfl⟩
            go_wp2_with (at_builtin; (refine wpList_append_own_at _ rfl _ _ 22 rfl (w.heap.size + 1) 3 i0 (.int .i64 0) 1 8 Try.underlying22 hi hz0 hz1 hz2 rfl (by decide) _ _ _ rfl (hown.alloc _) ⟨wr.heap.size, 0, none⟩ 1 1 [.int .i64 (y)] rfl rfl (cell_one_new _ _ _) (by simp [Value.oneCell']) (by unfold maxLen; omega) (by omega) (by simp; omega) ?_); intro v' w1 hown1 hgrow _ hat)
            have hrow1 := (hE.alloc (.cells #[.int .i64 (y)] 3)).grown hgrow (fun e => hne e.symm)
            have hb3 : Below w.heap.size w w1 := Below.grown (hw.alloc hw.size _) hgrow (by simp; omega) (fun g hg => by have := (hown.lt g hg).1; omega)
            have hne1 : v'.ownBlock ≠ some gE := by
              rcases hat with e | e
              · rw [e]; exact hne
              · rw [e]; simp; omega
            rw [← HPX.out.1, ← HPX.out.2] at hown1
            clear hown hgrow hE hw HPX hne hat
            go_wp2
            go_roundw
            case rel => exact ⟨j + 1, by omega, by go_num, hown1, hne1, hrow1, hb3⟩
            case measure => simp only [intOf]; omega
        · have hkn : j = E.length := by omega
          rw [hkn] at hown
          obtain ⟨A', c', rfl, hO⟩ := own_form hown
          clear hkn hown HY HNo HKL
          go_wp2
          go_ret2
          exact ⟨A', c', rfl, hO.mono (by omega), hw⟩
set_option maxHeartbeats 1000000 in
set_option maxRecDepth 100000 in
theorem specIndicatorOf_any (A B : Option Addr) (c e : Nat) (xs ys : List Int) (P : Option Addr) (cp : Nat) (ps : List Int) (w : World) (h : IntS w A xs) (k : IntS w B ys) (zp : IntS w P ps) (_hx : Bd xs) (_hy : Bd ys) (_bp : Bd ps) (hn : xs.length ≤ 1048576) (hm : ys.length ≤ 1048576) (lp : ps.length ≤ 1048576) :
    Calls Try.prog 57 #[.agg #[.slice A xs.length c, .slice B ys.length e], .slice P ps.length cp] w (RetIB w (indcR xs ys ps) (evOk xs ys ps)) := by
  obtain ⟨r1, q1⟩ : ∃ r, (good xs ys && isEv xs ps) = r := ⟨_, rfl⟩
  cases r1
  case false =>
    have hO : evOk xs ys ps = false := by unfold evOk ; simp [q1]
    have hV_indcR := indcR_no hO
    rw [hV_indcR]
    (try rw [hO])
    clear hO hV_indcR
    have HG1 := Lib.hid (fun W (h : IntS W A xs) (k : IntS W B ys) (zp : IntS W P ps) => l2Event_any A B P c e cp xs ys ps W h k zp _hx _hy hn hm lp)
    rw [q1] at HG1
    clear q1 _hx _hy _bp
    go_enter Try.func57, Try.ntmps57
    go_wp2_with fail
    refine (HG1.out _ ((h.alloc _).alloc _) ((k.alloc _).alloc _) ((zp.alloc _).alloc _)).mono ?_
    rintro e1 w1 ⟨rfl, hb⟩
    have hx0 : w1.cell? ⟨w.heap.size, 0, none⟩ = some (.slice A xs.length c) := keep_cell hb (by simp)
    have hx1 : w1.cell? ⟨w.heap.size, 1, none⟩ = some (.slice B ys.length e) := keep_cell hb (by simp)
    have hown := own_below (own_empty _ (w.heap.size + 1) (w.heap.size + 1) (by simp) (by simp)) hb
    have hw : Below w.heap.size w w1 := below_alloc (below_alloc (hb))
    clear hb
    obtain ⟨A', c', hv, hO⟩ := own_form (xs := []) hown
    cases hv
    clear hown
    go_wp2
    go_ret2
    exact ⟨_, _, rfl, hO.mono (by omega), hw⟩
  case true =>
    have hO : evOk xs ys ps = true := by unfold evOk ; simp [q1]
    have hV_indcR := indcR_yes hO
    rw [hV_indcR]
    (try rw [hO])
    clear hO hV_indcR
    have HG1 := Lib.hid (fun W (h : IntS W A xs) (k : IntS W B ys) (zp : IntS W P ps) => l2Event_any A B P c e cp xs ys ps W h k zp _hx _hy hn hm lp)
    rw [q1] at HG1
    have hgl := good_len (Bool.and_eq_true_iff.1 q1).1
    have HE := Lib.hid (fun W (h : IntS W A xs) => l2Ends_any A B c ys.length e xs W h (by omega) (good_iff.1 (Bool.and_eq_true_iff.1 q1).1).2.1 (good_root (Bool.and_eq_true_iff.1 q1).1))
    have HH := Lib.hid (fun W (v : Int) (z : IntS W P ps) => l1Has_any P cp ps v W z (by omega))
    have hel := ends_len xs
    have hep := ends_pos (Bool.and_eq_true_iff.1 q1).1
    obtain ⟨n, e1⟩ : ∃ n, xs.length = n := ⟨_, rfl⟩
    have e2 : ys.length = n := by rw [hgl.2.2]; exact e1
    simp only [e1, e2] at HG1 HE hn hm hgl hel ⊢
    have HN := Lib.hid e1.symm
    obtain ⟨hgl1, hgl2, _⟩ := hgl
    clear e1 e2
    unfold indcL
    have HY := Lib.hid (fun i (h : i < (endsL xs).length) (hb : hasB ps (nth (endsL xs) i) = false) => (mapI_succ (indE ps) (endsL xs) h).trans (by unfold indE; rw [hb]; rfl : _ = mapI (indE ps) (endsL xs) i ++ [0]))
    have HNo := Lib.hid (fun i (h : i < (endsL xs).length) (hb : hasB ps (nth (endsL xs) i) = true) => (mapI_succ (indE ps) (endsL xs) h).trans (by unfold indE; rw [hb]; rfl : _ = mapI (indE ps) (endsL xs) i ++ [1]))
    have HKL : Hid (∀ k, (mapI (indE ps) (endsL xs) k).length ≤ k) := fun k => by unfold mapI; rw [List.length_map]; exact List.length_take_le _ _
    have HZ : Hid (mapI (indE ps) (endsL xs) 0 = []) := rfl
    generalize mapI (indE ps) (endsL xs) = F at *
    generalize endsL xs = E at *
    clear q1 _hx _hy _bp
    go_enter Try.func57, Try.ntmps57
    go_wp2_with fail
    refine (HG1.out _ ((h.alloc _).alloc _) ((k.alloc _).alloc _) ((zp.alloc _).alloc _)).mono ?_
    rintro e1 w1 ⟨rfl, hb⟩
    have hx0 : w1.cell? ⟨w.heap.size, 0, none⟩ = some (.slice A n c) := keep_cell hb (by simp)
    have hx1 : w1.cell? ⟨w.heap.size, 1, none⟩ = some (.slice B n e) := keep_cell hb (by simp)
    have hown := own_below (own_empty _ (w.heap.size + 1) (w.heap.size + 1) (by simp) (by simp)) hb
    have hw : Below w.heap.size w w1 := below_alloc (below_alloc (hb))
    clear hb
    clear HG1
    obtain ⟨i0, hi, hz0, hz1, hz2⟩ := info_parts info_int
    have hs1 := (hown.lt (w.heap.size + 1) rfl).2
    go_wp2_with fail
    refine (HE.out _ (h.below hw)).mono ?_
    rintro e1 w2 ⟨A1, c1, rfl, ho, hb2⟩
    replace hown := own_below hown hb2
    replace hw := keep_below hb2 hw
    clear hb2 hx0 hx1
    obtain ⟨gE, rfl, hgE, hE⟩ := ho.pos hep
    have hgE' : w.heap.size + 1 < gE := by omega
    clear ho HE hgE hs1
    go_wp2
    go_loopw [6, 8] (fun v i wr => ∃ j : Nat, j ≤ E.length ∧ i = .int .i64 j ∧ wr.ownsRow (w.heap.size + 1) 3 1 v (F j).length (i64s (F j)) ∧ v.ownBlock ≠ some gE ∧ Row wr gE E ∧ Below w.heap.size w wr) (fun _ i _ => E.length - (intOf i).toNat)
    case atStart => exact ⟨0, by omega, rfl, by rw [HZ.out]; exact hown, by simp [Value.ownBlock]; omega, hE, hw⟩
    case round =>
      clear hown hE hw
      obtain ⟨j, hj, rfl, hown, hne, hE, hw⟩ := hrel
      have hlen := HKL.out j
      by_cases hlt : j < E.length
      · have hcE := hE.cell hlt
        have hlt' : (j : Int) < E.length := by omega
        have hyF := HY.out j hlt
        have hnF := HNo.out j hlt
        have HQ := Lib.hid (fun W (z : IntS W P ps) => HH.out W (nth E j) z)
        have hgl := hE.lt
        have hsz := hw.size
        generalize nth E j = y at *
        generalize hasB ps y = r at *
        cases r
        case true =>
          have hF := hnF rfl
          have HPX : Hid (i64s (F (j + 1)) = i64s (F j) ++ [Value.int .i64 (1)] ∧ (F (j + 1)).length = (F j).length + 1) := by rw [hF]; exact ⟨i64s_app _ _, by simp⟩
          clear hF
          generalize F j = L at *
          clear hyF hnF
          go_wp2_with fail
          refine (HQ.out _ (zp.below hw)).mono ?_
          rintro e1 w8 ⟨rfl, rfl⟩
          go_wp2_with (at_builtin; (refine wpList_append_own_at _ rfl _ _ 22 rfl (w.heap.size + 1) 3 i0 (.int .i64 0) 1 8 Try.underlying22 hi hz0 hz1 hz2 rfl (by decide) _ _ _ rfl (hown.alloc _) ⟨wr.heap.size, 0, none⟩ 1 1 [.int .i64 (1)] rfl rfl (cell_one_new _ _ _) (by simp [Value.oneCell']) (by unfold maxLen; omega) (by omega) (by simp; omega) ?_); intro v' w1 hown1 hgrow _ hat)
          have hrow1 := (hE.alloc (.cells #[.int .i64 (1)] 3)).grown hgrow (fun e => hne e.symm)
          have hb3 : Below w.heap.size w w1 := Below.grown (hw.alloc hw.size _) hgrow (by simp; omega) (fun g hg => by have := (hown.lt g hg).1; omega)
          have hne1 : v'.ownBlock ≠ some gE := by
            rcases hat with e | e
            · rw [e]; exact hne
            · rw [e]; simp; omega
          rw [← HPX.out.1, ← HPX.out.2] at hown1
          clear hown hgrow hE hw HPX hne hat
          go_wp2
          go_roundw
          case rel => exact ⟨j + 1, by omega, by go_num, hown1, hne1, hrow1, hb3⟩
          case measure => simp only [intOf]; omega
        case false =>
          have hF := hyF rfl
          have HPX : Hid (i64s (F (j + 1)) = i64s (F j) ++ [Value.int .i64 (0)] ∧ (F (j + 1)).length = (F j).length + 1) := by rw [hF]; exact ⟨i64s_app _ _, by simp⟩
          clear hF
          generalize F j = L at *
          clear hyF hnF
          go_wp2_with fail
          refine (HQ.out _ (zp.below hw)).mono ?_
          rintro e1 w8 ⟨rfl, rfl⟩
          go_wp2_with (at_builtin; (refine wpList_append_own_at _ rfl _ _ 22 rfl (w.heap.size + 1) 3 i0 (.int .i64 0) 1 8 Try.underlying22 hi hz0 hz1 hz2 rfl (by decide) _ _ _ rfl (hown.alloc _) ⟨wr.heap.size, 0, none⟩ 1 1 [.int .i64 (0)] rfl rfl (cell_one_new _ _ _) (by simp [Value.oneCell']) (by unfold maxLen; omega) (by omega) (by simp; omega) ?_); intro v' w1 hown1 hgrow _ hat)
          have hrow1 := (hE.alloc (.cells #[.int .i64 (0)] 3)).grown hgrow (fun e => hne e.symm)
          have hb3 : Below w.heap.size w w1 := Below.grown (hw.alloc hw.size _) hgrow (by simp; omega) (fun g hg => by have := (hown.lt g hg).1; omega)
          have hne1 : v'.ownBlock ≠ some gE := by
            rcases hat with e | e
            · rw [e]; exact hne
            · rw [e]; simp; omega
          rw [← HPX.out.1, ← HPX.out.2] at hown1
          clear hown hgrow hE hw HPX hne hat
          go_wp2
          go_roundw
          case rel => exact ⟨j + 1, by omega, by go_num, hown1, hne1, hrow1, hb3⟩
          case measure => simp only [intOf]; omega
      · have hkn : j = E.length := by omega
        rw [hkn] at hown
        obtain ⟨A', c', rfl, hO⟩ := own_form hown
        clear hkn hown HY HNo HKL
        go_wp2
        go_ret2
        exact ⟨A', c', rfl, hO.mono (by omega), hw⟩
set_option maxHeartbeats 1000000 in
set_option maxRecDepth 100000 in
theorem implIndicatorOf_any (A B : Option Addr) (c e : Nat) (xs ys : List Int) (P : Option Addr) (cp : Nat) (ps : List Int) (w : World) (h : IntS w A xs) (k : IntS w B ys) (zp : IntS w P ps) (_hx : Bd xs) (_hy : Bd ys) (_bp : Bd ps) (hn : xs.length ≤ 1048576) (hm : ys.length ≤ 1048576) (lp : ps.length ≤ 1048576) :
    Calls Try.prog 56 #[.agg #[.slice A xs.length c, .slice B ys.length e], .slice P ps.length cp] w (RetIB w (indcR xs ys ps) (evOk xs ys ps)) := by
  obtain ⟨r1, q1⟩ : ∃ r, (good xs ys) = r := ⟨_, rfl⟩
  cases r1
  case false =>
    have hO : evOk xs ys ps = false := by unfold evOk ; simp [q1]
    have hV_indcR := indcR_no hO
    rw [hV_indcR]
    (try rw [hO])
    clear hO hV_indcR
    have HG1 := Lib.hid (fun W (h : IntS W A xs) (k : IntS W B ys) => isTree_any A B c e xs ys W h k _hx _hy hn hm)
    rw [q1] at HG1
    clear q1 _hx _hy _bp
    go_enter Try.func56, Try.ntmps56
    go_wp2_with fail
    refine (HG1.out _ (h.alloc _) (k.alloc _)).mono ?_
    rintro e1 w1 ⟨rfl, hb⟩
    have hx0 : w1.cell? ⟨w.heap.size, 0, none⟩ = some (.slice A xs.length c) := keep_cell hb (by simp)
    have hx1 : w1.cell? ⟨w.heap.size, 1, none⟩ = some (.slice B ys.length e) := keep_cell hb (by simp)
    have hw : Below w.heap.size w w1 := below_alloc (hb)
    clear hb
    go_wp2
    go_ret2
    exact ⟨none, 0, rfl, .inl ⟨rfl, rfl⟩, hw⟩
  case true =>
    obtain ⟨r2, q2⟩ : ∃ r, (isEv xs ps) = r := ⟨_, rfl⟩
    cases r2
    case false =>
      have hO : evOk xs ys ps = false := by unfold evOk ; simp [q1, q2]
      have hV_indcR := indcR_no hO
      rw [hV_indcR]
      (try rw [hO])
      clear hO hV_indcR
      have HG1 := Lib.hid (fun W (h : IntS W A xs) (k : IntS W B ys) => isTree_any A B c e xs ys W h k _hx _hy hn hm)
      rw [q1] at HG1
      have HG2 := Lib.hid (fun W (h : IntS W A xs) (zp : IntS W P ps) => isEvent_good q1 A B P c ys.length e cp ps W h zp lp)
      rw [q2] at HG2
      clear q1 q2 _hx _hy _bp
      go_enter Try.func56, Try.ntmps56
      go_wp2_with fail
      refine (HG1.out _ (h.alloc _) (k.alloc _)).mono ?_
      rintro e1 w1 ⟨rfl, hb⟩
      have hx0 : w1.cell? ⟨w.heap.size, 0, none⟩ = some (.slice A xs.length c) := keep_cell hb (by simp)
      have hx1 : w1.cell? ⟨w.heap.size, 1, none⟩ = some (.slice B ys.length e) := keep_cell hb (by simp)
      have hw : Below w.heap.size w w1 := below_alloc (hb)
      clear hb
      go_wp2_with fail
      refine (HG2.out _ (h.below hw) (zp.below hw)).mono ?_
      rintro e1 w2 ⟨rfl, hb⟩
      replace hx0 := keep_cell hb hx0
      replace hx1 := keep_cell hb hx1
      replace hw := keep_below hb hw
      clear hb
      go_wp2
      go_ret2
      exact ⟨none, 0, rfl, .inl ⟨rfl, rfl⟩, hw⟩
    case true =>
      have hO : evOk xs ys ps = true := by unfold evOk ; simp [q1, q2]
      have hV_indcR := indcR_yes hO
      rw [hV_indcR]
      (try rw [hO])
      clear hO hV_indcR
      have HG1 := Lib.hid (fun W (h : IntS W A xs) (k : IntS W B ys) => isTree_any A B c e xs ys W h k _hx _hy hn hm)
      rw [q1] at HG1
      have HG2 := Lib.hid (fun W (h : IntS W A xs) (zp : IntS W P ps) => isEvent_good q1 A B P c ys.length e cp ps W h zp lp)
      rw [q2] at HG2
      have hgl := good_len q1
      have HE := Lib.hid (fun W (h : IntS W A xs) => ends_any A B c ys.length e xs W h (by omega) (good_iff.1 q1).2.1 (good_root q1))
      have HH := Lib.hid (fun W (v : Int) (z : IntS W P ps) => contains_any P cp ps v W z (by omega))
      have hel := ends_len xs
      have hep := ends_pos q1
      obtain ⟨n, e1⟩ : ∃ n, xs.length = n := ⟨_, rfl⟩
      have e2 : ys.length = n := by rw [hgl.2.2]; exact e1
      simp only [e1, e2] at HG1 HG2 HE hn hm hgl hel ⊢
      have HN := Lib.hid e1.symm
      obtain ⟨hgl1, hgl2, _⟩ := hgl
      clear e1 e2
      unfold indcL
      have HY := Lib.hid (fun i (h : i < (endsL xs).length) (hb : hasB ps (nth (endsL xs) i) = false) => (mapI_succ (indE ps) (endsL xs) h).trans (by unfold indE; rw [hb]; rfl : _ = mapI (indE ps) (endsL xs) i ++ [0]))
      have HNo := Lib.hid (fun i (h : i < (endsL xs).length) (hb : hasB ps (nth (endsL xs) i) = true) => (mapI_succ (indE ps) (endsL xs) h).trans (by unfold indE; rw [hb]; rfl : _ = mapI (indE ps) (endsL xs) i ++ [1]))
      have HKL : Hid (∀ k, (mapI (indE ps) (endsL xs) k).length ≤ k) := fun k => by unfold mapI; rw [List.length_map]; exact List.length_take_le _ _
      have HZ : Hid (mapI (indE ps) (endsL xs) 0 = []) := rfl
      generalize mapI (indE ps) (endsL xs) = F at *
      generalize endsL xs = E at *
      clear q1 q2 _hx _hy _bp
      go_enter Try.func56, Try.ntmps56
      go_wp2_with fail
      refine (HG1.out _ (h.alloc _) (k.alloc _)).mono ?_
      rintro e1 w1 ⟨rfl, hb⟩
      have hx0 : w1.cell? ⟨w.heap.size, 0, none⟩ = some (.slice A n c) := keep_cell hb (by simp)
      have hx1 : w1.cell? ⟨w.heap.size, 1, none⟩ = some (.slice B n e) := keep_cell hb (by simp)
      have hw : Below w.heap.size w w1 := below_alloc (hb)
      clear hb
      go_wp2_with fail
      refine (HG2.out _ (h.below hw) (zp.below hw)).mono ?_
      rintro e1 w2 ⟨rfl, hb⟩
      replace hx0 := keep_cell hb hx0
      replace hx1 := keep_cell hb hx1
      replace hw := keep_below hb hw
      clear hb
      clear HG1 HG2
      obtain ⟨i0, hi, hz0, hz1, hz2⟩ := info_parts info_int
      have hsW := World.block_lt_of_cell? _ _ hx0
      replace hsW : w.heap.size < w2.heap.size := hsW
      have hown := own_empty w2 (w.heap.size + 1) w2.heap.size rfl hsW
      go_wp2_with fail
      refine (HE.out _ ((h.below hw).alloc _)).mono ?_
      rintro e1 w9 ⟨A1, c1, rfl, ho, hb2⟩
      replace hown := own_below hown hb2
      replace hw := keep_below hb2 (keep_below_alloc hw _)
      clear hb2 hx0 hx1
      obtain ⟨gE, rfl, hgE, hE⟩ := ho.pos hep
      have hgE' : w2.heap.size < gE := by simp at hgE; omega
      clear ho HE hgE
      go_wp2
      go_loopw [6, 23] (fun v i wr => ∃ j : Nat, j ≤ E.length ∧ i = .int .i64 j ∧ wr.ownsRow (w.heap.size + 1) 3 1 v (F j).length (i64s (F j)) ∧ v.ownBlock ≠ some gE ∧ Row wr gE E ∧ Below w.heap.size w wr) (fun _ i _ => E.length - (intOf i).toNat)
      case atStart => exact ⟨0, by omega, rfl, by rw [HZ.out]; exact hown, by simp [Value.ownBlock]; omega, hE, hw⟩
      case round =>
        clear hown hE hw
        obtain ⟨j, hj, rfl, hown, hne, hE, hw⟩ := hrel
        have hlen := HKL.out j
        by_cases hlt : j < E.length
        · have hcE := hE.cell hlt
          have hlt' : (j : Int) < E.length := by omega
          have hyF := HY.out j hlt
          have hnF := HNo.out j hlt
          have HQ := Lib.hid (fun W (z : IntS W P ps) => HH.out W (nth E j) z)
          have hgl := hE.lt
          have hsz := hw.size
          generalize nth E j = y at *
          generalize hasB ps y = r at *
          cases r
          case true =>
            have hF := hnF rfl
            have HPX : Hid (i64s (F (j + 1)) = i64s (F j) ++ [Value.int .i64 (1)] ∧ (F (j + 1)).length = (F j).length + 1) := by rw [hF]; exact ⟨i64s_app _ _, by simp⟩
            clear hF
            generalize F j = L at *
            clear hyF hnF
            go_wp2_with fail
            refine (HQ.out _ (zp.below hw)).mono ?_
            rintro e1 w8 ⟨rfl, rfl⟩
            go_wp2_with (at_builtin; (refine wpList_append_own_at _ rfl _ _ 22 rfl (w.heap.size + 1) 3 i0 (.int .i64 0) 1 8 Try.underlying22 hi hz0 hz1 hz2 rfl (by decide) _ _ _ rfl (hown.alloc _) ⟨wr.heap.size, 0, none⟩ 1 1 [.int .i64 (1)] rfl rfl (cell_one_new _ _ _) (by simp [Value.oneCell']) (by unfold maxLen; omega) (by omega) (by simp; omega) ?_); intro v' w1 hown1 hgrow _ hat)
            have hrow1 := (hE.alloc (.cells #[.int .i64 (1)] 3)).grown hgrow (fun e => hne e.symm)
            have hb3 : Below w.heap.size w w1 := Below.grown (hw.alloc hw.size _) hgrow (by simp; omega) (fun g hg => by have := (hown.lt g hg).1; omega)
            have hne1 : v'.ownBlock ≠ some gE := by
              rcases hat with e | e
              · rw [e]; exact hne
              · rw [e]; simp; omega
            rw [← HPX.out.1, ← HPX.out.2] at hown1
            clear hown hgrow hE hw HPX hne hat
            go_wp2
            go_roundw
            case rel => exact ⟨j + 1, by omega, by go_num, hown1, hne1, hrow1, hb3⟩
            case measure => simp only [intOf]; omega
          case false =>
            have hF := hyF rfl
            have HPX : Hid (i64s (F (j + 1)) = i64s (F j) ++ [Value.int .i64 (0)] ∧ (F (j + 1)).length = (F j).length + 1) := by rw [hF]; exact ⟨i64s_app _ _, by simp⟩
            clear hF
            generalize F j = L at *
            clear hyF hnF
            go_wp2_with fail
            refine (HQ.out _ (zp.below hw)).mono ?_
            rintro e1 w8 ⟨rfl, rfl⟩
            go_wp2_with (at_builtin; (refine wpList_append_own_at _ rfl _ _ 22 rfl (w.heap.size + 1) 3 i0 (.int .i64 0) 1 8 Try.underlying22 hi hz0 hz1 hz2 rfl (by decide) _ _ _ rfl (hown.alloc _) ⟨wr.heap.size, 0, none⟩ 1 1 [.int .i64 (0)] rfl rfl (cell_one_new _ _ _) (by simp [Value.oneCell']) (by unfold maxLen; omega) (by omega) (by simp; omega) ?_); intro v' w1 hown1 hgrow _ hat)
            have hrow1 := (hE.alloc (.cells #[.int .i64 (0)] 3)).grown hgrow (fun e => hne e.symm)
            have hb3 : Below w.heap.size w w1 := Below.grown (hw.alloc hw.size _) hgrow (by simp; omega) (fun g hg => by have := (hown.lt g hg).1; omega)
            have hne1 : v'.ownBlock ≠ some gE := by
              rcases hat with e | e
              · rw [e]; exact hne
              · rw [e]; simp; omega
            rw [← HPX.out.1, ← HPX.out.2] at hown1
            clear hown hgrow hE hw HPX hne hat
            go_wp2
            go_roundw
            case rel => exact ⟨j + 1, by omega, by go_num, hown1, hne1, hrow1, hb3⟩
            case measure => simp only [intOf]; omega
        · have hkn : j = E.length := by omega
          rw [hkn] at hown
          obtain ⟨A', c', rfl, hO⟩ := own_form hown
          clear hkn hown HY HNo HKL
          go_wp2
          go_ret2
          exact ⟨A', c', rfl, hO.mono (by omega), hw⟩
end Go.Proofs.Ytombfbmcplefgaa
/- Contracts: no drift, and no drift upward. -/
namespace Go.Proofs.Ytombfbmcplefgaa
open Go.ChangeShapes Go.WideShapes Go.ChangeAt Go.RowKit

/-- A drift that is against the rule. -/
def badB (f : Bool) (a : Int) : Bool := decide (0 < a) || (f && decide (a < 0))
def stB (f : Bool) (L : List (Int × Int)) : Bool := L.all fun q => !badB f q.1
theorem nthp_mem {L : List (Int × Int)} {j : Nat} (h : j < L.length) : nthp L j ∈ L := by
  unfold nthp; rw [List.getD_eq_getElem?_getD, List.getElem?_eq_getElem h]; exact List.getElem_mem h
theorem stB_no {f : Bool} {L : List (Int × Int)} {j : Nat} (h : j < L.length) (hb : badB f (nthp L j).1 = true) : stB f L = false := by
  unfold stB; rw [List.all_eq_false]; exact ⟨_, nthp_mem h, by simp [hb]⟩
theorem stB_yes {f : Bool} {L : List (Int × Int)} (h : ∀ j, j < L.length → badB f (nthp L j).1 = false) : stB f L = true := by
  unfold stB; rw [List.all_eq_true]; intro q hq
  obtain ⟨j, hj, e⟩ := List.getElem_of_mem hq
  have := h j hj
  have e2 : nthp L j = q := by unfold nthp; rw [List.getD_eq_getElem?_getD, List.getElem?_eq_getElem hj]; exact e
  rw [e2] at this; simp [this]
theorem bad_pos {f : Bool} {a : Int} (h : 0 < a) : badB f a = true := by simp [badB, h]
theorem bad_neg {a : Int} (h : a < 0) : badB true a = true := by simp [badB, h]
theorem bad_up {a : Int} (h : a ≤ 0) : badB false a = false := by simp [badB]; omega
theorem bad_zero {f : Bool} {a : Int} (h : a = 0) : badB f a = false := by simp [badB, h]
noncomputable def fairR (f : Bool) (xs ys ps : List Int) : Bool := procOk xs ys ps && stB f (dftK xs ys ps xs.length)
theorem fairR_no {f : Bool} {xs ys ps : List Int} (h : procOk xs ys ps = false) : fairR f xs ys ps = false := by unfold fairR; rw [h]; rfl
theorem fairR_yes {f : Bool} {xs ys ps : List Int} (h : procOk xs ys ps = true) : fairR f xs ys ps = stB f (dftK xs ys ps xs.length) := by unfold fairR; rw [h]; rfl
theorem bad_ne {a : Int} (h : a ≠ 0) : badB true a = true := by simp [badB]; omega
end Go.Proofs.Ytombfbmcplefgaa
/- Contracts: DriftsOf. -/
namespace Go.Proofs.Ytombfbmcplefgaa
open Go.ChangeShapes Go.WideShapes Go.ChangeAt Go.RowKit

/-- A call that hands back a new list of pairs, and whether it is one. -/
def RetPB (w : World) (L : List (Int × Int)) (r : Bool) (e : Ending) (w' : World) : Prop := ∃ A c, e = .returned (.tuple #[.slice A L.length c, .bool r]) ∧ OwnS2 w' w.heap.size A L ∧ Below w.heap.size w w'
noncomputable def drfR (xs ys ps : List Int) : List (Int × Int) := if procOk xs ys ps then dftK xs ys ps xs.length else []
theorem drfR_no {xs ys ps : List Int} (h : procOk xs ys ps = false) : drfR xs ys ps = [] := by unfold drfR; rw [h]; rfl
theorem drfR_yes {xs ys ps : List Int} (h : procOk xs ys ps = true) : drfR xs ys ps = dftK xs ys ps xs.length := by unfold drfR; rw [h]; rfl
theorem drfR_len (xs ys ps : List Int) (hn : xs.length ≤ 1048576) : (drfR xs ys ps).length ≤ 2000000 := by
  unfold drfR; split
  · have := dftK_len xs ys ps xs.length; omega
  · simp
end Go.Proofs.Ytombfbmcplefgaa
/- Plain: the parts of a process. Contracts: l2Add at a whole number. -/
namespace Go.Proofs.Ytombfbmcplefgaa
open Go.ChangeShapes Go.WideShapes Go.ChangeAt Go.RowKit

set_option maxHeartbeats 2000000 in
set_option maxRecDepth 100000 in
theorem l2Add_one (a b c d : Int) (w : World) (ha : -999 ≤ a ∧ a ≤ 999) (hb : 1 ≤ b ∧ b ≤ 1) (hc : -24000000000000 ≤ c ∧ c ≤ 24000000000000) (hd : 1 ≤ d ∧ d ≤ 480000000) :
    Calls Try.prog 101 #[.agg #[.int .i64 a, .int .i64 b], .agg #[.int .i64 c, .int .i64 d]] w fun e w' => e = .returned (.agg #[.int .i64 (lowX (a * d + c * b) (b * d)), .int .i64 (lowY (a * d + c * b) (b * d))]) ∧ Below w.heap.size w w' := by
  obtain ⟨b', d', eb, ed⟩ := gcd_split b d
  have hk := gcd_pos b d (by omega)
  have hkl := gcd_le b d (by omega)
  obtain ⟨k, hgk⟩ : ∃ k : Int, (Int.gcd b d : Int) = k := ⟨_, rfl⟩
  rw [hgk] at eb ed hk hkl
  have hg : Hid ((Int.gcd b d : Int) = k) := hgk
  clear hgk
  have tb : b.tdiv k = b' := by rw [eb]; exact Int.mul_tdiv_cancel_left _ (by omega)
  have td : d.tdiv k = d' := by rw [ed]; exact Int.mul_tdiv_cancel_left _ (by omega)
  have bb := tdiv_bd b k 1 (by omega) (by omega)
  have bd := tdiv_bd d k 480000000 (by omega) (by omega)
  rw [tb] at bb
  rw [td] at bd
  have b1 : 1 ≤ b' := by
    rcases Int.lt_or_le 0 b' with h | h
    · omega
    · have := Int.mul_nonpos_of_nonneg_of_nonpos (a := k) (b := b') (by omega) h
      omega
  have d1 : 1 ≤ d' := by
    rcases Int.lt_or_le 0 d' with h | h
    · omega
    · have := Int.mul_nonpos_of_nonneg_of_nonpos (a := k) (b := d') (by omega) h
      omega
  have m1 := mul_bd (a := a) (d := d') (A := 999) (D := 480000000) (by omega) (by omega)
  have m2 := mul_bd (a := c) (d := b') (A := 24000000000000) (D := 1) (by omega) (by omega)
  have m3 := mul_bd (a := b') (d := d) (A := 1) (D := 480000000) (by omega) (by omega)
  have q1 : 1 * 1 ≤ b' * d := Int.mul_le_mul (by omega) (by omega) (by omega) (by omega)
  have q2 : 1 * 1 ≤ b * d := Int.mul_le_mul (by omega) (by omega) (by omega) (by omega)
  have hs : lowX (a * d' + c * b') (b' * d) = lowX (a * d + c * b) (b * d) ∧ lowY (a * d' + c * b') (b' * d) = lowY (a * d + c * b) (b * d) := by
    refine low_same (by omega) (by omega) ?_
    have e1 : a * d + c * b = k * (a * d' + c * b') := by
      rw [Int.mul_add]
      congr 1
      · conv => lhs; rw [ed]
        rw [Int.mul_left_comm]
      · conv => lhs; rw [eb]
        rw [Int.mul_left_comm]
    have e2 : b * d = k * (b' * d) := by
      conv => lhs; arg 1; rw [eb]
      rw [Int.mul_assoc]
    rw [e1, e2, Int.mul_left_comm, Int.mul_assoc]
  rw [← hs.1, ← hs.2]
  clear hs eb ed q2
  obtain ⟨x, hx⟩ : ∃ x, a * d' = x := ⟨_, rfl⟩
  obtain ⟨y, hy⟩ : ∃ y, c * b' = y := ⟨_, rfl⟩
  obtain ⟨q, hq⟩ : ∃ q, b' * d = q := ⟨_, rfl⟩
  rw [hx] at m1 ⊢
  rw [hy] at m2 ⊢
  rw [hq] at m3 q1 ⊢
  have hwx : IntKind.i64.wrap (a * d') = x := by rw [hx]; exact IntWalk.i64_in _ (by omega)
  have hwy : IntKind.i64.wrap (c * b') = y := by rw [hy]; exact IntWalk.i64_in _ (by omega)
  have hwq : IntKind.i64.wrap (b' * d) = q := by rw [hq]; exact IntWalk.i64_in _ (by omega)
  have hwxy : IntKind.i64.wrap (x + y) = x + y := IntWalk.i64_in _ (by omega)
  have hwb : IntKind.i64.wrap b' = b' := IntWalk.i64_in _ (by omega)
  have hwd : IntKind.i64.wrap d' = d' := IntWalk.i64_in _ (by omega)
  have HL := Lib.hid (fun W => l2Cut_any (x + y) q W (by omega) (by omega) (by omega))
  have HG := Lib.hid (fun W => l2Gcd_d b d k W hg (by omega) (by omega))
  have hz : (k == 0) = false := by simp; omega
  have hz0 : ¬ k = 0 := by omega
  clear hx hy hq m1 m2 m3 hg bb bd
  generalize lowX (x + y) q = X at *
  generalize lowY (x + y) q = Y at *
  go_enter Try.func101, Try.ntmps101
  go_wp2_with fail
  refine (HG.out _).mono ?_; rintro e w1 ⟨rfl, nq, rfl⟩
  go_wp2_with fail
  go_region_held3 (fun w' => w'.cell? ⟨w.heap.size, 0, none⟩ = some (.int .i64 a) ∧ w'.cell? ⟨w.heap.size, 1, none⟩ = some (.int .i64 b) ∧ w'.cell? ⟨w.heap.size + 1, 0, none⟩ = some (.int .i64 c) ∧ w'.cell? ⟨w.heap.size + 1, 1, none⟩ = some (.int .i64 d) ∧ (w'.cell? ⟨w.heap.size + 1 + 1, 0, none⟩).isSome = true ∧ (w'.cell? ⟨w.heap.size + 1 + 1, 1, none⟩).isSome = true ∧ w'.frozen? ⟨w.heap.size + 1 + 1, 0, none⟩ = false ∧ w'.frozen? ⟨w.heap.size + 1 + 1, 1, none⟩ = false ∧ Below w.heap.size w w')
    (first | (simp; ((repeat (first | with_reducible exact Below.refl _ _ | with_reducible assumption | with_reducible refine Below.alloc' ?_ ?_ _ | with_reducible refine Below.setCell' ?_ ?_ _ | with_reducible refine Below.drewN' ?_ _ | with_reducible refine Below.drew ?_ | with_reducible refine Below.transA ?_ (by assumption) ?_ | omega | (focus (simp; done)) | (focus (simp; omega)))); done)) | (go_split_ands; (repeat' (refine And.intro ?_ ?_)) <;> first | exact keep_cell hb1 (by assumption) | exact keep_some hb1 (by assumption) | exact keep_froz hb1 (by assumption) (by assumption) | exact keep_below hb1 (by assumption)) | (go_split_ands; (repeat' (refine And.intro ?_ ?_)) <;> first | (((repeat (first | with_reducible exact Below.refl _ _ | with_reducible assumption | with_reducible refine Below.alloc' ?_ ?_ _ | with_reducible refine Below.setCell' ?_ ?_ _ | with_reducible refine Below.drewN' ?_ _ | with_reducible refine Below.drew ?_ | with_reducible refine Below.transA ?_ (by assumption) ?_ | omega | (focus (simp; done)) | (focus (simp; omega)))); done)) | (simp (maxDischargeDepth := 9) [*, go_sem]; done)))
    (first | (go_at_call 116; refine (HL.out _).mono ?_; rintro e w1 ⟨rfl, hb1⟩; (obtain ⟨hc1, hf1, hz1⟩ := bcell hb1; have hy1 := hb1.size; (try simp at hz1); (try simp at hy1); (try simp at hc1); (try simp at hf1))))
  go_split_ands
  go_wp2
  exact bodyPost_ret (v := .agg #[.int .i64 X, .int .i64 Y]) (by simp (maxDischargeDepth := 9) [results, Try.results101, go_sem, *]) rfl ⟨rfl, by assumption⟩
theorem l2Add_whole (n s r : Int) (w : World) (ha : -999 ≤ n ∧ n ≤ 999) (hc : -24000000000000 ≤ s ∧ s ≤ 24000000000000) (hd : 1 ≤ r ∧ r ≤ 480000000) :
    Calls Try.prog 101 #[.agg #[.int .i64 n, .int .i64 1], .agg #[.int .i64 (-s), .int .i64 r]] w fun e w' => e = .returned (.agg #[.int .i64 (lowX (n * r - s) r), .int .i64 (lowY (n * r - s) r)]) ∧ Below w.heap.size w w' := by
  have := l2Add_one n 1 (-s) r w ha (by omega) (by omega) hd
  rw [Int.mul_one, Int.one_mul, ← Int.sub_eq_add_neg] at this
  exact this
def dbSum (xs ys ps : List Int) (K : List (Int × Int)) (x : Nat) : Int × Int :=
  if x = 0 then (0, 1) else
    (lowX ((nthp K (nth xs x).toNat).1 * (dftP xs ys ps (nth xs x).toNat).2 + (dftP xs ys ps (nth xs x).toNat).1 * (nthp K (nth xs x).toNat).2) ((nthp K (nth xs x).toNat).2 * (dftP xs ys ps (nth xs x).toNat).2),
     lowY ((nthp K (nth xs x).toNat).1 * (dftP xs ys ps (nth xs x).toNat).2 + (dftP xs ys ps (nth xs x).toNat).1 * (nthp K (nth xs x).toNat).2) ((nthp K (nth xs x).toNat).2 * (dftP xs ys ps (nth xs x).toNat).2))
def dbRest (ps : List Int) (s : Int × Int) (x : Nat) : Int × Int := (lowX (nth ps x * s.2 - s.1) s.2, lowY (nth ps x * s.2 - s.1) s.2)
def dbK (xs ys ps : List Int) : Nat → List (Int × Int)
  | 0 => []
  | k + 1 => dbK xs ys ps k ++ [dbSum xs ys ps (dbK xs ys ps k) k]
def dbS (xs ys ps : List Int) (x : Nat) : Int × Int := dbSum xs ys ps (dbK xs ys ps x) x
def dbR (xs ys ps : List Int) (x : Nat) : Int × Int := dbRest ps (dbS xs ys ps x) x
def dbF (xs ys ps : List Int) (k : Nat) : List (Int × Int) := (List.range k).map (dbR xs ys ps)
theorem dbF_succ (xs ys ps : List Int) (k : Nat) : dbF xs ys ps (k + 1) = dbF xs ys ps k ++ [dbR xs ys ps k] := by
  unfold dbF; rw [List.range_succ, List.map_append]; rfl
theorem dbF_len (xs ys ps : List Int) (k : Nat) : (dbF xs ys ps k).length = k := by simp [dbF]
theorem dbK_len (xs ys ps : List Int) (k : Nat) : (dbK xs ys ps k).length = k := by
  induction k with
  | zero => rfl
  | succ k ih => unfold dbK; simp [ih]
theorem dbK_succ (xs ys ps : List Int) (k : Nat) : dbK xs ys ps (k + 1) = dbK xs ys ps k ++ [dbS xs ys ps k] := rfl
theorem nthp_lt {L M : List (Int × Int)} {j : Nat} (h : j < L.length) : nthp (L ++ M) j = nthp L j := by
  unfold nthp; simp [List.getD, List.getElem?_append_left h]
theorem nthp_end (L : List (Int × Int)) (a : Int × Int) : nthp (L ++ [a]) L.length = a := by
  unfold nthp; simp [List.getD]
theorem dbK_nth (xs ys ps : List Int) {k j : Nat} (h : j < k) : nthp (dbK xs ys ps k) j = dbS xs ys ps j := by
  induction k with
  | zero => omega
  | succ k ih =>
    rw [dbK_succ]
    by_cases e : j = k
    · subst e
      conv => lhs; arg 2; rw [← dbK_len xs ys ps j]
      exact nthp_end _ _
    · rw [nthp_lt (by rw [dbK_len]; omega)]; exact ih (by omega)
theorem dftK_nth (xs ys ps : List Int) {k j : Nat} (h : j < k) : nthp (dftK xs ys ps k) j = dftP xs ys ps j := by
  unfold nthp dftK; simp [List.getD, h]
def dbOne (xs ys ps : List Int) (x : Nat) : Bool := isFrac (dbS xs ys ps x).1 (dbS xs ys ps x).2 && isFrac (dbR xs ys ps x).1 (dbR xs ys ps x).2
def dbAll (xs ys ps : List Int) (n : Nat) : Bool := (List.range n).all (dbOne xs ys ps)
theorem dbAll_no {xs ys ps : List Int} {n j : Nat} (hj : j < n) (h : dbOne xs ys ps j = false) : dbAll xs ys ps n = false := by
  unfold dbAll; rw [List.all_eq_false]; exact ⟨j, List.mem_range.2 hj, by rw [h]; simp⟩
theorem dbAll_yes {xs ys ps : List Int} {n : Nat} (h : ∀ j, j < n → dbOne xs ys ps j = true) : dbAll xs ys ps n = true := by
  unfold dbAll; rw [List.all_eq_true]; exact fun j hj => h j (List.mem_range.1 hj)
theorem low_bd {a b A B : Int} (hA : 0 ≤ A) (ha : -A ≤ a ∧ a ≤ A) (hb : 1 ≤ b ∧ b ≤ B) : (-A ≤ lowX a b ∧ lowX a b ≤ A) ∧ 1 ≤ lowY a b ∧ lowY a b ≤ B :=
  ⟨tdiv_bd a (lowD a b) A hA ha, lowY_pos a b (by omega), (tdiv_bd b (lowD a b) B (by omega) (by omega)).2⟩
theorem low_isFrac {a b : Int} (ha : -1000000000 ≤ a ∧ a ≤ 1000000000) (hb : 1 ≤ b ∧ b ≤ 1000000) : isFrac (lowX a b) (lowY a b) = true := by
  rw [isFrac_low a b (by omega)]; exact (drift_low ha hb).1
theorem dft_frac {xs ys ps : List Int} (hg : good xs ys = true) (hp : ∀ j, -999 ≤ nth ps j ∧ nth ps j ≤ 999) {x : Nat} (hx : x < xs.length) :
    isFrac (dftP xs ys ps x).1 (dftP xs ys ps x).2 = true ∧ (-23016960 ≤ (dftP xs ys ps x).1 ∧ (dftP xs ys ps x).1 ≤ 23016960) ∧ 1 ≤ (dftP xs ys ps x).2 ∧ (dftP xs ys ps x).2 ≤ 480 := by
  have h1 := dft_bd hg hp x
  have h2 := sums_one hg hx
  have h3 := sums_bd hg x
  have h4 := low_bd (a := dftN xs ys ps x) (b := nth (sumsL xs ys) x) (A := 23016960) (B := 480) (by omega) h1 (by omega)
  exact ⟨low_isFrac (by omega) (by omega), h4.1, h4.2⟩
theorem db_root (xs ys ps : List Int) : dbS xs ys ps 0 = (0, 1) := rfl
/-- The known part at a node below another one. -/
theorem db_step {xs ys ps : List Int} (hg : good xs ys = true) (hp : ∀ j, -999 ≤ nth ps j ∧ nth ps j ≤ 999) {x p : Nat} (h1 : 1 ≤ x) (hx : x < xs.length) (hpx : nth xs x = p) (hl : p < x) (hf : isFrac (dbS xs ys ps p).1 (dbS xs ys ps p).2 = true) :
    dbS xs ys ps x = (lowX ((dbS xs ys ps p).1 * (dftP xs ys ps p).2 + (dftP xs ys ps p).1 * (dbS xs ys ps p).2) ((dbS xs ys ps p).2 * (dftP xs ys ps p).2), lowY ((dbS xs ys ps p).1 * (dftP xs ys ps p).2 + (dftP xs ys ps p).1 * (dbS xs ys ps p).2) ((dbS xs ys ps p).2 * (dftP xs ys ps p).2)) ∧
    ((dbS xs ys ps p).2 * (dftP xs ys ps p).2 ≠ 0) ∧ (-24000000000000 ≤ (dbS xs ys ps x).1 ∧ (dbS xs ys ps x).1 ≤ 24000000000000) ∧ 1 ≤ (dbS xs ys ps x).2 ∧ (dbS xs ys ps x).2 ≤ 480000000 := by
  have e : dbS xs ys ps x = (lowX ((dbS xs ys ps p).1 * (dftP xs ys ps p).2 + (dftP xs ys ps p).1 * (dbS xs ys ps p).2) ((dbS xs ys ps p).2 * (dftP xs ys ps p).2), lowY ((dbS xs ys ps p).1 * (dftP xs ys ps p).2 + (dftP xs ys ps p).1 * (dbS xs ys ps p).2) ((dbS xs ys ps p).2 * (dftP xs ys ps p).2)) := by
    conv => lhs; unfold dbS dbSum
    rw [if_neg (by omega), hpx, Int.toNat_natCast, dbK_nth xs ys ps hl]
  obtain ⟨f1, f2, f3, f4⟩ := frac_bd hf
  obtain ⟨_, d1, d2, d3⟩ := dft_frac hg hp (x := p) (by omega)
  have m1 := mul_bd (a := (dbS xs ys ps p).1) (d := (dftP xs ys ps p).2) (A := 1000000000) (D := 480) (by omega) (by omega)
  have m2 := mul_bd (a := (dftP xs ys ps p).1) (d := (dbS xs ys ps p).2) (A := 23016960) (D := 1000000) (by omega) (by omega)
  have m3 := mul_bd (a := (dbS xs ys ps p).2) (d := (dftP xs ys ps p).2) (A := 1000000) (D := 480) (by omega) (by omega)
  have m4 : 1 * 1 ≤ (dbS xs ys ps p).2 * (dftP xs ys ps p).2 := Int.mul_le_mul (by omega) (by omega) (by omega) (by omega)
  have b := low_bd (a := (dbS xs ys ps p).1 * (dftP xs ys ps p).2 + (dftP xs ys ps p).1 * (dbS xs ys ps p).2) (b := (dbS xs ys ps p).2 * (dftP xs ys ps p).2) (A := 24000000000000) (B := 480000000) (by omega) (by omega) (by omega)
  refine ⟨e, by omega, ?_, ?_⟩
  · rw [e]; exact b.1
  · rw [e]; exact b.2
noncomputable def dbOk (xs ys ps : List Int) : Bool := procOk xs ys ps && dbAll xs ys ps xs.length
def dbPick : Bool → List (Int × Int) → List (Int × Int)
  | true, L => L
  | false, _ => []
noncomputable def dbRF (xs ys ps : List Int) : List (Int × Int) := dbPick (dbOk xs ys ps) (dbF xs ys ps xs.length)
noncomputable def dbRK (xs ys ps : List Int) : List (Int × Int) := dbPick (dbOk xs ys ps) (dbK xs ys ps xs.length)
theorem dbOk_no {xs ys ps : List Int} (h : procOk xs ys ps = false) : dbOk xs ys ps = false := by unfold dbOk; rw [h]; rfl
theorem dbOk_yes {xs ys ps : List Int} (h : procOk xs ys ps = true) : dbOk xs ys ps = dbAll xs ys ps xs.length := by unfold dbOk; rw [h]; rfl
theorem dbRF_no {xs ys ps : List Int} (h : procOk xs ys ps = false) : dbRF xs ys ps = [] := by unfold dbRF; rw [dbOk_no h]; rfl
theorem dbRK_no {xs ys ps : List Int} (h : procOk xs ys ps = false) : dbRK xs ys ps = [] := by unfold dbRK; rw [dbOk_no h]; rfl
theorem dbRF_yes {xs ys ps : List Int} (h : procOk xs ys ps = true) : dbRF xs ys ps = dbPick (dbAll xs ys ps xs.length) (dbF xs ys ps xs.length) := by unfold dbRF; rw [dbOk_yes h]
theorem dbRK_yes {xs ys ps : List Int} (h : procOk xs ys ps = true) : dbRK xs ys ps = dbPick (dbAll xs ys ps xs.length) (dbK xs ys ps xs.length) := by unfold dbRK; rw [dbOk_yes h]
theorem dbRF_len (xs ys ps : List Int) (hn : xs.length ≤ 1048576) : (dbRF xs ys ps).length ≤ 2000000 := by
  unfold dbRF
  cases dbOk xs ys ps with
  | false => simp [dbPick]
  | true => show (dbF _ _ _ _).length ≤ _; rw [dbF_len]; omega
theorem dbRK_len (xs ys ps : List Int) (hn : xs.length ≤ 1048576) : (dbRK xs ys ps).length ≤ 2000000 := by
  unfold dbRK
  cases dbOk xs ys ps with
  | false => simp [dbPick]
  | true => show (dbK _ _ _ _).length ≤ _; rw [dbK_len]; omega
set_option maxHeartbeats 1000000 in
set_option maxRecDepth 100000 in
theorem markIntA2S_ap (A A' : Option Addr) (c : Nat) (L M : List (Int × Int)) (s : Int) (w : World) (B : Nat) (h : OwnS2 w B A L) (k : OwnS2 w B A' M) (hd : ∀ g g' : Nat, A = some ⟨g, 0, none⟩ → A' = some ⟨g', 0, none⟩ → g ≠ g') (hn : L.length ≤ 2000000) (h0 : 0 ≤ s) (h1 : s ≤ 100000000) :
    Calls Try.prog 31 #[.slice A L.length c, .int .i64 s] w fun e w' => e = .returned (.int .i64 (s + ((L.length * 2 : Nat) : Int))) ∧ OwnS2 w' B A (pmarks s L.length) ∧ OwnS2 w' B A' M ∧ ∃ g, B ≤ g ∧ KeptBut w w' g g := by
  rcases h with ⟨rfl, rfl⟩ | ⟨g, rfl, hB, hr⟩
  · go_enter Try.func31, Try.ntmps31
    go_wp2
    refine wp_loop_rounds 1 ?_
    rw [rounds_succ]
    go_wp2
    go_ret
    exact ⟨by simp, .inl ⟨rfl, rfl⟩, k, B, Nat.le_refl _, rfl, rfl, rfl, Nat.le_refl _, fun _ _ _ _ => rfl⟩
  · refine (markIntA2S_row g c L s w hr hn h0 h1).mono fun e w' ⟨he, hr', hg⟩ => ⟨he, .inr ⟨g, rfl, hB, hr'⟩, ?_, g, hB, hg.os, hg.tape, hg.output, hg.size, fun k hk hp _ => hg.block k hk (fun e => hp (by injection e))⟩
    rcases k with k | ⟨g', hA', hB', hr2⟩
    · exact .inl k
    · exact .inr ⟨g', hA', hB', hr2.grown hg (fun e => hd g g' rfl hA' (by injection e))⟩
/-- A call that hands back two new lists of pairs, apart in memory, and whether there are such. -/
def RetPPB (w : World) (L M : List (Int × Int)) (r : Bool) (e : Ending) (w' : World) : Prop := ∃ A c A' c', e = .returned (.tuple #[.slice A L.length c, .slice A' M.length c', .bool r]) ∧ OwnS2 w' w.heap.size A L ∧ OwnS2 w' w.heap.size A' M ∧ (∀ g g' : Nat, A = some ⟨g, 0, none⟩ → A' = some ⟨g', 0, none⟩ → g ≠ g') ∧ Below w.heap.size w w'
end Go.Proofs.Ytombfbmcplefgaa
/- Contracts: over. -/
namespace Go.Proofs.Ytombfbmcplefgaa
open Go.ChangeShapes Go.WideShapes Go.ChangeAt Go.RowKit

/-- The place in a list of the first node that is met on the way up, or -1. -/
def ovU (ns : List Int) : List Int → Int
  | [] => -1
  | v :: U => if 0 ≤ idxI ns v then idxI ns v else ovU ns U
def ovX (xs ns : List Int) (y : Int) : Int := ovU ns (up xs y.toNat)
def ovL (xs ns : List Int) : List Int := mapI (ovX xs ns) (endsL xs) (endsL xs).length
theorem ovL_len (xs ns : List Int) : (ovL xs ns).length = (endsL xs).length := mapI_len _ _ (Nat.le_refl _)
theorem ov_all {xs : List Int} (ns : List Int) (hu : ∀ j, 1 ≤ j → j < xs.length → ∃ p : Nat, nth xs j = p ∧ p < j) (h0 : nth xs 0 = -1) {q : Nat} (hq : q < xs.length) :
    ∃ a : Int, nth xs q = a ∧ -1 ≤ a ∧ a < q ∧ ((0 ≤ idxI ns q ∧ ovX xs ns q = idxI ns q) ∨ (idxI ns q = -1 ∧ ((a = -1 ∧ ovX xs ns q = -1) ∨ ∃ p : Nat, a = p ∧ p < xs.length ∧ ovX xs ns q = ovX xs ns p))) := by
  have hi : idxI ns q = -1 ∨ 0 ≤ idxI ns q := by
    rcases idxI_cases ns q with ⟨_, h⟩ | ⟨_, i, h, _⟩ <;> omega
  by_cases hz : q = 0
  · subst hz
    refine ⟨-1, h0, by omega, by omega, ?_⟩
    have e : ovX xs ns ((0 : Nat) : Int) = if 0 ≤ idxI ns ((0 : Nat) : Int) then idxI ns ((0 : Nat) : Int) else -1 := by
      unfold ovX; rw [Int.toNat_natCast, up_zero]; rfl
    rcases hi with h | h
    · exact .inr ⟨h, .inl ⟨rfl, by rw [e, if_neg (by omega)]⟩⟩
    · exact .inl ⟨h, by rw [e, if_pos h]⟩
  · obtain ⟨p, hp, hpq⟩ := hu q (by omega) hq
    refine ⟨p, hp, by omega, by omega, ?_⟩
    have e : ovX xs ns (q : Int) = if 0 ≤ idxI ns (q : Int) then idxI ns (q : Int) else ovX xs ns (p : Int) := by
      unfold ovX; rw [Int.toNat_natCast, Int.toNat_natCast, up_step hu (by omega) hq hp hpq]; rfl
    rcases hi with h | h
    · exact .inr ⟨h, .inr ⟨p, rfl, by omega, by rw [e, if_neg (by omega)]⟩⟩
    · exact .inl ⟨h, by rw [e, if_pos h]⟩

set_option maxHeartbeats 4000000 in
set_option maxRecDepth 100000 in
theorem over_good {xs ys : List Int} (hg : good xs ys = true) (A B N : Option Addr) (c e cn : Nat) (ns : List Int) (w : World) (h : IntS w A xs) (zn : IntS w N ns) (ln : ns.length ≤ 2000000) :
    Calls Try.prog 92 #[.agg #[.slice A xs.length c, .slice B ys.length e], .slice N ns.length cn] w (RetI w (ovL xs ns)) := by
  have hgl := good_len hg
  have HE := Lib.hid (fun W (h : IntS W A xs) => ends_any A B c ys.length e xs W h (by omega) (good_iff.1 hg).2.1 (good_root hg))
  have HEM : Hid (∀ j, j < (endsL xs).length → ∃ y : Nat, nth (endsL xs) j = y ∧ y < xs.length) := fun j hj => by obtain ⟨y, h1, h2, _⟩ := ends_mem hj; exact ⟨y, h1, h2⟩
  have hel := ends_len xs
  have hep := ends_pos hg
  have HS := Lib.hid (fun (q : Nat) (hq : q < xs.length) => ov_all ns (good_upL hg) (good_root hg) hq)
  have HIX := Lib.hid (fun W v (z : IntS W N ns) => index_any N cn ns v W z ln)
  obtain ⟨n, e1⟩ : ∃ n, xs.length = n := ⟨_, rfl⟩
  have e2 : ys.length = n := by rw [hgl.2.2]; exact e1
  simp only [e1, e2] at HE HEM hgl hel HS ⊢
  have HN := Lib.hid e1.symm
  obtain ⟨hgl1, hgl2, _⟩ := hgl
  clear e1 e2 hg
  unfold ovL
  generalize ovX xs ns = f at *
  have HMS := Lib.hid (fun i (h : i < (endsL xs).length) => mapI_succ f (endsL xs) h)
  have HML := Lib.hid (fun i (h : i ≤ (endsL xs).length) => mapI_len f (endsL xs) h)
  generalize endsL xs = E at *
  obtain ⟨i0, hi, hz0, hz1, hz2⟩ := info_parts info_int
  go_enter Try.func92, Try.ntmps92
  go_wp2_with fail
  refine (HE.out _ ((h.alloc _).alloc _)).mono ?_
  rintro e1 w1 ⟨A1, c1, rfl, ho, hb1⟩
  have hx0 : w1.cell? ⟨w.heap.size, 0, none⟩ = some (.slice A n c) := keep_cell hb1 (by simp)
  have hx1 : w1.cell? ⟨w.heap.size, 1, none⟩ = some (.slice B n e) := keep_cell hb1 (by simp)
  have hown := own_below (own_empty (w.alloc (.cells #[.slice A n c, .slice B n e] 28)) (w.heap.size + 1) (w.heap.size + 1) (by simp) (by simp)) hb1
  have hw : Below w.heap.size w w1 := below_alloc (below_alloc hb1)
  obtain ⟨gE, rfl, hgE, hE⟩ := ho.pos hep
  replace hgE : w.heap.size + 1 < gE := by simp at hgE; omega
  clear ho hb1
  go_wp2
  go_loopw [5, 14] (fun v i wr => ∃ j : Nat, j ≤ E.length ∧ i = .int .i64 j ∧ wr.ownsRow (w.heap.size + 1) 3 1 v (mapI f E j).length (i64s (mapI f E j)) ∧ v.ownBlock ≠ some gE ∧ Row wr gE E ∧ wr.cell? ⟨w.heap.size, 0, none⟩ = some (.slice A n c) ∧ wr.cell? ⟨w.heap.size, 1, none⟩ = some (.slice B n e) ∧ Below w.heap.size w wr) (fun _ i _ => E.length - (intOf i).toNat)
  case atStart => exact ⟨0, by omega, rfl, hown, by simp [Value.ownBlock]; omega, hE, hx0, hx1, hw⟩
  case round =>
    clear hown hE hx0 hx1 hw
    obtain ⟨j, hj, rfl, hown, hne, hE, hx0, hx1, hw⟩ := hrel
    by_cases hlt : j < E.length
    · obtain ⟨y, hy, hyn⟩ := HEM.out j hlt
      have hcE := hE.cell hlt
      rw [hy] at hcE
      have hlt' : (j : Int) < E.length := by omega
      have hms := HMS.out j hlt
      rw [hy] at hms
      obtain ⟨t0, ht0⟩ : ∃ t, f y = t := ⟨_, rfl⟩
      rw [ht0] at hms
      have HT0 := Lib.hid ht0
      have HMJ := Lib.hid (HML.out j hj)
      have HPX : Hid (i64s (mapI f E (j + 1)) = i64s (mapI f E j) ++ [Value.int .i64 t0] ∧ (mapI f E (j + 1)).length = (mapI f E j).length + 1) := by rw [hms]; exact ⟨i64s_app _ _, by simp⟩
      have hlen : (mapI f E j).length ≤ 24 := by rw [HMJ.out]; omega
      clear hy hms ht0
      generalize mapI f E j = L at *
      have hlx := World.block_lt_of_cell? _ _ hx0
      replace hlx : w.heap.size < wr.heap.size := hlx
      go_wp2
      go_loop [8, 9] (fun av xv => (∃ q : Nat, q < n ∧ xv = .int .i64 q ∧ av = .int .i64 (-1) ∧ Hid (f q = t0)) ∨ (∃ a : Int, -1 ≤ a ∧ a < n ∧ xv = .int .i64 a ∧ av = .int .i64 t0 ∧ (0 ≤ t0 ∨ a = -1))) (fun _ xv => (intOf xv + 1).toNat)
      case atStart => exact .inl ⟨y, hyn, rfl, rfl, HT0⟩
      case round =>
        rcases hrel with ⟨q, hq, rfl, rfl, hf⟩ | ⟨a, ha1, ha2, rfl, rfl, hend⟩
        · obtain ⟨b1, o1, rfl, hcx⟩ := (h.below hw).at_ (j := q) (by rw [← HN.out]; exact hq)
          obtain ⟨a, hae, ha1, ha2, hcase⟩ := HS.out q hq
          rw [hae] at hcx
          have HCI := fun W z => HIX.out W q z
          have HCS := Lib.hid hcase
          clear hae hcase
          have i1 : (q : Int) < n := by omega
          go_wp2_with (go_at_call 142; refine (HIX.out _ _ (zn.below hw)).mono ?_; rintro e w' ⟨rfl, rfl⟩)
          go_round
          case rel =>
            rcases HCS.out with ⟨h1, h2⟩ | ⟨h1, ⟨h2, h3⟩ | ⟨p, h2, h3, h4⟩⟩
            · exact .inr ⟨a, ha1, by omega, rfl, by rw [← hf.out, h2], .inl (by rw [← hf.out, h2]; exact h1)⟩
            · exact .inr ⟨a, ha1, by omega, rfl, by rw [← hf.out, h3, h1], .inr h2⟩
            · exact .inl ⟨p, h3, by rw [h2], by rw [h1], show f p = t0 by rw [← h4]; exact hf.out⟩
          case measure => simp [intOf]; omega
        · by_cases h9 : 0 ≤ a
          · have h8 : 0 ≤ t0 := by omega
            clear hend
            go_wp2_with (at_builtin; (refine wpList_append_own_at _ rfl _ _ 22 rfl (w.heap.size + 1) 3 i0 (.int .i64 0) 1 8 Try.underlying22 hi hz0 hz1 hz2 rfl (by decide) _ _ _ rfl (hown.alloc _) ⟨wr.heap.size, 0, none⟩ 1 1 [.int .i64 (t0)] rfl rfl (cell_one_new _ _ _) (by simp [Value.oneCell']) (by unfold maxLen; omega) (by omega) (by simp; omega) ?_); intro v' w1 hown1 hgrow _ hat)
            have hrow1 := (hE.alloc (.cells #[.int .i64 t0] 3)).grown hgrow (fun e => hne e.symm)
            have hxx0 := grown_cell hgrow (p := ⟨w.heap.size, 0, none⟩) (by rw [World.cell?_alloc_lt _ _ _ hlx]; exact hx0) (own_ne (g := w.heap.size) hown (by omega))
            have hxx1 := grown_cell hgrow (p := ⟨w.heap.size, 1, none⟩) (by rw [World.cell?_alloc_lt _ _ _ hlx]; exact hx1) (own_ne (g := w.heap.size) hown (by omega))
            have hb3 : Below w.heap.size w w1 := Below.grown (hw.alloc hw.size _) hgrow (by simp; omega) (fun g hg => by have := (hown.lt g hg).1; omega)
            have hgl := hE.lt
            have hne1 : v'.ownBlock ≠ some gE := by
              rcases hat with e | e
              · rw [e]; exact hne
              · rw [e]; simp; omega
            rw [← HPX.out.1, ← HPX.out.2] at hown1
            clear hown hgrow hE hw HPX hx0 hx1 hne hat
            go_wp2
            go_roundw
            case rel => exact ⟨j + 1, by omega, by go_num, hown1, hne1, hrow1, hxx0, hxx1, hb3⟩
            case measure => simp only [intOf]; omega
          · clear hend
            go_wp2_with (at_builtin; (refine wpList_append_own_at _ rfl _ _ 22 rfl (w.heap.size + 1) 3 i0 (.int .i64 0) 1 8 Try.underlying22 hi hz0 hz1 hz2 rfl (by decide) _ _ _ rfl (hown.alloc _) ⟨wr.heap.size, 0, none⟩ 1 1 [.int .i64 (t0)] rfl rfl (cell_one_new _ _ _) (by simp [Value.oneCell']) (by unfold maxLen; omega) (by omega) (by simp; omega) ?_); intro v' w1 hown1 hgrow _ hat)
            have hrow1 := (hE.alloc (.cells #[.int .i64 t0] 3)).grown hgrow (fun e => hne e.symm)
            have hxx0 := grown_cell hgrow (p := ⟨w.heap.size, 0, none⟩) (by rw [World.cell?_alloc_lt _ _ _ hlx]; exact hx0) (own_ne (g := w.heap.size) hown (by omega))
            have hxx1 := grown_cell hgrow (p := ⟨w.heap.size, 1, none⟩) (by rw [World.cell?_alloc_lt _ _ _ hlx]; exact hx1) (own_ne (g := w.heap.size) hown (by omega))
            have hb3 : Below w.heap.size w w1 := Below.grown (hw.alloc hw.size _) hgrow (by simp; omega) (fun g hg => by have := (hown.lt g hg).1; omega)
            have hgl := hE.lt
            have hne1 : v'.ownBlock ≠ some gE := by
              rcases hat with e | e
              · rw [e]; exact hne
              · rw [e]; simp; omega
            rw [← HPX.out.1, ← HPX.out.2] at hown1
            clear hown hgrow hE hw HPX hx0 hx1 hne hat
            go_wp2
            go_roundw
            case rel => exact ⟨j + 1, by omega, by go_num, hown1, hne1, hrow1, hxx0, hxx1, hb3⟩
            case measure => simp only [intOf]; omega
    · have hkn : j = E.length := by omega
      rw [hkn] at hown
      obtain ⟨A', c', rfl, hO⟩ := own_form hown
      clear hkn hown
      go_wp2
      go_ret
      exact ⟨A', c', rfl, hO.mono (by omega), hw⟩
end Go.Proofs.Ytombfbmcplefgaa
/- Contracts: stoppings. -/
namespace Go.Proofs.Ytombfbmcplefgaa
open Go.ChangeShapes Go.WideShapes Go.ChangeAt Go.RowKit

/-- One node of the list is on the way to each end. -/
def onB (xs zs : List Int) : Bool := (List.range (endsL xs).length).all fun j => decide ((bothL zs (wayL xs (nth (endsL xs) j).toNat)).length = 1)
/-- A stopping of a valid tree. -/
def isStp (xs zs : List Int) : Bool := onB xs zs && (allIn zs 0 ((xs.length : Int) - 1) && riseB zs)
theorem onB_no {xs zs : List Int} {j : Nat} (hj : j < (endsL xs).length) (h : ¬ (bothL zs (wayL xs (nth (endsL xs) j).toNat)).length = 1) : onB xs zs = false := by
  rw [Bool.eq_false_iff]; intro ha
  exact h (of_decide_eq_true (List.all_eq_true.1 ha j (List.mem_range.2 hj)))
theorem onB_iff {xs zs : List Int} : onB xs zs = true ↔ ∀ j, j < (endsL xs).length → (bothL zs (wayL xs (nth (endsL xs) j).toNat)).length = 1 :=
  ⟨fun ha j hj => of_decide_eq_true (List.all_eq_true.1 ha j (List.mem_range.2 hj)), fun h => List.all_eq_true.2 fun j hj => decide_eq_true (h j (List.mem_range.1 hj))⟩
theorem stp_node {xs zs : List Int} (h : isStp xs zs = true) : ∀ j, j < zs.length → ∃ q : Nat, nth zs j = q ∧ q < xs.length := fun j hj => by
  have := allIn_iff.1 (Bool.and_eq_true_iff.1 (Bool.and_eq_true_iff.1 h).2).1 j hj
  exact ⟨(nth zs j).toNat, by omega, by omega⟩
theorem stp_rise {xs zs : List Int} (h : isStp xs zs = true) : riseB zs = true := (Bool.and_eq_true_iff.1 (Bool.and_eq_true_iff.1 h).2).2
theorem stp_len {xs zs : List Int} (h : isStp xs zs = true) : zs.length ≤ xs.length :=
  rise_len (stp_rise h) fun j hj => by obtain ⟨q, h1, h2⟩ := stp_node h j hj; omega
theorem stp_on {xs zs : List Int} (h : isStp xs zs = true) : ∀ j, j < (endsL xs).length → (bothL zs (wayL xs (nth (endsL xs) j).toNat)).length = 1 := onB_iff.1 (Bool.and_eq_true_iff.1 h).1

set_option maxHeartbeats 400000 in
theorem l3On_any {xs ys : List Int} (hg : good xs ys = true) (A B P : Option Addr) (c m e cz x : Nat) (zs : List Int) (w : World) (h : IntS w A xs) (z : IntS w P zs) (hx : x < xs.length) (hz : zs.length ≤ 1048576) :
    Calls Try.prog 96 #[.agg #[.slice A xs.length c, .slice B m e], .slice P zs.length cz, .int .i64 x] w (RetI w (bothL zs (wayL xs x))) := by
  have hgl := good_len hg
  have hwl := way_len xs x
  have HW := Lib.hid (fun W (h : IntS W A xs) => l2Way_any hg A B c m e x W h hx)
  have HB := Lib.hid (fun W (R : Option Addr) (cr : Nat) (z : IntS W P zs) (r : IntS W R (wayL xs x)) => l2Both_any P R cz cr zs (wayL xs x) W z r hz (by omega))
  generalize bothL zs (wayL xs x) = O at *
  generalize wayL xs x = K at *
  have n1 := hgl.1
  clear hg hgl hwl
  go_enter Try.func96, Try.ntmps96
  go_wp2_with fail
  refine (HW.out _ (h.alloc _)).mono ?_
  rintro e1 w1 ⟨A1, c1, rfl, ho, hb1⟩
  have hw := below_alloc hb1
  go_wp2_with fail
  refine (HB.out _ _ _ (z.below hw) ho.ints).mono ?_
  rintro e1 w2 ⟨A2, c2, rfl, ho2, hb2⟩
  go_wp2
  go_ret
  exact ⟨A2, c2, rfl, ho2.mono hw.size, keep_below hb2 hw⟩

set_option maxHeartbeats 2000000 in
set_option maxRecDepth 100000 in
theorem l3Stop_good {xs ys : List Int} (hg : good xs ys = true) (A B P : Option Addr) (c e cz : Nat) (zs : List Int) (w : World) (h : IntS w A xs) (z : IntS w P zs) (hz : zs.length ≤ 1048576) :
    Calls Try.prog 143 #[.agg #[.slice A xs.length c, .slice B ys.length e], .slice P zs.length cz] w fun e1 w' => e1 = .returned (.bool (isStp xs zs)) ∧ Below w.heap.size w w' := by
  have hgl := good_len hg
  have HO := Lib.hid (fun W (h : IntS W A xs) (z : IntS W P zs) (x : Nat) (hx : x < xs.length) => l3On_any hg A B P c ys.length e cz x zs W h z hx hz)
  have HE := Lib.hid (fun W (h : IntS W A xs) => l2Ends_any A B c ys.length e xs W h (by omega) (good_iff.1 hg).2.1 (good_root hg))
  have HR := Lib.hid (fun W (z : IntS W P zs) => l1Rising_any P cz zs 0 ((xs.length : Int) - 1) W z (by omega))
  have hep := ends_pos hg
  have hel := ends_len xs
  have HEM : Hid (∀ j, j < (endsL xs).length → ∃ y : Nat, nth (endsL xs) j = y ∧ y < xs.length) := fun j hj => by obtain ⟨y, h1, h2, _⟩ := ends_mem hj; exact ⟨y, h1, h2⟩
  have HL : Hid (∀ x : Nat, (bothL zs (wayL xs x)).length ≤ 1048576) := fun x => by have := bothL_len zs (wayL xs x); omega
  generalize hr : isStp xs zs = r
  have HV := Lib.hid hr
  have HNo : Hid (∀ j y : Nat, j < (endsL xs).length → nth (endsL xs) j = y → ¬ (bothL zs (wayL xs y)).length = 1 → r = false) := fun j y hj hy hn => by
    rw [← hr]; unfold isStp; rw [onB_no hj (by rw [hy]; exact hn)]; rfl
  have HYes : Hid ((∀ j y : Nat, j < (endsL xs).length → nth (endsL xs) j = y → (bothL zs (wayL xs y)).length = 1) → r = (allIn zs 0 ((xs.length : Int) - 1) && riseB zs)) := fun ha => by
    rw [← hr]; unfold isStp; rw [onB_iff.2 fun j hj => by obtain ⟨y, h1, h2⟩ := HEM.out j hj; rw [h1]; exact ha j y hj h1]; rfl
  clear hr HV hg
  obtain ⟨n, e1⟩ : ∃ n, xs.length = n := ⟨_, rfl⟩
  have e2 : ys.length = n := by rw [hgl.2.2]; exact e1
  simp only [e1, e2] at HO HE HR HEM HYes hgl hel ⊢
  obtain ⟨g1, g2, _⟩ := hgl
  clear e1 e2
  generalize endsL xs = E at *
  go_enter Try.func143, Try.ntmps143
  go_wp2_with fail
  refine (HE.out _ (h.alloc _)).mono ?_
  rintro e1 w1 ⟨A1, c1, rfl, ho, hb1⟩
  have hx0 : w1.cell? ⟨w.heap.size, 0, none⟩ = some (.slice A n c) := keep_cell hb1 (by simp)
  have hx1 : w1.cell? ⟨w.heap.size, 1, none⟩ = some (.slice B n e) := keep_cell hb1 (by simp)
  have hw : Below w.heap.size w w1 := below_alloc hb1
  obtain ⟨gE, rfl, hgE, hE⟩ := ho.pos hep
  clear ho HE hgE hb1
  go_wp2
  go_loopw [6] (fun i wr => ∃ j : Nat, j ≤ E.length ∧ i = .int .i64 (j : Int) ∧ Hid (∀ q y : Nat, q < j → nth E q = y → (bothL zs (wayL xs y)).length = 1) ∧ Row wr gE E ∧ wr.cell? ⟨w.heap.size, 0, none⟩ = some (.slice A n c) ∧ wr.cell? ⟨w.heap.size, 1, none⟩ = some (.slice B n e) ∧ Below w.heap.size w wr) (fun i _ => E.length - (intOf i).toNat)
  case atStart => exact ⟨0, Nat.zero_le _, rfl, fun j y hj => by omega, hE, hx0, hx1, hw⟩
  case round =>
    clear hx0 hx1 hw hE
    obtain ⟨j, hj, rfl, HA, hE, hx0, hx1, hw⟩ := hrel
    by_cases hlt : j < E.length
    · obtain ⟨y, hy, hyn⟩ := HEM.out j hlt
      have hcE := hE.cell hlt
      rw [hy] at hcE
      have hlt' : (j : Int) < E.length := by omega
      have HQ := Lib.hid (fun W (h : IntS W A xs) (z : IntS W P zs) => HO.out W h z y hyn)
      have hn1 := Lib.hid (HNo.out j y hlt hy)
      have HA' : Hid ((bothL zs (wayL xs y)).length = 1 → ∀ q y : Nat, q < j + 1 → nth E q = y → (bothL zs (wayL xs y)).length = 1) := fun h1 q y' hq hy' => by
        by_cases e : q = j
        · subst e; rw [hy] at hy'; have : y = y' := by omega
          subst this; exact h1
        · exact HA.out q y' (by omega) hy'
      have hbl := HL.out y
      clear hy
      generalize bothL zs (wayL xs y) = O at *
      go_wp2
      go_still_tail 6, (by kernel_rfl)
      change wpList _ _ _ _ _ wr.drew
      go_wp2_with fail
      refine (HQ.out _ (h.below hw.drew) (z.below hw.drew)).mono ?_
      rintro e1 w2 ⟨A2, c2, rfl, ho2, hb2⟩
      replace hE := hE.below (w' := w2) ⟨hb2.os, hb2.tape, hb2.output, hb2.size, hb2.block⟩
      replace hx0 := keep_cell hb2 hx0
      replace hx1 := keep_cell hb2 hx1
      replace hw := keep_below hb2 hw.drew
      clear hb2 ho2 HQ
      by_cases h1 : O.length = 1
      · have HA2 := Lib.hid (HA'.out h1)
        have hd : ((O.length : Int) != 1) = false := by rw [bne_eq_false_iff_eq]; omega
        clear h1 HA' hn1 HA
        go_wp2
        go_roundw
        case rel => exact ⟨j + 1, by omega, by go_num, HA2, hE, hx0, hx1, hw⟩
        case measure => simp [intOf]; omega
      · have hr : r = false := hn1.out h1
        subst hr
        have hd : ((O.length : Int) != 1) = true := by rw [bne_iff_ne]; omega
        clear h1 HA' hn1 HA HNo HYes
        go_wp2
        go_ret
        exact ⟨rfl, hw⟩
    · have hr := HYes.out (fun q y hq hy => HA.out q y (by omega) hy)
      subst hr
      clear HNo HYes HA HO HEM HL
      go_wp2_with fail
      refine (HR.out _ (z.below hw)).mono ?_
      rintro e1 w2 ⟨rfl, hb2⟩
      go_wp2
      go_ret
      exact ⟨rfl, keep_below hb2 hw⟩

theorem allWithin_b2 (A : Option Addr) (c : Nat) (zs : List Int) (lo hi : Int) (w : World) (h : IntS w A zs) (hn : zs.length ≤ 1048576) :
    Calls Try.prog 137 #[.slice A zs.length c, .int .i64 lo, .int .i64 hi] w fun e w' => e = .returned (.bool (allIn zs lo hi)) ∧ Below w.heap.size w w' :=
  (allWithin_any A c zs lo hi w h (by unfold maxLen; omega)).mono fun _ _ ⟨he, hw⟩ => ⟨he, by rw [← hw]; exact Below.refl _ _⟩
set_option maxHeartbeats 2000000 in
set_option maxRecDepth 100000 in
theorem isStopping_good {xs ys : List Int} (hg : good xs ys = true) (A B P : Option Addr) (c m e cz : Nat) (zs : List Int) (w : World) (h : IntS w A xs) (z : IntS w P zs) (hz : zs.length ≤ 1048576) :
    Calls Try.prog 97 #[.agg #[.slice A xs.length c, .slice B m e], .slice P zs.length cz] w fun e1 w' => e1 = .returned (.bool (isStp xs zs)) ∧ Below w.heap.size w w' := by
  have hgl := good_len hg
  have HR := Lib.hid (fun W (z : IntS W P zs) => rising_any P cz zs W z (by omega))
  have HI := Lib.hid (fun W (z : IntS W P zs) => allWithin_b2 P cz zs 0 ((xs.length : Int) - 1) W z hz)
  have n1 := hgl.1
  have n2 := hgl.2.1
  obtain ⟨r1, q1⟩ : ∃ r, riseB zs = r := ⟨_, rfl⟩
  rw [q1] at HR
  cases r1
  case false =>
    rw [show isStp xs zs = false from by unfold isStp; rw [q1]; simp]
    clear q1 hg hgl
    go_enter Try.func97, Try.ntmps97
    go_wp2_with fail
    refine (HR.out _ (z.alloc _)).mono ?_
    rintro e1 w1 ⟨rfl, hb1⟩
    go_wp2
    go_ret
    exact ⟨rfl, below_alloc hb1⟩
  case true =>
  obtain ⟨r2, q2⟩ : ∃ r, allIn zs 0 ((xs.length : Int) - 1) = r := ⟨_, rfl⟩
  rw [q2] at HI
  cases r2
  case false =>
    rw [show isStp xs zs = false from by unfold isStp; rw [q2]; simp]
    clear q1 q2 hg hgl
    go_enter Try.func97, Try.ntmps97
    go_wp2_with fail
    refine (HR.out _ (z.alloc _)).mono ?_
    rintro e1 w1 ⟨rfl, hb1⟩
    have hx0 : w1.cell? ⟨w.heap.size, 0, none⟩ = some (.slice A xs.length c) := keep_cell hb1 (by simp)
    have hx1 : w1.cell? ⟨w.heap.size, 1, none⟩ = some (.slice B m e) := keep_cell hb1 (by simp)
    have hw : Below w.heap.size w w1 := below_alloc hb1
    clear hb1
    go_wp2_with fail
    refine (HI.out _ (z.below hw)).mono ?_
    rintro e1 w2 ⟨rfl, hb2⟩
    go_wp2
    go_ret
    exact ⟨rfl, keep_below hb2 hw⟩
  case true =>
  have HWy := Lib.hid (fun W (h : IntS W A xs) (x : Nat) (hx : x < xs.length) => way_any hg A B c m e x W h hx)
  have HB := Lib.hid (fun W (R : Option Addr) (cr x : Nat) (hx : x < xs.length) (r : IntS W R (wayL xs x)) (z : IntS W P zs) => both_any R P cr cz (wayL xs x) zs W r z (by have := way_len xs x; omega) hz)
  have HE := Lib.hid (fun W (h : IntS W A xs) => ends_any A B c m e xs W h (by omega) (good_iff.1 hg).2.1 (good_root hg))
  have hep := ends_pos hg
  have hel := ends_len xs
  have HEM : Hid (∀ j, j < (endsL xs).length → ∃ y : Nat, nth (endsL xs) j = y ∧ y < xs.length) := fun j hj => by obtain ⟨y, h1, h2, _⟩ := ends_mem hj; exact ⟨y, h1, h2⟩
  have HC : Hid (∀ x : Nat, x < xs.length → bothL (wayL xs x) zs = bothL zs (wayL xs x)) := fun x hx => both_comm (asc_way (good_upL hg) x hx) (asc_rise.1 q1)
  have HL : Hid (∀ x : Nat, (bothL zs (wayL xs x)).length ≤ 1048576) := fun x => by have := bothL_len zs (wayL xs x); omega
  generalize hr : isStp xs zs = r
  have HNo : Hid (∀ j y : Nat, j < (endsL xs).length → nth (endsL xs) j = y → ¬ (bothL zs (wayL xs y)).length = 1 → r = false) := fun j y hj hy hn => by
    rw [← hr]; unfold isStp; rw [onB_no hj (by rw [hy]; exact hn)]; rfl
  have HYes : Hid ((∀ j y : Nat, j < (endsL xs).length → nth (endsL xs) j = y → (bothL zs (wayL xs y)).length = 1) → r = true) := fun ha => by
    rw [← hr]; unfold isStp; rw [onB_iff.2 fun j hj => by obtain ⟨y, h1, h2⟩ := HEM.out j hj; rw [h1]; exact ha j y hj h1, q1, q2]; rfl
  clear hr hg q1 q2 hgl
  generalize xs.length = n at *
  generalize endsL xs = E at *
  go_enter Try.func97, Try.ntmps97
  go_wp2_with fail
  refine (HR.out _ (z.alloc _)).mono ?_
  rintro e1 w1 ⟨rfl, hb1⟩
  have hx0 : w1.cell? ⟨w.heap.size, 0, none⟩ = some (.slice A n c) := keep_cell hb1 (by simp)
  have hx1 : w1.cell? ⟨w.heap.size, 1, none⟩ = some (.slice B m e) := keep_cell hb1 (by simp)
  have hw : Below w.heap.size w w1 := below_alloc hb1
  clear hb1
  go_wp2_with fail
  refine (HI.out _ (z.below hw)).mono ?_
  rintro e1 w2 ⟨rfl, hb2⟩
  replace hx0 := keep_cell hb2 hx0
  replace hx1 := keep_cell hb2 hx1
  replace hw := keep_below hb2 hw
  clear hb2
  go_wp2_with fail
  refine (HE.out _ (h.below hw)).mono ?_
  rintro e1 w3 ⟨A1, c1, rfl, ho, hb2⟩
  replace hx0 := keep_cell hb2 hx0
  replace hx1 := keep_cell hb2 hx1
  replace hw := keep_below hb2 hw
  obtain ⟨gE, rfl, hgE, hE⟩ := ho.pos hep
  clear ho HE hgE hb2
  go_wp2
  go_loopw [22] (fun i wr => ∃ j : Nat, j ≤ E.length ∧ i = .int .i64 (j : Int) ∧ Hid (∀ q y : Nat, q < j → nth E q = y → (bothL zs (wayL xs y)).length = 1) ∧ Row wr gE E ∧ wr.cell? ⟨w.heap.size, 0, none⟩ = some (.slice A n c) ∧ wr.cell? ⟨w.heap.size, 1, none⟩ = some (.slice B m e) ∧ Below w.heap.size w wr) (fun i _ => E.length - (intOf i).toNat)
  case atStart => exact ⟨0, Nat.zero_le _, rfl, fun j y hj => by omega, hE, hx0, hx1, hw⟩
  case round =>
    clear hx0 hx1 hw hE
    obtain ⟨j, hj, rfl, HA, hE, hx0, hx1, hw⟩ := hrel
    by_cases hlt : j < E.length
    · obtain ⟨y, hy, hyn⟩ := HEM.out j hlt
      have hcE := hE.cell hlt
      rw [hy] at hcE
      have hn1 := Lib.hid (HNo.out j y hlt hy)
      have HA' : Hid ((bothL zs (wayL xs y)).length = 1 → ∀ q y : Nat, q < j + 1 → nth E q = y → (bothL zs (wayL xs y)).length = 1) := fun h1 q y' hq hy' => by
        by_cases e : q = j
        · subst e; rw [hy] at hy'; have : y = y' := by omega
          subst this; exact h1
        · exact HA.out q y' (by omega) hy'
      have hbl := HL.out y
      have HQ := Lib.hid (fun W (h : IntS W A xs) => HWy.out W h y hyn)
      have HQ2 := fun W (R : Option Addr) (cr : Nat) (r : IntS W R (wayL xs y)) (z : IntS W P zs) => HB.out W R cr y hyn r z
      rw [HC.out y hyn] at HQ2
      replace HQ2 := Lib.hid HQ2
      clear hy
      generalize bothL zs (wayL xs y) = O at *
      generalize wayL xs y = K at *
      go_wp2_with fail
      refine (HQ.out _ (h.below hw)).mono ?_
      rintro e1 w4 ⟨A3, c3, rfl, ho3, hb2⟩
      replace hE := hE.below hb2
      replace hx0 := keep_cell hb2 hx0
      replace hx1 := keep_cell hb2 hx1
      replace hw := keep_below hb2 hw
      clear hb2 HQ
      go_wp2_with fail
      refine (HQ2.out _ _ _ ho3.ints (z.below hw)).mono ?_
      rintro e1 w5 ⟨A4, c4, rfl, ho4, hb2⟩
      replace hE := hE.below hb2
      replace hx0 := keep_cell hb2 hx0
      replace hx1 := keep_cell hb2 hx1
      replace hw := keep_below hb2 hw
      clear hb2 HQ2 ho3 ho4
      by_cases h1 : O.length = 1
      · have HA2 := Lib.hid (HA'.out h1)
        have hd : ((O.length : Int) != 1) = false := by rw [bne_eq_false_iff_eq]; omega
        clear h1 HA' hn1 HA
        go_wp2
        go_roundw
        case rel => exact ⟨j + 1, by omega, by go_num, HA2, hE, hx0, hx1, hw⟩
        case measure => simp [intOf]; omega
      · have hr : r = false := hn1.out h1
        subst hr
        have hd : ((O.length : Int) != 1) = true := by rw [bne_iff_ne]; omega
        clear h1 HA' hn1 HA HNo HYes
        go_wp2
        go_ret
        exact ⟨rfl, hw⟩
    · have hr := HYes.out (fun q y hq hy => HA.out q y (by omega) hy)
      subst hr
      clear HNo HYes HA HB HWy HEM HL HC
      go_wp2
      go_ret
      exact ⟨rfl, hw⟩
end Go.Proofs.Ytombfbmcplefgaa
/- Contracts: IsStopping. -/
namespace Go.Proofs.Ytombfbmcplefgaa
open Go.ChangeShapes Go.WideShapes Go.ChangeAt Go.RowKit

noncomputable def treeOk (xs ys : List Int) : Bool := good xs ys
noncomputable def stpR (xs ys ps : List Int) : Bool := treeOk xs ys && isStp xs ps
theorem stpR_no {xs ys ps : List Int} (h : treeOk xs ys = false) : stpR xs ys ps = false := by unfold stpR; rw [h]; rfl
theorem stpR_yes {xs ys ps : List Int} (h : treeOk xs ys = true) : stpR xs ys ps = isStp xs ps := by unfold stpR; rw [h]; rfl
end Go.Proofs.Ytombfbmcplefgaa
/- Contracts: the node of a stopping on the way to an end. -/
namespace Go.Proofs.Ytombfbmcplefgaa
open Go.ChangeShapes Go.WideShapes Go.ChangeAt Go.RowKit

theorem end_wt {xs ys : List Int} (hg : good xs ys = true) {q : Nat} (hq : q < xs.length) : hasB (endsL xs) q = decide (nth ys q ≠ 0) := by
  have h1 := wt_end hg hq
  have h2 := good_wt hg q
  have h3 : decide (nth ys q ≠ 0) = decide (0 < nth ys q) := by
    by_cases h : nth ys q = 0
    · rw [decide_eq_false (by omega), decide_eq_false (by omega)]
    · rw [decide_eq_true h, decide_eq_true (by omega)]
  rw [h3, h1, Bool.eq_iff_iff, hasB_mem]
  unfold endsL
  rw [mem_pick]
  constructor
  · rintro ⟨x, h4, _, h5⟩
    have : q = x := by omega
    rw [this]; exact h5
  · intro h4; exact ⟨q, rfl, hq, h4⟩
theorem end_in {xs : List Int} {x : Int} (h : hasB (endsL xs) x = true) : ∃ q : Nat, x = q ∧ q < xs.length := by
  obtain ⟨j, hj, he⟩ := hasB_iff.1 h
  obtain ⟨y, h1, h2, _⟩ := ends_mem hj
  exact ⟨y, by omega, h2⟩
theorem stp_end {xs qs : List Int} (h : isStp xs qs = true) {q : Nat} (he : hasB (endsL xs) q = true) : (bothL qs (wayL xs q)).length = 1 := by
  obtain ⟨j, hj, hq⟩ := hasB_iff.1 he
  have := stp_on h j hj
  rw [hq, Int.toNat_natCast] at this; exact this
theorem ovU_some {ns : List Int} : ∀ {U : List Int}, (∃ v ∈ U, v ∈ ns) → ∃ i : Nat, ovU ns U = i ∧ i < ns.length ∧ nth ns i ∈ U
  | [], h => by obtain ⟨v, hv, _⟩ := h; simp at hv
  | a :: U, h => by
    rcases idxI_cases ns a with ⟨h1, h2⟩ | ⟨h1, i, h2, h3, h4, _⟩
    · have : ∃ v ∈ U, v ∈ ns := by
        obtain ⟨v, hv, hn⟩ := h
        rcases List.mem_cons.1 hv with rfl | hv
        · rw [hasB_mem.2 hn] at h1; cases h1
        · exact ⟨v, hv, hn⟩
      obtain ⟨i, h3, h4, h5⟩ := ovU_some this
      exact ⟨i, by unfold ovU; rw [if_neg (by omega)]; exact h3, h4, List.mem_cons_of_mem _ h5⟩
    · exact ⟨i, by unfold ovU; rw [if_pos (by omega)]; exact h2, h3, by rw [h4]; simp⟩
theorem mapI_nth (f : Int → Int) (E : List Int) {i : Nat} (h : i < E.length) : nth (mapI f E E.length) i = f (nth E i) := by
  rw [mapI_all]; simp [nth, List.getD, h]
theorem one_mem {L : List Int} {v : Int} (h : L.length = 1) (hv : v ∈ L) : nth L 0 = v := by
  obtain ⟨j, hj, he⟩ := mem_nth hv
  have : j = 0 := by omega
  rw [← he, this]
theorem sa_over {xs qs : List Int} (h : isStp xs qs = true) {q : Nat} (he : hasB (endsL xs) q = true) :
    ∃ i m : Nat, idxI (endsL xs) q = i ∧ i < (endsL xs).length ∧ nth (ovL xs qs) i = m ∧ m < qs.length ∧ nth qs m = nth (bothL qs (wayL xs q)) 0 := by
  have hone := stp_end h he
  rcases idxI_cases (endsL xs) q with ⟨h1, _⟩ | ⟨_, i, h2, h3, h4, _⟩
  · rw [he] at h1; cases h1
  · have hb : nth (bothL qs (wayL xs q)) 0 ∈ bothL qs (wayL xs q) := nth_mem (by omega)
    have hb2 := both_mem.1 hb
    obtain ⟨m, h5, h6, h7⟩ := ovU_some (ns := qs) (U := up xs q) ⟨_, List.mem_reverse.1 (show _ ∈ (up xs q).reverse from hb2.2), hb2.1⟩
    refine ⟨i, m, h2, h3, ?_, h6, ?_⟩
    · unfold ovL; rw [mapI_nth _ _ h3, h4]; unfold ovX; rw [Int.toNat_natCast]; exact h5
    · exact (one_mem hone (both_mem.2 ⟨nth_mem h6, List.mem_reverse.2 h7⟩)).symm
noncomputable def saOk (xs ys qs : List Int) (x : Int) : Bool := good xs ys && isNd xs.length x && isStp xs qs && decide (nth ys x.toNat ≠ 0)
noncomputable def saOk2 (xs ys qs : List Int) (x : Int) : Bool := good xs ys && isStp xs qs && hasB (endsL xs) x
noncomputable def saR (xs ys qs : List Int) (x : Int) : Int := if saOk xs ys qs x then nth (bothL qs (wayL xs x.toNat)) 0 else 0
noncomputable def saR2 (xs ys qs : List Int) (x : Int) : Int := if saOk2 xs ys qs x then nth (bothL qs (wayL xs x.toNat)) 0 else 0
theorem saR_no {xs ys qs : List Int} {x : Int} (h : saOk xs ys qs x = false) : saR xs ys qs x = 0 := by unfold saR; rw [h]; rfl
theorem saR_yes {xs ys qs : List Int} {x : Int} (h : saOk xs ys qs x = true) : saR xs ys qs x = nth (bothL qs (wayL xs x.toNat)) 0 := by unfold saR; rw [h]; rfl
theorem saR2_no {xs ys qs : List Int} {x : Int} (h : saOk2 xs ys qs x = false) : saR2 xs ys qs x = 0 := by unfold saR2; rw [h]; rfl
theorem saR2_yes {xs ys qs : List Int} {x : Int} (h : saOk2 xs ys qs x = true) : saR2 xs ys qs x = nth (bothL qs (wayL xs x.toNat)) 0 := by unfold saR2; rw [h]; rfl
theorem nd_of {n : Nat} {q : Nat} (h : q < n) : isNd n q = true := by unfold isNd; simp; omega
theorem of_nd {n : Nat} {x : Int} (h : isNd n x = true) : ∃ q : Nat, x = q ∧ q < n := by
  unfold isNd at h; simp at h; exact ⟨x.toNat, by omega, by omega⟩
theorem sa_same (xs ys qs : List Int) (x : Int) : saOk2 xs ys qs x = saOk xs ys qs x := by
  unfold saOk saOk2
  cases hg : good xs ys with
  | false => rfl
  | true =>
    simp only [Bool.true_and]
    by_cases hx : isNd xs.length x = true
    · obtain ⟨q, rfl, hq⟩ := of_nd hx
      rw [hx, end_wt hg hq]; simp
    · have h1 : isNd xs.length x = false := by simpa using hx
      rw [h1]
      have h2 : hasB (endsL xs) x = false := by
        cases he : hasB (endsL xs) x with
        | false => rfl
        | true => obtain ⟨q, rfl, hq⟩ := end_in he; rw [nd_of hq] at h1; cases h1
      rw [h2]; simp
theorem saR_same (xs ys qs : List Int) (x : Int) : saR2 xs ys qs x = saR xs ys qs x := by unfold saR saR2; rw [sa_same]
end Go.Proofs.Ytombfbmcplefgaa
/- Contracts: l2Under. Plain: where a way meets a cut. -/
namespace Go.Proofs.Ytombfbmcplefgaa
open Go.ChangeShapes Go.WideShapes Go.ChangeAt Go.RowKit

/-- Node x is on the way to y. -/
def underB (xs : List Int) (x y : Nat) : Bool := hasB (up xs y) x
theorem under_self {xs : List Int} (hu : ∀ j, 1 ≤ j → j < xs.length → ∃ p : Nat, nth xs j = p ∧ p < j) {y : Nat} (hy : y < xs.length) : underB xs y y = true := by
  unfold underB; rw [hasB_mem]
  by_cases h : y = 0
  · subst h; rw [up_zero]; simp
  · obtain ⟨p, hp, hpy⟩ := hu y (by omega) hy
    rw [up_step hu (by omega) hy hp hpy]; simp
theorem under_low {xs : List Int} (hu : ∀ j, 1 ≤ j → j < xs.length → ∃ p : Nat, nth xs j = p ∧ p < j) {x y : Nat} (hy : y < xs.length) (h : y < x) : underB xs x y = false := by
  cases hb : underB xs x y with
  | false => rfl
  | true =>
    unfold underB at hb
    obtain ⟨q, hq, hqy⟩ := up_mem hu y hy _ (hasB_mem.1 hb)
    omega
theorem under_up {xs : List Int} (hu : ∀ j, 1 ≤ j → j < xs.length → ∃ p : Nat, nth xs j = p ∧ p < j) {x y p : Nat} (hy : y < xs.length) (hp : nth xs y = p) (hpy : p < y) (h : x < y) : underB xs x y = underB xs x p := by
  unfold underB
  rw [Bool.eq_iff_iff, hasB_mem, hasB_mem, up_step hu (by omega) hy hp hpy, List.mem_cons]
  constructor
  · rintro (h1 | h1)
    · omega
    · exact h1
  · exact .inr
set_option maxHeartbeats 1000000 in
set_option maxRecDepth 100000 in
theorem l2Under_good {xs ys : List Int} (hg : good xs ys = true) (A B : Option Addr) (c e x y : Nat) (w : World) (h : IntS w A xs) (_hx : x < xs.length) (hy : y < xs.length) :
    Calls Try.prog 138 #[.agg #[.slice A xs.length c, .slice B ys.length e], .int .i64 x, .int .i64 y] w fun e1 w' => e1 = .returned (.bool (underB xs x y)) ∧ Below w.heap.size w w' := by
  have hgl := good_len hg
  have HU := Lib.hid (good_upL hg)
  have HS := Lib.hid (fun (q : Nat) (hq : q < xs.length) => under_self (good_upL hg) hq)
  have HL := Lib.hid (fun (q : Nat) (hq : q < xs.length) (hl : q < x) => under_low (x := x) (good_upL hg) hq hl)
  have HP := Lib.hid (fun (q p : Nat) (hq : q < xs.length) (hp : nth xs q = p) (hpq : p < q) (hl : x < q) => under_up (x := x) (good_upL hg) hq hp hpq hl)
  obtain ⟨r, hr⟩ : ∃ r, underB xs x y = r := ⟨_, rfl⟩
  rw [hr]
  have HR := Lib.hid hr
  have hn24 : xs.length ≤ 24 := hgl.2.1
  clear hr hgl hg
  go_enter Try.func138, Try.ntmps138
  have hx0 : (w.alloc (.cells #[.slice A xs.length c, .slice B ys.length e] 28)).cell? ⟨w.heap.size, 0, none⟩ = some (.slice A xs.length c) := by simp
  go_wp2
  go_loop [2] (fun yv => ∃ q : Nat, q < xs.length ∧ yv = .int .i64 q ∧ Hid (underB xs x q = r)) (fun yv => (intOf yv).toNat)
  case atStart => exact ⟨y, hy, rfl, HR⟩
  case round =>
    obtain ⟨q, hq, rfl, hqr⟩ := hrel
    have i1 : (q : Int) < xs.length := by omega
    by_cases hlt : x < q
    · obtain ⟨p, hp, hpq⟩ := HU.out q (by omega) hq
      obtain ⟨b1, o1, rfl, hcx⟩ := (h.alloc (.cells #[.slice A xs.length c, .slice B ys.length e] 28)).at_ hq
      rw [hp] at hcx
      have HN : Hid (underB xs x p = r) := by have := HP.out q p hq hp hpq hlt; show _ = _; rw [← this]; exact hqr.out
      have d1 : (x : Int) < q := by omega
      clear hp
      go_wp2
      go_round
      case rel => exact ⟨p, by omega, rfl, HN⟩
      case measure => simp [intOf]; omega
    · have d1 : ¬ (x : Int) < q := by omega
      by_cases hxq : x = q
      · subst hxq
        have hr' : r = true := by rw [← hqr.out]; exact HS.out x hq
        subst hr'
        go_wp2
        go_ret
        exact ⟨by simp, by (repeat (first | with_reducible exact Below.refl _ _ | with_reducible assumption | with_reducible refine Below.alloc' ?_ ?_ _ | with_reducible refine Below.setCell' ?_ ?_ _ | with_reducible refine Below.drewN' ?_ _ | with_reducible refine Below.drew ?_ | with_reducible refine Below.transA ?_ (by assumption) ?_ | omega | (focus (simp; done)) | (focus (simp; omega))))⟩
      · have hr' : r = false := by rw [← hqr.out]; exact HL.out q hq (by omega)
        subst hr'
        have d2 : ((q : Int) == (x : Int)) = false := by simpa using (by omega : ¬ (q : Int) = x)
        have d3 : decide ((q : Int) = (x : Int)) = false := decide_eq_false (by omega)
        go_wp2
        go_ret
        exact ⟨by simp, by (repeat (first | with_reducible exact Below.refl _ _ | with_reducible assumption | with_reducible refine Below.alloc' ?_ ?_ _ | with_reducible refine Below.setCell' ?_ ?_ _ | with_reducible refine Below.drewN' ?_ _ | with_reducible refine Below.drew ?_ | with_reducible refine Below.transA ?_ (by assumption) ?_ | omega | (focus (simp; done)) | (focus (simp; omega))))⟩

theorem dep_more (xs : List Int) {k m j : Nat} (hj : j < k) (hk1 : 1 ≤ k) (hkm : k ≤ m) : nth (dep xs m) j = nth (dep xs k) j := by
  induction m with
  | zero => omega
  | succ m ih =>
    by_cases h : k = m + 1
    · rw [h]
    · rw [dep_succ xs (by omega), nth_app_lt (by rw [dep_len]; omega)]; exact ih (by omega)
/-- The depth of a node. -/
def dpt (xs : List Int) (x : Nat) : Int := nth (dep xs xs.length) x
theorem dpt_step {xs : List Int} {y p : Nat} (h1 : 1 ≤ y) (hy : y < xs.length) (hp : nth xs y = p) (hpy : p < y) : dpt xs y = dpt xs p + 1 := by
  unfold dpt
  rw [dep_more xs (k := y + 1) (by omega) (by omega) (by omega), dep_succ xs h1, hp, Int.toNat_natCast, dep_more xs (k := y) (m := xs.length) hpy h1 (by omega)]
  have e : y = (dep xs y).length := (dep_len xs y).symm
  conv => lhs; arg 2; rw [e]
  simp [nth, List.getD]
theorem dpt_low (xs : List Int) (x : Nat) : 0 ≤ dpt xs x := (dep_bd xs _ x).1
theorem dpt_root {xs : List Int} (h : 1 ≤ xs.length) : dpt xs 0 = 0 := by
  unfold dpt
  rw [dep_more xs (k := 1) (by omega) (by omega) h]; rfl
theorem noKid_no {xs : List Int} {y p : Nat} (hy : y < xs.length) (hp : nth xs y = p) : noKid xs xs.length p = false := by
  unfold noKid; rw [List.all_eq_false]; exact ⟨y, List.mem_range.2 hy, by simp [hp]⟩
theorem up_dpt {xs : List Int} (hu : ∀ j, 1 ≤ j → j < xs.length → ∃ p : Nat, nth xs j = p ∧ p < j) : ∀ y, y < xs.length → ∀ v ∈ up xs y, ∃ q : Nat, v = q ∧ q ≤ y ∧ dpt xs q ≤ dpt xs y ∧ (q ≠ y → dpt xs q < dpt xs y ∧ noKid xs xs.length q = false) := by
  intro y
  induction y using Nat.strongRecOn with
  | ind y ih =>
    intro hy v hv
    by_cases h0 : y = 0
    · subst h0; rw [up_zero] at hv; simp at hv; exact ⟨0, hv, Nat.le_refl _, Int.le_refl _, fun h => absurd rfl h⟩
    · obtain ⟨p, hp, hpy⟩ := hu y (by omega) hy
      have hd := dpt_step (by omega) hy hp hpy
      rw [up_step hu (by omega) hy hp hpy] at hv
      rcases List.mem_cons.1 hv with rfl | hv
      · exact ⟨y, rfl, Nat.le_refl _, Int.le_refl _, fun h => absurd rfl h⟩
      · obtain ⟨q, h1, h2, h3, h4⟩ := ih p hpy (by omega) v hv
        refine ⟨q, h1, by omega, by omega, fun _ => ⟨by omega, ?_⟩⟩
        by_cases e : q = p
        · rw [e]; exact noKid_no hy hp
        · exact (h4 e).2
theorem up_inj {xs : List Int} (hu : ∀ j, 1 ≤ j → j < xs.length → ∃ p : Nat, nth xs j = p ∧ p < j) : ∀ y, y < xs.length → ∀ a b : Nat, (a : Int) ∈ up xs y → (b : Int) ∈ up xs y → dpt xs a = dpt xs b → a = b := by
  intro y
  induction y using Nat.strongRecOn with
  | ind y ih =>
    intro hy a b ha hb hab
    by_cases h0 : y = 0
    · subst h0; rw [up_zero] at ha hb; simp at ha hb; omega
    · obtain ⟨p, hp, hpy⟩ := hu y (by omega) hy
      have hd := dpt_step (by omega) hy hp hpy
      rw [up_step hu (by omega) hy hp hpy] at ha hb
      rcases List.mem_cons.1 ha with ha | ha <;> rcases List.mem_cons.1 hb with hb | hb
      · omega
      · obtain ⟨q, h1, _, h3, _⟩ := up_dpt hu p (by omega) _ hb
        have e1 : a = y := by omega
        have e2 : b = q := by omega
        rw [e1, e2] at hab; omega
      · obtain ⟨q, h1, _, h3, _⟩ := up_dpt hu p (by omega) _ ha
        have e1 : b = y := by omega
        have e2 : a = q := by omega
        rw [e1, e2] at hab; omega
      · exact ih p hpy (by omega) a b ha hb hab
theorem up_has {xs : List Int} (hu : ∀ j, 1 ≤ j → j < xs.length → ∃ p : Nat, nth xs j = p ∧ p < j) {d : Int} (hd : 0 ≤ d) : ∀ y, y < xs.length → d ≤ dpt xs y → ∃ q : Nat, (q : Int) ∈ up xs y ∧ q ≤ y ∧ dpt xs q = d := by
  intro y
  induction y using Nat.strongRecOn with
  | ind y ih =>
    intro hy hdy
    by_cases e : dpt xs y = d
    · exact ⟨y, hasB_mem.1 (under_self hu hy), Nat.le_refl _, e⟩
    · by_cases h0 : y = 0
      · subst h0; rw [dpt_root (by omega)] at hdy e; omega
      · obtain ⟨p, hp, hpy⟩ := hu y (by omega) hy
        have hs := dpt_step (by omega) hy hp hpy
        obtain ⟨q, h1, h2, h3⟩ := ih p hpy (by omega) (by omega)
        exact ⟨q, by rw [up_step hu (by omega) hy hp hpy]; exact List.mem_cons_of_mem _ h1, by omega, h3⟩
theorem cut_iff {xs ys : List Int} {d : Int} {x : Nat} : inCut xs ys d x = true ↔ dpt xs x = d ∨ (dpt xs x < d ∧ 0 < nth ys x) := by
  unfold inCut dpt; simp
/-- A cut meets the way to an end once. -/
theorem cut_one {xs ys : List Int} (hg : good xs ys = true) {d : Int} {y : Nat} (hy : y < xs.length) {a b : Nat} (ha : (a : Int) ∈ up xs y) (hb : (b : Int) ∈ up xs y) (ca : inCut xs ys d a = true) (cb : inCut xs ys d b = true) : a = b := by
  have hu := good_upL hg
  rw [cut_iff] at ca cb
  have key : ∀ q : Nat, (q : Int) ∈ up xs y → (dpt xs q < d ∧ 0 < nth ys q) → q = y := fun q hq hh => by
    obtain ⟨z, h1, h2, _, h4⟩ := up_dpt hu y hy _ hq
    have e : q = z := by omega
    subst e
    by_cases e : q = y
    · exact e
    · have h5 := wt_end hg (x := q) (by omega)
      rw [(h4 e).2] at h5
      have := of_decide_eq_false h5
      omega
  have top : ∀ q : Nat, (q : Int) ∈ up xs y → dpt xs q ≤ dpt xs y := fun q hq => by
    obtain ⟨z, h1, _, h3, _⟩ := up_dpt hu y hy _ hq
    have e : q = z := by omega
    rw [e]; exact h3
  rcases ca with ca | ca <;> rcases cb with cb | cb
  · exact up_inj hu y hy a b ha hb (by omega)
  · have e := key b hb cb; have := top a ha; rw [e] at cb; omega
  · have e := key a ha ca; have := top b hb; rw [e] at ca; omega
  · rw [key a ha ca, key b hb cb]
theorem cut_some {xs ys : List Int} (hg : good xs ys = true) {d : Int} (hd : 0 ≤ d) {y : Nat} (hy : y < xs.length) (he : 0 < nth ys y) : ∃ q : Nat, (q : Int) ∈ up xs y ∧ q < xs.length ∧ inCut xs ys d q = true := by
  have hu := good_upL hg
  by_cases h : dpt xs y < d
  · exact ⟨y, hasB_mem.1 (under_self hu hy), hy, cut_iff.2 (.inr ⟨h, he⟩)⟩
  · obtain ⟨q, h1, h2, h3⟩ := up_has hu hd y hy (by omega)
    exact ⟨q, h1, by omega, cut_iff.2 (.inl h3)⟩
end Go.Proofs.Ytombfbmcplefgaa
/- Contracts: the pays that are known by a cut. -/
namespace Go.Proofs.Ytombfbmcplefgaa
open Go.ChangeShapes Go.WideShapes Go.ChangeAt Go.RowKit

theorem asc_lt {L : List Int} (h : Asc L) {k m : Nat} (hk : k < m) (hm : m < L.length) : nth L k < nth L m := by
  have := List.pairwise_iff_getElem.1 h k m (by omega) hm hk
  have e1 : nth L k = L[k] := by simp [nth, List.getD, show k < L.length by omega]
  have e2 : nth L m = L[m] := by simp [nth, List.getD, hm]
  rw [e1, e2]; exact this
def pcF (xs ys : List Int) (d : Int) (vs : List Int) (y : Int) : Int := nth vs (ovX xs (cutL xs ys d) y).toNat
theorem cut_at {xs ys : List Int} (hg : good xs ys = true) {d : Int} (hd : 0 ≤ d) {y : Nat} (hy : y < xs.length) (he : 0 < nth ys y) :
    ∃ m : Nat, ovX xs (cutL xs ys d) y = m ∧ m < (cutL xs ys d).length ∧ ∃ q : Nat, nth (cutL xs ys d) m = q ∧ q < xs.length ∧ underB xs q y = true ∧ ∀ k, k < m → ∃ z : Nat, nth (cutL xs ys d) k = z ∧ z < xs.length ∧ underB xs z y = false := by
  obtain ⟨q0, h1, h2, h3⟩ := cut_some hg hd hy he
  obtain ⟨m, h4, h5, h6⟩ := ovU_some (ns := cutL xs ys d) (U := up xs y) ⟨_, h1, mem_pick.2 ⟨q0, rfl, h2, h3⟩⟩
  obtain ⟨q, h7, h8, h9⟩ := pick_mem (f := inCut xs ys d) (k := xs.length) h5
  change nth (cutL xs ys d) m = q at h7
  rw [h7] at h6
  refine ⟨m, by unfold ovX; rw [Int.toNat_natCast]; exact h4, h5, q, h7, h8, hasB_mem.2 h6, fun k hk => ?_⟩
  obtain ⟨z, z1, z2, z3⟩ := pick_mem (f := inCut xs ys d) (k := xs.length) (show k < (pick (inCut xs ys d) xs.length).length from Nat.lt_trans hk h5)
  change nth (cutL xs ys d) k = z at z1
  refine ⟨z, z1, z2, ?_⟩
  cases hb : underB xs z y with
  | false => rfl
  | true =>
    have e := cut_one hg hy (hasB_mem.1 hb) h6 z3 h9
    have := asc_lt (asc_pick (inCut xs ys d) xs.length) hk h5
    change nth (cutL xs ys d) k < nth (cutL xs ys d) m at this
    omega
theorem end_pos {xs ys : List Int} (hg : good xs ys = true) {j : Nat} (hj : j < (endsL xs).length) : ∃ y : Nat, nth (endsL xs) j = y ∧ y < xs.length ∧ 0 < nth ys y := by
  obtain ⟨y, h1, h2, h3⟩ := ends_mem hj
  exact ⟨y, h1, h2, by have := wt_end hg h2; rw [h3] at this; exact of_decide_eq_true this⟩
theorem cut_pos {xs ys : List Int} (hg : good xs ys = true) {d : Int} (hd : 0 ≤ d) : 1 ≤ (cutL xs ys d).length := by
  obtain ⟨y, _, h2, h3⟩ := end_pos hg (ends_pos hg)
  obtain ⟨m, _, h4, _⟩ := cut_at hg hd h2 h3
  omega
theorem cut_len (xs ys : List Int) (d : Int) : (cutL xs ys d).length ≤ xs.length := pick_len _ _
noncomputable def pcOk (xs ys : List Int) (d : Int) (vs : List Int) : Bool := good xs ys && decide (0 ≤ d) && decide (vs.length = (cutL xs ys d).length) && allIn vs (-999) 999
noncomputable def pcR (xs ys : List Int) (d : Int) (vs : List Int) : List Int := if pcOk xs ys d vs then mapI (pcF xs ys d vs) (endsL xs) (endsL xs).length else []
theorem pcR_no {xs ys : List Int} {d : Int} {vs : List Int} (h : pcOk xs ys d vs = false) : pcR xs ys d vs = [] := by unfold pcR; rw [h]; rfl
theorem pcR_yes {xs ys : List Int} {d : Int} {vs : List Int} (h : pcOk xs ys d vs = true) : pcR xs ys d vs = mapI (pcF xs ys d vs) (endsL xs) (endsL xs).length := by unfold pcR; rw [h]; rfl
theorem pcR_len (xs ys : List Int) (d : Int) (vs : List Int) (hn : xs.length ≤ 1048576) : (pcR xs ys d vs).length ≤ 2000000 := by
  unfold pcR; split
  · rw [mapI_len _ _ (Nat.le_refl _)]; have := ends_len xs; omega
  · simp
set_option maxHeartbeats 4000000 in
set_option maxRecDepth 100000 in
theorem implPaysAtCut_any (A B : Option Addr) (c e : Nat) (xs ys : List Int) (d9 : Int) (V : Option Addr) (cv : Nat) (vs : List Int) (w : World) (h : IntS w A xs) (k : IntS w B ys) (zv : IntS w V vs) (_hx : Bd xs) (_hy : Bd ys) (_bv : Bd vs) (_hd9 : -9223372036854775808 ≤ d9 ∧ d9 ≤ 9223372036854775807) (hn : xs.length ≤ 1048576) (hm : ys.length ≤ 1048576) (lv : vs.length ≤ 1048576) :
    Calls Try.prog 71 #[.agg #[.slice A xs.length c, .slice B ys.length e], .int .i64 d9, .slice V vs.length cv] w (RetIB w (pcR xs ys d9 vs) (pcOk xs ys d9 vs)) := by
  obtain ⟨r1, q1⟩ : ∃ r, (good xs ys) = r := ⟨_, rfl⟩
  cases r1
  case false =>
    have hO : pcOk xs ys d9 vs = false := by unfold pcOk ; simp [q1]
    have hV_pcR := pcR_no hO
    rw [hV_pcR]
    (try rw [hO])
    clear hO hV_pcR
    have HG1 := Lib.hid (fun W (h : IntS W A xs) (k : IntS W B ys) => isTree_any A B c e xs ys W h k _hx _hy hn hm)
    rw [q1] at HG1
    clear q1 _hx _hy _bv
    go_enter Try.func71, Try.ntmps71
    go_wp2_with fail
    refine (HG1.out _ (h.alloc _) (k.alloc _)).mono ?_
    rintro e1 w1 ⟨rfl, hb⟩
    have hx0 : w1.cell? ⟨w.heap.size, 0, none⟩ = some (.slice A xs.length c) := keep_cell hb (by simp)
    have hx1 : w1.cell? ⟨w.heap.size, 1, none⟩ = some (.slice B ys.length e) := keep_cell hb (by simp)
    have hw : Below w.heap.size w w1 := below_alloc (hb)
    clear hb
    go_wp2
    go_ret2
    exact ⟨none, 0, rfl, .inl ⟨rfl, rfl⟩, hw⟩
  case true =>
    obtain ⟨r2, q2⟩ : ∃ r, (decide (0 ≤ d9)) = r := ⟨_, rfl⟩
    cases r2
    case false =>
      have hO : pcOk xs ys d9 vs = false := by unfold pcOk ; simp [q1, q2]
      have hV_pcR := pcR_no hO
      rw [hV_pcR]
      (try rw [hO])
      clear hO hV_pcR
      have HG1 := Lib.hid (fun W (h : IntS W A xs) (k : IntS W B ys) => isTree_any A B c e xs ys W h k _hx _hy hn hm)
      rw [q1] at HG1
      have dn : d9 < 0 := by have := of_decide_eq_false q2; omega
      have dn2 : decide (d9 < 0) = true := decide_eq_true dn
      clear q1 q2 _hx _hy _bv
      go_enter Try.func71, Try.ntmps71
      go_wp2_with fail
      refine (HG1.out _ (h.alloc _) (k.alloc _)).mono ?_
      rintro e1 w1 ⟨rfl, hb⟩
      have hx0 : w1.cell? ⟨w.heap.size, 0, none⟩ = some (.slice A xs.length c) := keep_cell hb (by simp)
      have hx1 : w1.cell? ⟨w.heap.size, 1, none⟩ = some (.slice B ys.length e) := keep_cell hb (by simp)
      have hw : Below w.heap.size w w1 := below_alloc (hb)
      clear hb
      go_wp2
      go_ret2
      exact ⟨none, 0, rfl, .inl ⟨rfl, rfl⟩, hw⟩
    case true =>
      obtain ⟨r3, q3⟩ : ∃ r, (decide (vs.length = (cutL xs ys d9).length)) = r := ⟨_, rfl⟩
      cases r3
      case false =>
        have hO : pcOk xs ys d9 vs = false := by unfold pcOk ; simp [q1, q2, q3]
        have hV_pcR := pcR_no hO
        rw [hV_pcR]
        (try rw [hO])
        clear hO hV_pcR
        have HG1 := Lib.hid (fun W (h : IntS W A xs) (k : IntS W B ys) => isTree_any A B c e xs ys W h k _hx _hy hn hm)
        rw [q1] at HG1
        have HCu := Lib.hid (fun W (h : IntS W A xs) => cut_any q1 A B c e d9 W h)
        have hcl := cut_len xs ys d9
        have hgl := good_len q1
        have hcb : (cutL xs ys d9).length ≤ 24 := by omega
        have HW9 := Lib.hid (fun W (z : IntS W V vs) => allWithin_any V cv vs (-999) 999 W z (by unfold maxLen; omega))
        clear hcl hgl
        have q3' := of_decide_eq_false q3
        have hd : ((vs.length : Int) != ((cutL xs ys d9).length : Int)) = true := by rw [bne_iff_ne]; omega
        clear q3'
        generalize cutL xs ys d9 = C at *
        have dn : ¬ (d9 < 0) := by have := of_decide_eq_true q2; omega
        have dn2 : decide (d9 < 0) = false := decide_eq_false dn
        clear q1 q2 q3 _hx _hy _bv
        go_enter Try.func71, Try.ntmps71
        go_wp2_with fail
        refine (HG1.out _ (h.alloc _) (k.alloc _)).mono ?_
        rintro e1 w1 ⟨rfl, hb⟩
        have hx0 : w1.cell? ⟨w.heap.size, 0, none⟩ = some (.slice A xs.length c) := keep_cell hb (by simp)
        have hx1 : w1.cell? ⟨w.heap.size, 1, none⟩ = some (.slice B ys.length e) := keep_cell hb (by simp)
        have hw : Below w.heap.size w w1 := below_alloc (hb)
        clear hb
        go_wp2_with fail
        refine (HCu.out _ (h.below hw)).mono ?_
        rintro e1 w8 ⟨A8, c8, rfl, ho8, hb8⟩
        replace hw := keep_below hb8 hw
        replace hx0 := keep_cell hb8 hx0
        replace hx1 := keep_cell hb8 hx1
        go_wp2
        go_ret2
        exact ⟨none, 0, rfl, .inl ⟨rfl, rfl⟩, hw⟩
      case true =>
        obtain ⟨r4, q4⟩ : ∃ r, (allIn vs (-999) 999) = r := ⟨_, rfl⟩
        cases r4
        case false =>
          have hO : pcOk xs ys d9 vs = false := by unfold pcOk ; simp [q1, q2, q3, q4]
          have hV_pcR := pcR_no hO
          rw [hV_pcR]
          (try rw [hO])
          clear hO hV_pcR
          have HG1 := Lib.hid (fun W (h : IntS W A xs) (k : IntS W B ys) => isTree_any A B c e xs ys W h k _hx _hy hn hm)
          rw [q1] at HG1
          have HW8 := Lib.hid (fun W (z : IntS W V vs) => allWithin_any V cv vs (-999) 999 W z (by unfold maxLen; omega))
          rw [q4] at HW8
          have dn : ¬ (d9 < 0) := by have := of_decide_eq_true q2; omega
          have dn2 : decide (d9 < 0) = false := decide_eq_false dn
          have HCu := Lib.hid (fun W (h : IntS W A xs) => cut_any q1 A B c e d9 W h)
          have hcl := cut_len xs ys d9
          have hgl := good_len q1
          have hcb : (cutL xs ys d9).length ≤ 24 := by omega
          have HW9 := Lib.hid (fun W (z : IntS W V vs) => allWithin_any V cv vs (-999) 999 W z (by unfold maxLen; omega))
          clear hcl hgl
          have q3' := of_decide_eq_true q3
          have hd : ((vs.length : Int) != ((cutL xs ys d9).length : Int)) = false := by rw [bne_eq_false_iff_eq]; omega
          clear q3'
          
          clear q1 q2 q3 q4 _hx _hy _bv
          go_enter Try.func71, Try.ntmps71
          go_wp2_with fail
          refine (HG1.out _ (h.alloc _) (k.alloc _)).mono ?_
          rintro e1 w1 ⟨rfl, hb⟩
          have hx0 : w1.cell? ⟨w.heap.size, 0, none⟩ = some (.slice A xs.length c) := keep_cell hb (by simp)
          have hx1 : w1.cell? ⟨w.heap.size, 1, none⟩ = some (.slice B ys.length e) := keep_cell hb (by simp)
          have hw : Below w.heap.size w w1 := below_alloc (hb)
          clear hb
          go_wp2_with fail
          refine (HCu.out _ (h.below hw)).mono ?_
          rintro e1 w8 ⟨A8, c8, rfl, ho8, hb8⟩
          replace hw := keep_below hb8 hw
          replace hx0 := keep_cell hb8 hx0
          replace hx1 := keep_cell hb8 hx1
          go_wp2_with fail
          refine (HW8.out _ (zv.below hw)).mono ?_
          rintro e1 w7 ⟨rfl, rfl⟩
          go_wp2
          go_ret2
          exact ⟨none, 0, rfl, .inl ⟨rfl, rfl⟩, hw⟩
        case true =>
          have hO : pcOk xs ys d9 vs = true := by unfold pcOk ; simp [q1, q2, q3, q4]
          have hV_pcR := pcR_yes hO
          rw [hV_pcR]
          (try rw [hO])
          clear hO hV_pcR
          have HG1 := Lib.hid (fun W (h : IntS W A xs) (k : IntS W B ys) => isTree_any A B c e xs ys W h k _hx _hy hn hm)
          rw [q1] at HG1
          have dn : ¬ (d9 < 0) := by have := of_decide_eq_true q2; omega
          have dn2 : decide (d9 < 0) = false := decide_eq_false dn
          have HCu := Lib.hid (fun W (h : IntS W A xs) => cut_any q1 A B c e d9 W h)
          have hcl := cut_len xs ys d9
          have hgl := good_len q1
          have hcb : (cutL xs ys d9).length ≤ 24 := by omega
          have HW9 := Lib.hid (fun W (z : IntS W V vs) => allWithin_any V cv vs (-999) 999 W z (by unfold maxLen; omega))
          clear hcl hgl
          have q3' := of_decide_eq_true q3
          have hd : ((vs.length : Int) != ((cutL xs ys d9).length : Int)) = false := by rw [bne_eq_false_iff_eq]; omega
          clear q3'
          
          
          rw [q4] at HW9
          have HOv := Lib.hid (fun W N9 c9 (h : IntS W A xs) (z : IntS W N9 (cutL xs ys d9)) => over_good q1 A B N9 c e c9 (cutL xs ys d9) W h z (by omega))
          have hol := ovL_len xs (cutL xs ys d9)
          have hel := ends_len xs
          have hep := ends_pos q1
          have HR := Lib.hid (fun j (hj : j < (endsL xs).length) => by
            obtain ⟨y, h1, h2, h3⟩ := end_pos q1 hj
            obtain ⟨m, h4, h5, _⟩ := cut_at q1 (of_decide_eq_true q2) h2 h3
            have : ∃ m : Nat, nth (ovL xs (cutL xs ys d9)) j = m ∧ m < vs.length ∧ pcF xs ys d9 vs (nth (endsL xs) j) = nth vs m := ⟨m, by unfold ovL; rw [mapI_nth _ _ hj, h1]; exact h4, by have := of_decide_eq_true q3; omega, by unfold pcF; rw [h1, h4, Int.toNat_natCast]⟩
            exact this)
          have hgl := (good_len q1).2.1
          have hR1 : 1 ≤ (ovL xs (cutL xs ys d9)).length := by omega
          have hE24 : (endsL xs).length ≤ 24 := by omega
          have HRL := Lib.hid hol
          have HMS := Lib.hid (fun i (h : i < (endsL xs).length) => mapI_succ (pcF xs ys d9 vs) (endsL xs) h)
          have HML := Lib.hid (fun i (h : i ≤ (endsL xs).length) => mapI_len (pcF xs ys d9 vs) (endsL xs) h)
          clear hol hel hep hgl
          generalize pcF xs ys d9 vs = f at *
          generalize ovL xs (cutL xs ys d9) = R at *
          generalize cutL xs ys d9 = C at *
          generalize endsL xs = E at *
          clear q1 q2 q3 q4 _hx _hy _bv
          go_enter Try.func71, Try.ntmps71
          go_wp2_with fail
          refine (HG1.out _ (h.alloc _) (k.alloc _)).mono ?_
          rintro e1 w1 ⟨rfl, hb⟩
          have hx0 : w1.cell? ⟨w.heap.size, 0, none⟩ = some (.slice A xs.length c) := keep_cell hb (by simp)
          have hx1 : w1.cell? ⟨w.heap.size, 1, none⟩ = some (.slice B ys.length e) := keep_cell hb (by simp)
          have hw : Below w.heap.size w w1 := below_alloc (hb)
          clear hb
          clear HG1
          obtain ⟨i0, hi, hz0, hz1, hz2⟩ := info_parts info_int
          go_wp2_with fail
          refine (HCu.out _ (h.below hw)).mono ?_
          rintro e1 w8 ⟨A8, c8, rfl, ho8, hb8⟩
          replace hw := keep_below hb8 hw
          replace hx0 := keep_cell hb8 hx0
          replace hx1 := keep_cell hb8 hx1
          go_wp2_with fail
          refine (HW9.out _ (zv.below hw)).mono ?_
          rintro e1 w7 ⟨rfl, rfl⟩
          have hsW := World.block_lt_of_cell? _ _ hx0
          have hsW8 : w.heap.size < w8.heap.size := hsW
          have hI8 := ho8.ints
          have hown := own_empty w8 (w.heap.size + 1) w8.heap.size rfl hsW8
          clear ho8 hb8
          go_wp2_with fail
          refine (HOv.out _ _ _ ((h.below hw).alloc _) (hI8.below ((Below.refl _ _).alloc (Nat.le_refl _) _))).mono ?_
          rintro e1 w6 ⟨A6, c6, rfl, ho6, hb6⟩
          obtain ⟨gR, rfl, hgR, hrR⟩ := ho6.pos hR1
          simp only [World.size_alloc] at hgR
          replace hown := own_below hown hb6
          replace hw := keep_below hb6 (keep_below_alloc hw _)
          clear ho6 hb6 hI8 hx0 hx1
          go_wp2
          go_loopw [9, 37] (fun v i wr => ∃ j : Nat, j ≤ E.length ∧ i = .int .i64 j ∧ wr.ownsRow (w.heap.size + 1) 3 1 v (mapI f E j).length (i64s (mapI f E j)) ∧ v.ownBlock ≠ some gR ∧ Row wr gR R ∧ Below w.heap.size w wr) (fun _ i _ => E.length - (intOf i).toNat)
          case atStart => exact ⟨0, by omega, rfl, hown, by simp [Value.ownBlock]; omega, hrR, hw⟩
          case round =>
            clear hown hrR hw
            obtain ⟨j, hj, rfl, hown, hne, hrR, hw⟩ := hrel
            by_cases hlt : j < E.length
            · obtain ⟨m, hm1, hm2, hm3⟩ := HR.out j hlt
              have hcR := hrR.cell (j := j) (by rw [HRL.out]; exact hlt)
              rw [hm1] at hcR
              obtain ⟨b9, o9, rfl, hc9⟩ := (zv.below hw).at_ (j := m) hm2
              have hms := HMS.out j hlt
              rw [hm3] at hms
              have HMJ := Lib.hid (HML.out j hj)
              generalize nth vs m = v9 at *
              have HPX : Hid (i64s (mapI f E (j + 1)) = i64s (mapI f E j) ++ [Value.int .i64 v9] ∧ (mapI f E (j + 1)).length = (mapI f E j).length + 1) := by rw [hms]; exact ⟨i64s_app _ _, by simp⟩
              have hlen : (mapI f E j).length ≤ 24 := by rw [HMJ.out]; omega
              have i1 : (j : Int) < R.length := by rw [HRL.out]; omega
              have i2 : (m : Int) < vs.length := by omega
              have hwz := hw.size
              clear hms hm1 hm3
              generalize mapI f E j = L at *
              go_wp2_with (at_builtin; (refine wpList_append_own_at _ rfl _ _ 22 rfl (w.heap.size + 1) 3 i0 (.int .i64 0) 1 8 Try.underlying22 hi hz0 hz1 hz2 rfl (by decide) _ _ _ rfl (hown.alloc _) ⟨wr.heap.size, 0, none⟩ 1 1 [.int .i64 (v9)] rfl rfl (cell_one_new _ _ _) (by simp [Value.oneCell']) (by unfold maxLen; omega) (by omega) (by simp; omega) ?_); intro v' w1 hown1 hgrow _ hat)
              have hrow1 := (hrR.alloc (.cells #[.int .i64 v9] 3)).grown hgrow (fun e => hne e.symm)
              have hb3 : Below w.heap.size w w1 := Below.grown (hw.alloc hw.size _) hgrow (by simp; omega) (fun g hg => by have := (hown.lt g hg).1; omega)
              have hgl := hrR.lt
              have hne1 : v'.ownBlock ≠ some gR := by
                rcases hat with e | e
                · rw [e]; exact hne
                · rw [e]; simp; omega
              rw [← HPX.out.1, ← HPX.out.2] at hown1
              clear hown hgrow hrR hw HPX hne hat
              go_wp2
              go_roundw
              case rel => exact ⟨j + 1, by omega, by go_num, hown1, hne1, hrow1, hb3⟩
              case measure => simp only [intOf]; omega
            · have hkn : j = E.length := by omega
              have i3 : ¬ ((j : Int) < R.length) := by rw [HRL.out]; omega
              rw [hkn] at hown
              obtain ⟨A', c', rfl, hO⟩ := own_form hown
              clear hkn hown
              go_wp2
              go_ret2
              exact ⟨A', c', rfl, hO.mono (by omega), hw⟩
set_option maxHeartbeats 4000000 in
set_option maxRecDepth 100000 in
theorem specPaysAtCut_any (A B : Option Addr) (c e : Nat) (xs ys : List Int) (d9 : Int) (V : Option Addr) (cv : Nat) (vs : List Int) (w : World) (h : IntS w A xs) (k : IntS w B ys) (zv : IntS w V vs) (_hx : Bd xs) (_hy : Bd ys) (_bv : Bd vs) (_hd9 : -9223372036854775808 ≤ d9 ∧ d9 ≤ 9223372036854775807) (hn : xs.length ≤ 1048576) (hm : ys.length ≤ 1048576) (lv : vs.length ≤ 1048576) :
    Calls Try.prog 72 #[.agg #[.slice A xs.length c, .slice B ys.length e], .int .i64 d9, .slice V vs.length cv] w (RetIB w (pcR xs ys d9 vs) (pcOk xs ys d9 vs)) := by
  obtain ⟨r1, q1⟩ : ∃ r, (good xs ys) = r := ⟨_, rfl⟩
  cases r1
  case false =>
    have hO : pcOk xs ys d9 vs = false := by unfold pcOk ; simp [q1]
    have hV_pcR := pcR_no hO
    rw [hV_pcR]
    (try rw [hO])
    clear hO hV_pcR
    have HG1 := Lib.hid (fun W (h : IntS W A xs) (k : IntS W B ys) => l2Good_any A B c e xs ys W h k _hx _hy hn hm)
    rw [q1] at HG1
    clear q1 _hx _hy _bv
    go_enter Try.func72, Try.ntmps72
    go_wp2_with fail
    refine (HG1.out _ ((h.alloc _).alloc _) ((k.alloc _).alloc _)).mono ?_
    rintro e1 w1 ⟨rfl, hb⟩
    have hx0 : w1.cell? ⟨w.heap.size, 0, none⟩ = some (.slice A xs.length c) := keep_cell hb (by simp)
    have hx1 : w1.cell? ⟨w.heap.size, 1, none⟩ = some (.slice B ys.length e) := keep_cell hb (by simp)
    have hown := own_below (own_empty _ (w.heap.size + 1) (w.heap.size + 1) (by simp) (by simp)) hb
    have hw : Below w.heap.size w w1 := below_alloc (below_alloc (hb))
    clear hb
    obtain ⟨A', c', hv, hO⟩ := own_form (xs := []) hown
    cases hv
    clear hown
    go_wp2
    go_ret2
    exact ⟨_, _, rfl, hO.mono (by omega), hw⟩
  case true =>
    obtain ⟨r2, q2⟩ : ∃ r, (decide (0 ≤ d9)) = r := ⟨_, rfl⟩
    cases r2
    case false =>
      have hO : pcOk xs ys d9 vs = false := by unfold pcOk ; simp [q1, q2]
      have hV_pcR := pcR_no hO
      rw [hV_pcR]
      (try rw [hO])
      clear hO hV_pcR
      have HG1 := Lib.hid (fun W (h : IntS W A xs) (k : IntS W B ys) => l2Good_any A B c e xs ys W h k _hx _hy hn hm)
      rw [q1] at HG1
      have dn : d9 < 0 := by have := of_decide_eq_false q2; omega
      have dn2 : decide (d9 < 0) = true := decide_eq_true dn
      clear q1 q2 _hx _hy _bv
      go_enter Try.func72, Try.ntmps72
      go_wp2_with fail
      refine (HG1.out _ ((h.alloc _).alloc _) ((k.alloc _).alloc _)).mono ?_
      rintro e1 w1 ⟨rfl, hb⟩
      have hx0 : w1.cell? ⟨w.heap.size, 0, none⟩ = some (.slice A xs.length c) := keep_cell hb (by simp)
      have hx1 : w1.cell? ⟨w.heap.size, 1, none⟩ = some (.slice B ys.length e) := keep_cell hb (by simp)
      have hown := own_below (own_empty _ (w.heap.size + 1) (w.heap.size + 1) (by simp) (by simp)) hb
      have hw : Below w.heap.size w w1 := below_alloc (below_alloc (hb))
      clear hb
      obtain ⟨A', c', hv, hO⟩ := own_form (xs := []) hown
      cases hv
      clear hown
      go_wp2
      go_ret2
      exact ⟨_, _, rfl, hO.mono (by omega), hw⟩
    case true =>
      obtain ⟨r3, q3⟩ : ∃ r, (decide (vs.length = (cutL xs ys d9).length)) = r := ⟨_, rfl⟩
      cases r3
      case false =>
        have hO : pcOk xs ys d9 vs = false := by unfold pcOk ; simp [q1, q2, q3]
        have hV_pcR := pcR_no hO
        rw [hV_pcR]
        (try rw [hO])
        clear hO hV_pcR
        have HG1 := Lib.hid (fun W (h : IntS W A xs) (k : IntS W B ys) => l2Good_any A B c e xs ys W h k _hx _hy hn hm)
        rw [q1] at HG1
        have HCu := Lib.hid (fun W (h : IntS W A xs) (k : IntS W B ys) => l2CutAt_any q1 A B c e d9 W h k)
        have HE := Lib.hid (fun W (h : IntS W A xs) => l2Ends_any A B c ys.length e xs W h (by have := good_len q1; omega) (good_iff.1 q1).2.1 (good_root q1))
        have hE1 := Lib.hid (ends_pos q1)
        have hC1 := Lib.hid (cut_pos q1 (of_decide_eq_true q2))
        have q3' := of_decide_eq_false q3
        have hd : ((vs.length : Int) != ((cutL xs ys d9).length : Int)) = true := by rw [bne_iff_ne]; omega
        clear q3'
        generalize cutL xs ys d9 = C at *
        generalize endsL xs = E at *
        have dn : ¬ (d9 < 0) := by have := of_decide_eq_true q2; omega
        have dn2 : decide (d9 < 0) = false := decide_eq_false dn
        clear q1 q2 q3 _hx _hy _bv
        go_enter Try.func72, Try.ntmps72
        go_wp2_with fail
        refine (HG1.out _ ((h.alloc _).alloc _) ((k.alloc _).alloc _)).mono ?_
        rintro e1 w1 ⟨rfl, hb⟩
        have hx0 : w1.cell? ⟨w.heap.size, 0, none⟩ = some (.slice A xs.length c) := keep_cell hb (by simp)
        have hx1 : w1.cell? ⟨w.heap.size, 1, none⟩ = some (.slice B ys.length e) := keep_cell hb (by simp)
        have hown := own_below (own_empty _ (w.heap.size + 1) (w.heap.size + 1) (by simp) (by simp)) hb
        have hw : Below w.heap.size w w1 := below_alloc (below_alloc (hb))
        clear hb
        have hs1 := (hown.lt (w.heap.size + 1) rfl).2
        go_wp2
        refine wp_region_held_drew (S := fun w' => Below w1.heap.size w1 w') (by kernel_rfl) ((Below.refl _ _)).drew (fun hHeld => ?_)
        replace hw := hw.drew
        refine wpAnyH_take (i := 0) (oi := ?oop1) (v := ?vvp1) ?hip1 (by kernel_rfl) (by kernel_rfl) (by kernel_rfl) ?hqp1 (Or.inl ⟨?hgp1, ?hyp1⟩) (by assumption) ?restp1
        case hip1 => simp only [List.getElem?_toArray, List.getElem?_cons_zero]; rfl
        case hqp1 => exact fun _ _ _ h => h
        case hgp1 => rfl
        case hyp1 =>
          intro wq hSw
          replace hx0 := keep_cell hSw hx0
          replace hx1 := keep_cell hSw hx1
          go_simp
          (try with_reducible rfl)
        (try simp only [Act.put, List.setIfInBounds_toArray, List.set_cons_zero, List.set_cons_succ])
        refine wpAnyH_take (i := 1) (oi := ?oop2) (v := ?vvp2) ?hip2 (by kernel_rfl) (by kernel_rfl) (by kernel_rfl) ?hqp2 (Or.inl ⟨?hgp2, ?hyp2⟩) (by assumption) ?restp2
        case hip2 => simp only [List.getElem?_toArray, List.getElem?_cons_zero, List.getElem?_cons_succ]; rfl
        case hqp2 => exact fun _ _ _ h => h
        case hgp2 => rfl
        case hyp2 =>
          intro wq hSw
          replace hx0 := keep_cell hSw hx0
          replace hx1 := keep_cell hSw hx1
          go_simp
          (try with_reducible rfl)
        (try simp only [Act.put, List.setIfInBounds_toArray, List.set_cons_zero, List.set_cons_succ])
        refine wpAnyH_take (i := 3) (oi := ?oop3) (v := ?vvp3) ?hip3 (by kernel_rfl) (by kernel_rfl) (by kernel_rfl) ?hqp3 (Or.inl ⟨?hgp3, ?hyp3⟩) (by assumption) ?restp3
        case hip3 => simp only [List.getElem?_toArray, List.getElem?_cons_zero, List.getElem?_cons_succ]; rfl
        case hqp3 => exact fun _ _ _ h => h
        case hgp3 => rfl
        case hyp3 =>
          intro wq hSw
          replace hx0 := keep_cell hSw hx0
          replace hx1 := keep_cell hSw hx1
          go_simp
          (try with_reducible rfl)
        (try simp only [Act.put, List.setIfInBounds_toArray, List.set_cons_zero, List.set_cons_succ])
        refine wpAnyH_ready (rs := [2]) (by kernel_rfl) (by simp) ?_
        refine AllReadyH.cons (i := 2) (o := ?oop4) ?hop4 (fun K hK => ?hstepp4) AllReadyH.nil
        case hop4 => simp only [List.getElem?_toArray, List.getElem?_cons_zero, List.getElem?_cons_succ]; rfl
        go_simp
        refine (HCu.out _ (h.below hw) (k.below hw)).mono ?_
        rintro e1 wz ⟨A8, c8, rfl, ho8, hb⟩
        obtain ⟨gC, rfl, hgC, hrC⟩ := ho8.pos hC1.out
        have hgC2 : w.heap.size + 1 < gC := Nat.lt_of_lt_of_le hs1 hgC
        have hb0 : Below w1.heap.size w1 wz := ⟨hb.os, hb.tape, hb.output, hb.size, hb.block⟩
        replace hown := own_below hown hb0
        clear ho8 hgC hb0
        go_wp2_with fail
        refine hK.out _ _ (keep_below hb hHeld) (fun _ => ?_)
        clear hK K
        (try simp only [Act.put, List.setIfInBounds_toArray, List.set_cons_zero, List.set_cons_succ])
        refine wpAnyH_mono (S' := fun w' => Below wz.heap.size wz w') (fun _ h => keep_below h (keep_below hb hHeld)) _ _ _ _ ?_
        replace hw := keep_below hb hw
        replace hx0 := keep_cell hb hx0
        replace hx1 := keep_cell hb hx1
        clear hHeld hb
        have hHeld : Below wz.heap.size wz wz := (Below.refl _ _)
        refine wpAnyH_ready (rs := [4]) (by kernel_rfl) (by simp) ?_
        refine AllReadyH.cons (i := 4) (o := ?oop5) ?hop5 (fun K hK => ?hstepp5) AllReadyH.nil
        case hop5 => simp only [List.getElem?_toArray, List.getElem?_cons_zero, List.getElem?_cons_succ]; rfl
        go_simp
        have hs2 := (hown.lt (w.heap.size + 1) rfl).2
        refine (HE.out _ (h.below hw)).mono ?_
        rintro e1 wz ⟨A7, c7, rfl, ho7, hb⟩
        replace hrC := hrC.below hb
        replace hown := own_below hown hb
        obtain ⟨gE, rfl, hgE, hrE⟩ := ho7.pos hE1.out
        have hgE2 : w.heap.size + 1 < gE := Nat.lt_of_lt_of_le hs2 hgE
        clear ho7 hgE hs2
        go_wp2_with fail
        refine hK.out _ _ (keep_below hb hHeld) (fun _ => ?_)
        clear hK K
        (try simp only [Act.put, List.setIfInBounds_toArray, List.set_cons_zero, List.set_cons_succ])
        refine wpAnyH_mono (S' := fun w' => Below wz.heap.size wz w') (fun _ h => keep_below h (keep_below hb hHeld)) _ _ _ _ ?_
        replace hw := keep_below hb hw
        replace hx0 := keep_cell hb hx0
        replace hx1 := keep_cell hb hx1
        clear hHeld hb
        have hHeld : Below wz.heap.size wz wz := (Below.refl _ _)
        refine wpAnyH_take (i := 5) (oi := ?oop6) (v := ?vvp6) ?hip6 (by kernel_rfl) (by kernel_rfl) (by kernel_rfl) ?hqp6 (Or.inl ⟨?hgp6, ?hyp6⟩) (by assumption) ?restp6
        case hip6 => simp only [List.getElem?_toArray, List.getElem?_cons_zero, List.getElem?_cons_succ]; rfl
        case hqp6 => exact fun _ _ _ h => h
        case hgp6 => rfl
        case hyp6 =>
          intro wq hSw
          replace hx0 := keep_cell hSw hx0
          replace hx1 := keep_cell hSw hx1
          go_simp
          (try with_reducible rfl)
        (try simp only [Act.put, List.setIfInBounds_toArray, List.set_cons_zero, List.set_cons_succ])
        refine wpAnyH_take (i := 6) (oi := ?oop7) (v := ?vvp7) ?hip7 (by kernel_rfl) (by kernel_rfl) (by kernel_rfl) ?hqp7 (Or.inl ⟨?hgp7, ?hyp7⟩) (by assumption) ?restp7
        case hip7 => simp only [List.getElem?_toArray, List.getElem?_cons_zero, List.getElem?_cons_succ]; rfl
        case hqp7 => exact fun _ _ _ h => h
        case hgp7 => rfl
        case hyp7 =>
          intro wq hSw
          replace hx0 := keep_cell hSw hx0
          replace hx1 := keep_cell hSw hx1
          go_simp
          (try with_reducible rfl)
        (try simp only [Act.put, List.setIfInBounds_toArray, List.set_cons_zero, List.set_cons_succ])
        clear hHeld
        refine wpAnyH_done (by kernel_rfl) ?_ _
        obtain ⟨A', c', hv, hO⟩ := own_form (xs := []) hown
        cases hv
        clear hown
        go_wp2
        go_ret2
        exact ⟨_, _, rfl, hO.mono (by omega), hw⟩
      case true =>
        obtain ⟨r4, q4⟩ : ∃ r, (allIn vs (-999) 999) = r := ⟨_, rfl⟩
        cases r4
        case false =>
          have hO : pcOk xs ys d9 vs = false := by unfold pcOk ; simp [q1, q2, q3, q4]
          have hV_pcR := pcR_no hO
          rw [hV_pcR]
          (try rw [hO])
          clear hO hV_pcR
          have HG1 := Lib.hid (fun W (h : IntS W A xs) (k : IntS W B ys) => l2Good_any A B c e xs ys W h k _hx _hy hn hm)
          rw [q1] at HG1
          have HCu := Lib.hid (fun W (h : IntS W A xs) (k : IntS W B ys) => l2CutAt_any q1 A B c e d9 W h k)
          have HE := Lib.hid (fun W (h : IntS W A xs) => l2Ends_any A B c ys.length e xs W h (by have := good_len q1; omega) (good_iff.1 q1).2.1 (good_root q1))
          have hE1 := Lib.hid (ends_pos q1)
          have hC1 := Lib.hid (cut_pos q1 (of_decide_eq_true q2))
          have HN4 := Lib.hid q4
          have dn : ¬ (d9 < 0) := by have := of_decide_eq_true q2; omega
          have dn2 : decide (d9 < 0) = false := decide_eq_false dn
          have q3' := of_decide_eq_true q3
          have hd : ((vs.length : Int) != ((cutL xs ys d9).length : Int)) = false := by rw [bne_eq_false_iff_eq]; omega
          clear q3'
          
          clear q1 q2 q3 q4 _hx _hy _bv
          go_enter Try.func72, Try.ntmps72
          go_wp2_with fail
          refine (HG1.out _ ((h.alloc _).alloc _) ((k.alloc _).alloc _)).mono ?_
          rintro e1 w1 ⟨rfl, hb⟩
          have hx0 : w1.cell? ⟨w.heap.size, 0, none⟩ = some (.slice A xs.length c) := keep_cell hb (by simp)
          have hx1 : w1.cell? ⟨w.heap.size, 1, none⟩ = some (.slice B ys.length e) := keep_cell hb (by simp)
          have hown := own_below (own_empty _ (w.heap.size + 1) (w.heap.size + 1) (by simp) (by simp)) hb
          have hw : Below w.heap.size w w1 := below_alloc (below_alloc (hb))
          clear hb
          have hs1 := (hown.lt (w.heap.size + 1) rfl).2
          go_wp2
          refine wp_region_held_drew (S := fun w' => Below w1.heap.size w1 w') (by kernel_rfl) ((Below.refl _ _)).drew (fun hHeld => ?_)
          replace hw := hw.drew
          refine wpAnyH_take (i := 0) (oi := ?ooq1) (v := ?vvq1) ?hiq1 (by kernel_rfl) (by kernel_rfl) (by kernel_rfl) ?hqq1 (Or.inl ⟨?hgq1, ?hyq1⟩) (by assumption) ?restq1
          case hiq1 => simp only [List.getElem?_toArray, List.getElem?_cons_zero]; rfl
          case hqq1 => exact fun _ _ _ h => h
          case hgq1 => rfl
          case hyq1 =>
            intro wq hSw
            replace hx0 := keep_cell hSw hx0
            replace hx1 := keep_cell hSw hx1
            go_simp
            (try with_reducible rfl)
          (try simp only [Act.put, List.setIfInBounds_toArray, List.set_cons_zero, List.set_cons_succ])
          refine wpAnyH_take (i := 1) (oi := ?ooq2) (v := ?vvq2) ?hiq2 (by kernel_rfl) (by kernel_rfl) (by kernel_rfl) ?hqq2 (Or.inl ⟨?hgq2, ?hyq2⟩) (by assumption) ?restq2
          case hiq2 => simp only [List.getElem?_toArray, List.getElem?_cons_zero, List.getElem?_cons_succ]; rfl
          case hqq2 => exact fun _ _ _ h => h
          case hgq2 => rfl
          case hyq2 =>
            intro wq hSw
            replace hx0 := keep_cell hSw hx0
            replace hx1 := keep_cell hSw hx1
            go_simp
            (try with_reducible rfl)
          (try simp only [Act.put, List.setIfInBounds_toArray, List.set_cons_zero, List.set_cons_succ])
          refine wpAnyH_take (i := 3) (oi := ?ooq3) (v := ?vvq3) ?hiq3 (by kernel_rfl) (by kernel_rfl) (by kernel_rfl) ?hqq3 (Or.inl ⟨?hgq3, ?hyq3⟩) (by assumption) ?restq3
          case hiq3 => simp only [List.getElem?_toArray, List.getElem?_cons_zero, List.getElem?_cons_succ]; rfl
          case hqq3 => exact fun _ _ _ h => h
          case hgq3 => rfl
          case hyq3 =>
            intro wq hSw
            replace hx0 := keep_cell hSw hx0
            replace hx1 := keep_cell hSw hx1
            go_simp
            (try with_reducible rfl)
          (try simp only [Act.put, List.setIfInBounds_toArray, List.set_cons_zero, List.set_cons_succ])
          refine wpAnyH_ready (rs := [2]) (by kernel_rfl) (by simp) ?_
          refine AllReadyH.cons (i := 2) (o := ?ooq4) ?hoq4 (fun K hK => ?hstepq4) AllReadyH.nil
          case hoq4 => simp only [List.getElem?_toArray, List.getElem?_cons_zero, List.getElem?_cons_succ]; rfl
          go_simp
          refine (HCu.out _ (h.below hw) (k.below hw)).mono ?_
          rintro e1 wz ⟨A8, c8, rfl, ho8, hb⟩
          obtain ⟨gC, rfl, hgC, hrC⟩ := ho8.pos hC1.out
          have hgC2 : w.heap.size + 1 < gC := Nat.lt_of_lt_of_le hs1 hgC
          have hb0 : Below w1.heap.size w1 wz := ⟨hb.os, hb.tape, hb.output, hb.size, hb.block⟩
          replace hown := own_below hown hb0
          clear ho8 hgC hb0
          go_wp2_with fail
          refine hK.out _ _ (keep_below hb hHeld) (fun _ => ?_)
          clear hK K
          (try simp only [Act.put, List.setIfInBounds_toArray, List.set_cons_zero, List.set_cons_succ])
          refine wpAnyH_mono (S' := fun w' => Below wz.heap.size wz w') (fun _ h => keep_below h (keep_below hb hHeld)) _ _ _ _ ?_
          replace hw := keep_below hb hw
          replace hx0 := keep_cell hb hx0
          replace hx1 := keep_cell hb hx1
          clear hHeld hb
          have hHeld : Below wz.heap.size wz wz := (Below.refl _ _)
          refine wpAnyH_ready (rs := [4]) (by kernel_rfl) (by simp) ?_
          refine AllReadyH.cons (i := 4) (o := ?ooq5) ?hoq5 (fun K hK => ?hstepq5) AllReadyH.nil
          case hoq5 => simp only [List.getElem?_toArray, List.getElem?_cons_zero, List.getElem?_cons_succ]; rfl
          go_simp
          have hs2 := (hown.lt (w.heap.size + 1) rfl).2
          refine (HE.out _ (h.below hw)).mono ?_
          rintro e1 wz ⟨A7, c7, rfl, ho7, hb⟩
          replace hrC := hrC.below hb
          replace hown := own_below hown hb
          obtain ⟨gE, rfl, hgE, hrE⟩ := ho7.pos hE1.out
          have hgE2 : w.heap.size + 1 < gE := Nat.lt_of_lt_of_le hs2 hgE
          clear ho7 hgE hs2
          go_wp2_with fail
          refine hK.out _ _ (keep_below hb hHeld) (fun _ => ?_)
          clear hK K
          (try simp only [Act.put, List.setIfInBounds_toArray, List.set_cons_zero, List.set_cons_succ])
          refine wpAnyH_mono (S' := fun w' => Below wz.heap.size wz w') (fun _ h => keep_below h (keep_below hb hHeld)) _ _ _ _ ?_
          replace hw := keep_below hb hw
          replace hx0 := keep_cell hb hx0
          replace hx1 := keep_cell hb hx1
          clear hHeld hb
          have hHeld : Below wz.heap.size wz wz := (Below.refl _ _)
          refine wpAnyH_take (i := 5) (oi := ?ooq6) (v := ?vvq6) ?hiq6 (by kernel_rfl) (by kernel_rfl) (by kernel_rfl) ?hqq6 (Or.inl ⟨?hgq6, ?hyq6⟩) (by assumption) ?restq6
          case hiq6 => simp only [List.getElem?_toArray, List.getElem?_cons_zero, List.getElem?_cons_succ]; rfl
          case hqq6 => exact fun _ _ _ h => h
          case hgq6 => rfl
          case hyq6 =>
            intro wq hSw
            replace hx0 := keep_cell hSw hx0
            replace hx1 := keep_cell hSw hx1
            go_simp
            (try with_reducible rfl)
          (try simp only [Act.put, List.setIfInBounds_toArray, List.set_cons_zero, List.set_cons_succ])
          refine wpAnyH_take (i := 6) (oi := ?ooq7) (v := ?vvq7) ?hiq7 (by kernel_rfl) (by kernel_rfl) (by kernel_rfl) ?hqq7 (Or.inl ⟨?hgq7, ?hyq7⟩) (by assumption) ?restq7
          case hiq7 => simp only [List.getElem?_toArray, List.getElem?_cons_zero, List.getElem?_cons_succ]; rfl
          case hqq7 => exact fun _ _ _ h => h
          case hgq7 => rfl
          case hyq7 =>
            intro wq hSw
            replace hx0 := keep_cell hSw hx0
            replace hx1 := keep_cell hSw hx1
            go_simp
            (try with_reducible rfl)
          (try simp only [Act.put, List.setIfInBounds_toArray, List.set_cons_zero, List.set_cons_succ])
          clear hHeld
          refine wpAnyH_done (by kernel_rfl) ?_ _
          go_wp2
          go_loop [11] (fun i => ∃ k : Nat, k ≤ vs.length ∧ i = .int .i64 k ∧ Hid (∀ j, j < k → -999 ≤ nth vs j ∧ nth vs j ≤ 999)) (fun i => vs.length - (intOf i).toNat)
          case atStart => exact ⟨0, Nat.zero_le _, rfl, fun j hj => by omega⟩
          case round =>
            obtain ⟨j, hj, rfl, HA⟩ := hrel
            by_cases hlt : j < vs.length
            · obtain ⟨b, o, rfl, hc⟩ := (zv.below hw).at_ (j := j) hlt
              have i1 : (j : Int) < vs.length := by omega
              by_cases hzj : -999 ≤ nth vs j ∧ nth vs j ≤ 999
              · have HA' : Hid (∀ q, q < j + 1 → -999 ≤ nth vs q ∧ nth vs q ≤ 999) := fun q hq => by
                  by_cases e : q = j
                  · subst e; exact hzj
                  · exact HA.out q (by omega)
                go_wp2_with (go_at_call 115; refine (l1In_yes _ _ _ _ hzj.1 hzj.2).mono ?_; rintro e w' ⟨rfl, rfl⟩)
                go_round
                case rel => exact ⟨j + 1, by omega, by go_num, HA'⟩
                case measure => simp [intOf]; omega
              · go_wp2_with (go_at_call 115; refine (l1In_no _ _ _ _ hzj).mono ?_; rintro e w' ⟨rfl, rfl⟩)
                clear hown
                go_ret2
                exact ⟨_, _, rfl, .inr ⟨_, rfl, hw.size, ⟨#[], heap_alloc_new _ _, [], rfl⟩⟩, keep_below_alloc hw _⟩
            · exact absurd (allIn_yes fun q hq => HA.out q (by omega)) (by rw [HN4.out]; simp)
          
        case true =>
          have hO : pcOk xs ys d9 vs = true := by unfold pcOk ; simp [q1, q2, q3, q4]
          have hV_pcR := pcR_yes hO
          rw [hV_pcR]
          (try rw [hO])
          clear hO hV_pcR
          have HG1 := Lib.hid (fun W (h : IntS W A xs) (k : IntS W B ys) => l2Good_any A B c e xs ys W h k _hx _hy hn hm)
          rw [q1] at HG1
          have dn : ¬ (d9 < 0) := by have := of_decide_eq_true q2; omega
          have dn2 : decide (d9 < 0) = false := decide_eq_false dn
          have q3' := of_decide_eq_true q3
          have hd : ((vs.length : Int) != ((cutL xs ys d9).length : Int)) = false := by rw [bne_eq_false_iff_eq]; omega
          clear q3'
          
          have HCu := Lib.hid (fun W (h : IntS W A xs) (k : IntS W B ys) => l2CutAt_any q1 A B c e d9 W h k)
          have HE := Lib.hid (fun W (h : IntS W A xs) => l2Ends_any A B c ys.length e xs W h (by have := good_len q1; omega) (good_iff.1 q1).2.1 (good_root q1))
          have hE1 := Lib.hid (ends_pos q1)
          have hC1 := Lib.hid (cut_pos q1 (of_decide_eq_true q2))
          have hgl := (good_len q1).2.1
          have hel := ends_len xs
          have hE24 : (endsL xs).length ≤ 24 := by omega
          have HCA := Lib.hid (fun j (hj : j < (endsL xs).length) => by
            obtain ⟨y, h1, h2, h3⟩ := end_pos q1 hj
            obtain ⟨m, h4, h5, q, h6, h7, h8, h9⟩ := cut_at q1 (of_decide_eq_true q2) h2 h3
            have : ∃ y m : Nat, nth (endsL xs) j = y ∧ y < xs.length ∧ m < (cutL xs ys d9).length ∧ m < vs.length ∧ pcF xs ys d9 vs (nth (endsL xs) j) = nth vs m ∧ (∃ q : Nat, nth (cutL xs ys d9) m = q ∧ q < xs.length ∧ underB xs q y = true) ∧ ∀ k, k < m → ∃ z : Nat, nth (cutL xs ys d9) k = z ∧ z < xs.length ∧ underB xs z y = false := ⟨y, m, h1, h2, h5, by have := of_decide_eq_true q3; omega, by unfold pcF; rw [h1, h4, Int.toNat_natCast], ⟨q, h6, h7, h8⟩, h9⟩
            exact this)
          have HUn := Lib.hid (fun W (x y : Nat) (h : IntS W A xs) (hx : x < xs.length) (hy : y < xs.length) => l2Under_good q1 A B c e x y W h hx hy)
          have HAV := Lib.hid (allIn_iff.1 q4)
          have HMS := Lib.hid (fun i (h : i < (endsL xs).length) => mapI_succ (pcF xs ys d9 vs) (endsL xs) h)
          have HML := Lib.hid (fun i (h : i ≤ (endsL xs).length) => mapI_len (pcF xs ys d9 vs) (endsL xs) h)
          clear hel hgl
          generalize pcF xs ys d9 vs = f at *
          generalize cutL xs ys d9 = C at *
          generalize endsL xs = E at *
          clear q1 q2 q3 q4 _hx _hy _bv
          go_enter Try.func72, Try.ntmps72
          go_wp2_with fail
          refine (HG1.out _ ((h.alloc _).alloc _) ((k.alloc _).alloc _)).mono ?_
          rintro e1 w1 ⟨rfl, hb⟩
          have hx0 : w1.cell? ⟨w.heap.size, 0, none⟩ = some (.slice A xs.length c) := keep_cell hb (by simp)
          have hx1 : w1.cell? ⟨w.heap.size, 1, none⟩ = some (.slice B ys.length e) := keep_cell hb (by simp)
          have hown := own_below (own_empty _ (w.heap.size + 1) (w.heap.size + 1) (by simp) (by simp)) hb
          have hw : Below w.heap.size w w1 := below_alloc (below_alloc (hb))
          clear hb
          clear HG1
          have hs1 := (hown.lt (w.heap.size + 1) rfl).2
          go_wp2
          refine wp_region_held_drew (S := fun w' => Below w1.heap.size w1 w') (by kernel_rfl) ((Below.refl _ _)).drew (fun hHeld => ?_)
          replace hw := hw.drew
          refine wpAnyH_take (i := 0) (oi := ?oor1) (v := ?vvr1) ?hir1 (by kernel_rfl) (by kernel_rfl) (by kernel_rfl) ?hqr1 (Or.inl ⟨?hgr1, ?hyr1⟩) (by assumption) ?restr1
          case hir1 => simp only [List.getElem?_toArray, List.getElem?_cons_zero]; rfl
          case hqr1 => exact fun _ _ _ h => h
          case hgr1 => rfl
          case hyr1 =>
            intro wq hSw
            replace hx0 := keep_cell hSw hx0
            replace hx1 := keep_cell hSw hx1
            go_simp
            (try with_reducible rfl)
          (try simp only [Act.put, List.setIfInBounds_toArray, List.set_cons_zero, List.set_cons_succ])
          refine wpAnyH_take (i := 1) (oi := ?oor2) (v := ?vvr2) ?hir2 (by kernel_rfl) (by kernel_rfl) (by kernel_rfl) ?hqr2 (Or.inl ⟨?hgr2, ?hyr2⟩) (by assumption) ?restr2
          case hir2 => simp only [List.getElem?_toArray, List.getElem?_cons_zero, List.getElem?_cons_succ]; rfl
          case hqr2 => exact fun _ _ _ h => h
          case hgr2 => rfl
          case hyr2 =>
            intro wq hSw
            replace hx0 := keep_cell hSw hx0
            replace hx1 := keep_cell hSw hx1
            go_simp
            (try with_reducible rfl)
          (try simp only [Act.put, List.setIfInBounds_toArray, List.set_cons_zero, List.set_cons_succ])
          refine wpAnyH_take (i := 3) (oi := ?oor3) (v := ?vvr3) ?hir3 (by kernel_rfl) (by kernel_rfl) (by kernel_rfl) ?hqr3 (Or.inl ⟨?hgr3, ?hyr3⟩) (by assumption) ?restr3
          case hir3 => simp only [List.getElem?_toArray, List.getElem?_cons_zero, List.getElem?_cons_succ]; rfl
          case hqr3 => exact fun _ _ _ h => h
          case hgr3 => rfl
          case hyr3 =>
            intro wq hSw
            replace hx0 := keep_cell hSw hx0
            replace hx1 := keep_cell hSw hx1
            go_simp
            (try with_reducible rfl)
          (try simp only [Act.put, List.setIfInBounds_toArray, List.set_cons_zero, List.set_cons_succ])
          refine wpAnyH_ready (rs := [2]) (by kernel_rfl) (by simp) ?_
          refine AllReadyH.cons (i := 2) (o := ?oor4) ?hor4 (fun K hK => ?hstepr4) AllReadyH.nil
          case hor4 => simp only [List.getElem?_toArray, List.getElem?_cons_zero, List.getElem?_cons_succ]; rfl
          go_simp
          refine (HCu.out _ (h.below hw) (k.below hw)).mono ?_
          rintro e1 wz ⟨A8, c8, rfl, ho8, hb⟩
          obtain ⟨gC, rfl, hgC, hrC⟩ := ho8.pos hC1.out
          have hgC2 : w.heap.size + 1 < gC := Nat.lt_of_lt_of_le hs1 hgC
          have hb0 : Below w1.heap.size w1 wz := ⟨hb.os, hb.tape, hb.output, hb.size, hb.block⟩
          replace hown := own_below hown hb0
          clear ho8 hgC hb0
          go_wp2_with fail
          refine hK.out _ _ (keep_below hb hHeld) (fun _ => ?_)
          clear hK K
          (try simp only [Act.put, List.setIfInBounds_toArray, List.set_cons_zero, List.set_cons_succ])
          refine wpAnyH_mono (S' := fun w' => Below wz.heap.size wz w') (fun _ h => keep_below h (keep_below hb hHeld)) _ _ _ _ ?_
          replace hw := keep_below hb hw
          replace hx0 := keep_cell hb hx0
          replace hx1 := keep_cell hb hx1
          clear hHeld hb
          have hHeld : Below wz.heap.size wz wz := (Below.refl _ _)
          refine wpAnyH_ready (rs := [4]) (by kernel_rfl) (by simp) ?_
          refine AllReadyH.cons (i := 4) (o := ?oor5) ?hor5 (fun K hK => ?hstepr5) AllReadyH.nil
          case hor5 => simp only [List.getElem?_toArray, List.getElem?_cons_zero, List.getElem?_cons_succ]; rfl
          go_simp
          have hs2 := (hown.lt (w.heap.size + 1) rfl).2
          refine (HE.out _ (h.below hw)).mono ?_
          rintro e1 wz ⟨A7, c7, rfl, ho7, hb⟩
          replace hrC := hrC.below hb
          replace hown := own_below hown hb
          obtain ⟨gE, rfl, hgE, hrE⟩ := ho7.pos hE1.out
          have hgE2 : w.heap.size + 1 < gE := Nat.lt_of_lt_of_le hs2 hgE
          clear ho7 hgE hs2
          go_wp2_with fail
          refine hK.out _ _ (keep_below hb hHeld) (fun _ => ?_)
          clear hK K
          (try simp only [Act.put, List.setIfInBounds_toArray, List.set_cons_zero, List.set_cons_succ])
          refine wpAnyH_mono (S' := fun w' => Below wz.heap.size wz w') (fun _ h => keep_below h (keep_below hb hHeld)) _ _ _ _ ?_
          replace hw := keep_below hb hw
          replace hx0 := keep_cell hb hx0
          replace hx1 := keep_cell hb hx1
          clear hHeld hb
          have hHeld : Below wz.heap.size wz wz := (Below.refl _ _)
          refine wpAnyH_take (i := 5) (oi := ?oor6) (v := ?vvr6) ?hir6 (by kernel_rfl) (by kernel_rfl) (by kernel_rfl) ?hqr6 (Or.inl ⟨?hgr6, ?hyr6⟩) (by assumption) ?restr6
          case hir6 => simp only [List.getElem?_toArray, List.getElem?_cons_zero, List.getElem?_cons_succ]; rfl
          case hqr6 => exact fun _ _ _ h => h
          case hgr6 => rfl
          case hyr6 =>
            intro wq hSw
            replace hx0 := keep_cell hSw hx0
            replace hx1 := keep_cell hSw hx1
            go_simp
            (try with_reducible rfl)
          (try simp only [Act.put, List.setIfInBounds_toArray, List.set_cons_zero, List.set_cons_succ])
          refine wpAnyH_take (i := 6) (oi := ?oor7) (v := ?vvr7) ?hir7 (by kernel_rfl) (by kernel_rfl) (by kernel_rfl) ?hqr7 (Or.inl ⟨?hgr7, ?hyr7⟩) (by assumption) ?restr7
          case hir7 => simp only [List.getElem?_toArray, List.getElem?_cons_zero, List.getElem?_cons_succ]; rfl
          case hqr7 => exact fun _ _ _ h => h
          case hgr7 => rfl
          case hyr7 =>
            intro wq hSw
            replace hx0 := keep_cell hSw hx0
            replace hx1 := keep_cell hSw hx1
            go_simp
            (try with_reducible rfl)
          (try simp only [Act.put, List.setIfInBounds_toArray, List.set_cons_zero, List.set_cons_succ])
          clear hHeld
          refine wpAnyH_done (by kernel_rfl) ?_ _
          go_wp2
          go_loop [11] (fun i => ∃ k : Nat, k ≤ vs.length ∧ i = .int .i64 k ∧ Hid (∀ j, j < k → -999 ≤ nth vs j ∧ nth vs j ≤ 999)) (fun i => vs.length - (intOf i).toNat)
          case atStart => exact ⟨0, Nat.zero_le _, rfl, fun j hj => by omega⟩
          case round =>
            obtain ⟨j, hj, rfl, HA⟩ := hrel
            by_cases hlt : j < vs.length
            · obtain ⟨b, o, rfl, hc⟩ := (zv.below hw).at_ (j := j) hlt
              have i1 : (j : Int) < vs.length := by omega
              by_cases hzj : -999 ≤ nth vs j ∧ nth vs j ≤ 999
              · have HA' : Hid (∀ q, q < j + 1 → -999 ≤ nth vs q ∧ nth vs q ≤ 999) := fun q hq => by
                  by_cases e : q = j
                  · subst e; exact hzj
                  · exact HA.out q (by omega)
                go_wp2_with (go_at_call 115; refine (l1In_yes _ _ _ _ hzj.1 hzj.2).mono ?_; rintro e w' ⟨rfl, rfl⟩)
                go_round
                case rel => exact ⟨j + 1, by omega, by go_num, HA'⟩
                case measure => simp [intOf]; omega
              · exact absurd (HAV.out j hlt) hzj
            · have hrr : j = vs.length := by omega
              subst hrr
              obtain ⟨i0, hi, hz0, hz1, hz2⟩ := info_parts info_int
              clear HA
              go_wp2
              go_loopw [8, 12] (fun v i wr => ∃ j : Nat, j ≤ E.length ∧ i = .int .i64 j ∧ wr.ownsRow (w.heap.size + 1) 3 1 v (mapI f E j).length (i64s (mapI f E j)) ∧ v.ownBlock ≠ some gC ∧ v.ownBlock ≠ some gE ∧ Row wr gC C ∧ Row wr gE E ∧ wr.cell? ⟨w.heap.size, 0, none⟩ = some (.slice A xs.length c) ∧ wr.cell? ⟨w.heap.size, 1, none⟩ = some (.slice B ys.length e) ∧ Below w.heap.size w wr) (fun _ i _ => E.length - (intOf i).toNat)
              case atStart => exact ⟨0, by omega, rfl, hown, by simp [Value.ownBlock]; omega, by simp [Value.ownBlock]; omega, hrC, hrE, hx0, hx1, hw⟩
              case round =>
                clear hown hrC hrE hx0 hx1 hw
                obtain ⟨j, hj, rfl, hown, hneC, hneE, hrC, hrE, hx0, hx1, hw⟩ := hrel
                by_cases hlt : j < E.length
                · obtain ⟨y, m, hy, hyn, hmC, hmv, hf, hq1, hk1⟩ := HCA.out j hlt
                  have hms := HMS.out j hlt
                  rw [hf] at hms
                  have HMJ := Lib.hid (HML.out j hj)
                  have HPX : Hid (i64s (mapI f E (j + 1)) = i64s (mapI f E j) ++ [Value.int .i64 (nth vs m)] ∧ (mapI f E (j + 1)).length = (mapI f E j).length + 1) := by rw [hms]; exact ⟨i64s_app _ _, by simp⟩
                  have hlen : (mapI f E j).length ≤ 24 := by rw [HMJ.out]; omega
                  have HY := Lib.hid hy
                  have HQ1 := Lib.hid hq1
                  have HK1 := Lib.hid hk1
                  have i0j : (j : Int) < E.length := by omega
                  clear hy hf hms hq1 hk1
                  generalize mapI f E j = L at *
                  go_wp2
                  go_loopw [13] (fun kv wq => ∃ q : Nat, q ≤ m ∧ kv = .int .i64 q ∧ wq.ownsRow (w.heap.size + 1) 3 1 u8 L.length (i64s L) ∧ Row wq gC C ∧ Row wq gE E ∧ wq.cell? ⟨w.heap.size, 0, none⟩ = some (.slice A xs.length c) ∧ wq.cell? ⟨w.heap.size, 1, none⟩ = some (.slice B ys.length e) ∧ Below w.heap.size w wq) (fun kv _ => m - (intOf kv).toNat)
                  case atStart => exact ⟨0, by omega, rfl, hown, hrC, hrE, hx0, hx1, hw⟩
                  case round =>
                    clear hown hrC hrE hx0 hx1 hw
                    obtain ⟨q, hq, rfl, hown, hrC, hrE, hx0, hx1, hw⟩ := hrel
                    have hcE := hrE.cell hlt
                    rw [HY.out] at hcE
                    have hcC := hrC.cell (j := q) (by omega)
                    have i1 : (q : Int) < C.length := by omega
                    by_cases hqm : q < m
                    · obtain ⟨z, hz1', hz2', hz3'⟩ := HK1.out q hqm
                      rw [hz1'] at hcC
                      have HC9 := Lib.hid (fun W (h : IntS W A xs) => HUn.out W z y h hz2' hyn)
                      rw [hz3'] at HC9
                      clear hz1' hz3'
                      go_wp2
                      go_still_tail 9, (by kernel_rfl)
                      change wpList _ _ _ _ _ wr.drew
                      go_wp2_with fail
                      refine (HC9.out _ (h.below hw).drew).mono ?_
                      rintro e1 w2 ⟨rfl, hb2⟩
                      replace hb2 : Below wr.heap.size wr w2 := ⟨hb2.os, hb2.tape, hb2.output, hb2.size, hb2.block⟩
                      go_wp2
                      go_roundw
                      case rel => exact ⟨q + 1, by omega, by go_num, own_below hown hb2, hrC.below hb2, hrE.below hb2, keep_cell hb2 hx0, keep_cell hb2 hx1, keep_below hb2 hw⟩
                      case measure => simp [intOf]; omega
                    · have hqe : q = m := by omega
                      subst hqe
                      obtain ⟨z, hz1', hz2', hz3'⟩ := HQ1.out
                      rw [hz1'] at hcC
                      have HC9 := Lib.hid (fun W (h : IntS W A xs) => HUn.out W z y h hz2' hyn)
                      rw [hz3'] at HC9
                      clear hz1' hz3'
                      go_wp2
                      go_still_tail 9, (by kernel_rfl)
                      change wpList _ _ _ _ _ wr.drew
                      go_wp2_with fail
                      refine (HC9.out _ (h.below hw).drew).mono ?_
                      rintro e1 w2 ⟨rfl, hb2⟩
                      replace hb2 : Below wr.heap.size wr w2 := ⟨hb2.os, hb2.tape, hb2.output, hb2.size, hb2.block⟩
                      replace hown := own_below hown hb2
                      replace hrC := hrC.below hb2
                      replace hrE := hrE.below hb2
                      replace hx0 := keep_cell hb2 hx0
                      replace hx1 := keep_cell hb2 hx1
                      replace hw := keep_below hb2 hw
                      obtain ⟨b9, o9, rfl, hc9⟩ := (zv.below hw).at_ (j := q) hmv
                      have i2 : (q : Int) < vs.length := by omega
                      have hlx := World.block_lt_of_cell? _ _ hx0
                      replace hlx : w.heap.size < w2.heap.size := hlx
                      clear hb2 HQ1 HK1
                      generalize nth vs q = v9 at *
                      go_wp2_with (at_builtin; (refine wpList_append_own_at _ rfl _ _ 22 rfl (w.heap.size + 1) 3 i0 (.int .i64 0) 1 8 Try.underlying22 hi hz0 hz1 hz2 rfl (by decide) _ _ _ rfl (hown.alloc _) ⟨w2.heap.size, 0, none⟩ 1 1 [.int .i64 (v9)] rfl rfl (cell_one_new _ _ _) (by simp [Value.oneCell']) (by unfold maxLen; omega) (by omega) (by simp; omega) ?_); intro v' w1 hown1 hgrow _ hat)
                      have hrC1 := (hrC.alloc _).grown hgrow (fun e => hneC e.symm)
                      have hrE1 := (hrE.alloc _).grown hgrow (fun e => hneE e.symm)
                      have hxx0 := grown_cell hgrow (p := ⟨w.heap.size, 0, none⟩) (by rw [World.cell?_alloc_lt _ _ _ hlx]; exact hx0) (own_ne (g := w.heap.size) hown (by omega))
                      have hxx1 := grown_cell hgrow (p := ⟨w.heap.size, 1, none⟩) (by rw [World.cell?_alloc_lt _ _ _ hlx]; exact hx1) (own_ne (g := w.heap.size) hown (by omega))
                      have hb3 : Below w.heap.size w w1 := Below.grown (hw.alloc hw.size _) hgrow (by simp; omega) (fun g hg => by have := (hown.lt g hg).1; omega)
                      have hg1 := hrC.lt
                      have hg2 := hrE.lt
                      have hne1 : v'.ownBlock ≠ some gC := by
                        rcases hat with e | e
                        · rw [e]; exact hneC
                        · rw [e]; simp; omega
                      have hne2 : v'.ownBlock ≠ some gE := by
                        rcases hat with e | e
                        · rw [e]; exact hneE
                        · rw [e]; simp; omega
                      rw [← HPX.out.1, ← HPX.out.2] at hown1
                      clear hown hgrow hrC hrE hw HPX hx0 hx1 hneC hneE hat
                      go_wp2
                      go_roundw
                      case rel => exact ⟨j + 1, by omega, by go_num, hown1, hne1, hne2, hrC1, hrE1, hxx0, hxx1, hb3⟩
                      case measure => simp only [intOf]; omega
                · have hkn : j = E.length := by omega
                  rw [hkn] at hown
                  obtain ⟨A', c', rfl, hO⟩ := own_form hown
                  clear hkn hown
                  go_wp2
                  go_ret2
                  exact ⟨A', c', rfl, hO.mono (by omega), hw⟩
end Go.Proofs.Ytombfbmcplefgaa
