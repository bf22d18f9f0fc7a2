/- Contracts: copies and sums. -/
import Derived.Test.YtombfbmcplefgaaGat
import Derived.BigRegion
namespace Go.Proofs.Ytombfbmcplefgaa
open Go.ChangeShapes Go.WideShapes Go.ChangeAt Go.RowKit

theorem Row.set {w : World} {g : Nat} {L : List Int} (h : Row w g L) {k : Nat} (hk : k < L.length) (v : Int) : Row (w.setCell ⟨g, k, none⟩ (.int .i64 v)) g (L.set k v) := by
  obtain ⟨cs, h, r, hr⟩ := h
  refine ⟨_, set_block h k _, r, ?_⟩
  rw [Array.toList_setIfInBounds, hr, List.set_append_left _ _ (by simpa [i64s] using hk)]
  simp [i64s, List.map_set]
theorem IntS.cells {w : World} {b o : Nat} {xs : List Int} (h : IntS w (some ⟨b, o, none⟩) xs) : ∀ j u, (i64s xs)[j]? = some u → w.cell? ((⟨b, o, none⟩ : Addr).add j) = some u := by
  intro j u hj
  have hl : j < xs.length := by
    rcases Nat.lt_or_ge j xs.length with h1 | h1
    · exact h1
    · rw [List.getElem?_eq_none (by simpa [i64s] using h1)] at hj; cases hj
  obtain ⟨b', o', he, hc⟩ := h.at_ hl
  cases he
  rw [Addr.add_lit, hc]
  simp [i64s, List.getElem?_map, List.getElem?_eq_getElem hl] at hj
  rw [← hj]; simp [nth, List.getD, hl]

set_option maxHeartbeats 1000000 in
set_option maxRecDepth 100000 in
theorem l1Own_any (A : Option Addr) (c : Nat) (ys : List Int) (w : World) (h : IntS w A ys) (hn1 : 1 ≤ ys.length) (hn : ys.length ≤ 2000000) :
    Calls Try.prog 95 #[.slice A ys.length c] w fun e1 w' => ∃ g cap, e1 = .returned (.slice (some ⟨g, 0, none⟩) ys.length cap) ∧ Row w' g ys ∧ w.heap.size ≤ g ∧ Below w.heap.size w w' := by
  obtain ⟨i0, hi, hz0, hz1, hz2⟩ := info_parts info_int
  obtain ⟨b, o, rfl, hc⟩ := h.at_ (j := 0) (by omega)
  have HC := (h.alloc (.cells #[] 3)).cells
  have hown := own_empty w w.heap.size w.heap.size rfl (Nat.le_refl _)
  have H1 : ∀ u ∈ i64s ys, u.oneCell' = true := by intro u hu; simp [i64s] at hu; obtain ⟨a, _, rfl⟩ := hu; rfl
  have HL : (i64s ys).length = ys.length * 1 := by simp [i64s]
  clear hc
  go_enter Try.func95, Try.ntmps95
  go_wp2_with (at_builtin; refine wpList_append_own_at _ rfl _ _ 22 rfl w.heap.size 3 i0 (.int .i64 0) 1 8 Try.underlying22 hi hz0 hz1 hz2 rfl (by decide) _ _ _ rfl hown ⟨b, o, none⟩ _ c (i64s ys) rfl HL HC H1 (by unfold maxLen; omega) (by omega) (by simp) ?_; intro v' w1 hown1 hgrow _ _)
  have hb1 : Below w.heap.size w w1 := Below.grown ((Below.refl _ _).alloc (Nat.le_refl _) _) hgrow (by simp) (fun g hg => by have := (hown.lt g hg).1; omega)
  simp only [List.nil_append, Nat.zero_add] at hown1
  obtain ⟨A', c', rfl, hO⟩ := own_form hown1
  clear hown hown1 hgrow HC H1 HL
  go_wp2
  go_ret
  rcases hO with ⟨_, e⟩ | ⟨g, rfl, hg, hr⟩
  · rw [e] at hn1; simp at hn1
  · exact ⟨g, c', rfl, hr, hg, hb1⟩
set_option maxHeartbeats 1000000 in
set_option maxRecDepth 100000 in
theorem copied_any (A : Option Addr) (c : Nat) (ys : List Int) (w : World) (h : IntS w A ys) (hn1 : 1 ≤ ys.length) (hn : ys.length ≤ 2000000) :
    Calls Try.prog 98 #[.slice A ys.length c] w fun e1 w' => ∃ g cap, e1 = .returned (.slice (some ⟨g, 0, none⟩) ys.length cap) ∧ Row w' g ys ∧ w.heap.size ≤ g ∧ Below w.heap.size w w' := by
  obtain ⟨i0, hi, hz0, hz1, hz2⟩ := info_parts info_int
  obtain ⟨b, o, rfl, hc⟩ := h.at_ (j := 0) (by omega)
  have HC := (h.alloc (.cells #[] 3)).cells
  have hown := own_empty w w.heap.size w.heap.size rfl (Nat.le_refl _)
  have H1 : ∀ u ∈ i64s ys, u.oneCell' = true := by intro u hu; simp [i64s] at hu; obtain ⟨a, _, rfl⟩ := hu; rfl
  have HL : (i64s ys).length = ys.length * 1 := by simp [i64s]
  clear hc
  go_enter Try.func98, Try.ntmps98
  go_wp2_with (at_builtin; refine wpList_append_own_at _ rfl _ _ 22 rfl w.heap.size 3 i0 (.int .i64 0) 1 8 Try.underlying22 hi hz0 hz1 hz2 rfl (by decide) _ _ _ rfl hown ⟨b, o, none⟩ _ c (i64s ys) rfl HL HC H1 (by unfold maxLen; omega) (by omega) (by simp) ?_; intro v' w1 hown1 hgrow _ _)
  have hb1 : Below w.heap.size w w1 := Below.grown ((Below.refl _ _).alloc (Nat.le_refl _) _) hgrow (by simp) (fun g hg => by have := (hown.lt g hg).1; omega)
  simp only [List.nil_append, Nat.zero_add] at hown1
  obtain ⟨A', c', rfl, hO⟩ := own_form hown1
  clear hown hown1 hgrow HC H1 HL
  go_wp2
  go_ret
  rcases hO with ⟨_, e⟩ | ⟨g, rfl, hg, hr⟩
  · rw [e] at hn1; simp at hn1
  · exact ⟨g, c', rfl, hr, hg, hb1⟩

set_option maxHeartbeats 1000000 in
set_option maxRecDepth 100000 in
theorem gathered_any (A B P : Option Addr) (c m e d : Nat) (xs ys : List Int) (w : World) (h : IntS w A xs) (k : IntS w P ys) (hn1 : 1 ≤ xs.length) (hn : xs.length ≤ 1000) (hu : UpOk xs xs.length) (hyl : ys.length = xs.length) (T : Nat) (hT : T ≤ 1000000000000000) (hok : OkL T ys (xs.length - 1)) :
    Calls Try.prog 141 #[.agg #[.slice A xs.length c, .slice B m e], .slice P xs.length d] w (RetI w (gat xs ys (xs.length - 1))) := by
  have HU := Lib.hid (fun j (h1 : 1 ≤ j) (hj : j < xs.length) => up_nat hu h1 hj)
  have HK := Lib.hid (fun W (k : IntS W P ys) => copied_any P d ys W k (by omega) (by omega))
  rw [hyl] at HK
  have hgl := gat_len xs ys (xs.length - 1)
  rw [hyl] at hgl
  generalize hR : gat xs ys (xs.length - 1) = R at *
  obtain ⟨n, hn'⟩ : ∃ n, n = xs.length := ⟨_, rfl⟩
  have HN : Hid (n = xs.length) := hn'
  have HY : Hid (ys.length = n) := by show _ = _; rw [hn']; exact hyl
  have HO := Lib.hid hok
  have HR := Lib.hid hR
  rw [← hn'] at hn hn1 HU HK HO HR hgl ⊢
  have HG := Lib.hid hgl
  clear hn' hu hyl hok hR hgl
  go_enter Try.func141, Try.ntmps141
  go_wp2_with fail
  refine (HK.out _ (k.alloc _)).mono ?_
  rintro e1 w1 ⟨g, cap, rfl, hrow, hg, hb1⟩
  have hx0 := keep_cell hb1 (cell_new _ _ _ 0 _ rfl)
  simp at hx0
  replace hb1 := below_alloc hb1
  replace hg : w.heap.size + 1 ≤ g := by simpa using hg
  clear HK
  go_wp2
  go_loopw [6] (fun i wr => ∃ (j : Nat) (L : List Int), j < n ∧ i = .int .i64 j ∧ Row wr g L ∧ L.length = n ∧ Hid (gat xs L j = R) ∧ Hid (OkL T L j) ∧ wr.cell? ⟨w.heap.size, 0, none⟩ = some (.slice A n c) ∧ Below w.heap.size w wr) (fun i _ => (intOf i).toNat)
  case atStart => exact ⟨n - 1, ys, by omega, by go_num, hrow, HY.out, HR, HO, hx0, hb1⟩
  case round =>
    clear hrow HR HO hx0 hb1
    obtain ⟨j, L, hj, rfl, hrow, hl, HR, HO, hbx, hb1⟩ := hrel
    have HL : Hid (L.length = n) := hl
    clear hl
    by_cases hz : j = 0
    case neg =>
      obtain ⟨j, rfl⟩ : ∃ i, j = i + 1 := ⟨j - 1, by omega⟩
      clear hz
      obtain ⟨b, o, rfl, hc⟩ := (h.below hb1).at_ (j := j + 1) (by rw [← HN.out]; exact hj)
      obtain ⟨p, hp, hpk⟩ := HU.out (j + 1) (by omega) hj
      rw [hp] at hc
      have hcp := hrow.cell (j := p) (by rw [HL.out]; omega)
      have hck := hrow.cell (j := j + 1) (by rw [HL.out]; omega)
      have hfp := hrow.frozen p
      have hb2 := below_far (v := .int .i64 (nth L p + nth L (j + 1))) hb1 (g := g) (by omega) p
      have hbx' := cell_far (u := .int .i64 (nth L p + nth L (j + 1))) hbx (g := g) (by simp; omega) p
      have hrow' := hrow.set (k := p) (by rw [HL.out]; omega) (nth L p + nth L (j + 1))
      have HO' := Lib.hid (HO.out.step (p := p) (by omega) (by rw [HL.out]; omega))
      have HR' := HR.out
      rw [gat, hp] at HR'
      have HR2 := Lib.hid HR'
      have hb3 := HO.out.1 p
      have hb4 := HO.out.1 (j + 1)
      have HX := Lib.hid hbx'
      have HZ := Lib.hid hrow'
      have HL' : Hid ((L.set p (nth L p + nth L (j + 1))).length = n) := by show _ = _; rw [List.length_set]; exact HL.out
      obtain ⟨a, ha⟩ : ∃ a, nth L p = a := ⟨_, rfl⟩
      obtain ⟨q, hq⟩ : ∃ q, nth L (j + 1) = q := ⟨_, rfl⟩
      rw [ha, hq] at HL' HZ HX HO' hb2
      have HR3 : Hid (gat xs (L.set p (a + q)) j = R) := by show _ = _; rw [← ha, ← hq]; exact HR2.out
      rw [ha] at hcp hb3
      rw [hq] at hck hb4
      clear ha hq HR' HR2 hbx' hrow' HR HO hp HL hrow
      go_wp2
      go_region
      go_wp2
      go_roundw
      case rel => exact ⟨j, L.set p (a + q), by omega, by go_num, HZ.out, HL'.out, HR3, HO', HX.out, Below.drew hb2⟩
      case measure => simp [intOf]
    case pos =>
      have hLR : L = R := by have := HR.out; rw [hz] at this; exact this
      subst hLR
      clear HR HO
      go_wp2
      go_ret
      exact ⟨_, cap, by rw [HG.out]; rfl, .inr ⟨g, rfl, by omega, hrow⟩, hb1⟩
set_option maxHeartbeats 1000000 in
set_option maxRecDepth 100000 in
theorem l2Sums_any (A P : Option Addr) (c d : Nat) (xs ys : List Int) (w : World) (h : IntS w A xs) (k : IntS w P ys) (hn1 : 1 ≤ xs.length) (hn : xs.length ≤ 1000) (hu : UpOk xs xs.length) (hyl : ys.length = xs.length) (T : Nat) (hT : T ≤ 1000000000000000) (hok : OkL T ys (xs.length - 1)) :
    Calls Try.prog 86 #[.agg #[.slice A xs.length c, .slice P xs.length d]] w (RetI w (gat xs ys (xs.length - 1))) := by
  have HU := Lib.hid (fun j (h1 : 1 ≤ j) (hj : j < xs.length) => up_nat hu h1 hj)
  have HK := Lib.hid (fun W (k : IntS W P ys) => l1Own_any P d ys W k (by omega) (by omega))
  rw [hyl] at HK
  have hgl := gat_len xs ys (xs.length - 1)
  rw [hyl] at hgl
  generalize hR : gat xs ys (xs.length - 1) = R at *
  obtain ⟨n, hn'⟩ : ∃ n, n = xs.length := ⟨_, rfl⟩
  have HN : Hid (n = xs.length) := hn'
  have HY : Hid (ys.length = n) := by show _ = _; rw [hn']; exact hyl
  have HO := Lib.hid hok
  have HR := Lib.hid hR
  rw [← hn'] at hn hn1 HU HK HO HR hgl ⊢
  have HG := Lib.hid hgl
  clear hn' hu hyl hok hR hgl
  go_enter Try.func86, Try.ntmps86
  go_wp2_with fail
  refine (HK.out _ (k.alloc _)).mono ?_
  rintro e1 w1 ⟨g, cap, rfl, hrow, hg, hb1⟩
  have hx0 := keep_cell hb1 (cell_new _ _ _ 0 _ rfl)
  simp at hx0
  replace hb1 := below_alloc hb1
  replace hg : w.heap.size + 1 ≤ g := by simpa using hg
  clear HK
  go_wp2
  go_loopw [4] (fun i wr => ∃ (j : Nat) (L : List Int), j < n ∧ i = .int .i64 j ∧ Row wr g L ∧ L.length = n ∧ Hid (gat xs L j = R) ∧ Hid (OkL T L j) ∧ wr.cell? ⟨w.heap.size, 0, none⟩ = some (.slice A n c) ∧ Below w.heap.size w wr) (fun i _ => (intOf i).toNat)
  case atStart => exact ⟨n - 1, ys, by omega, by go_num, hrow, HY.out, HR, HO, hx0, hb1⟩
  case round =>
    clear hrow HR HO hx0 hb1
    obtain ⟨j, L, hj, rfl, hrow, hl, HR, HO, hbx, hb1⟩ := hrel
    have HL : Hid (L.length = n) := hl
    clear hl
    by_cases hz : j = 0
    case neg =>
      obtain ⟨j, rfl⟩ : ∃ i, j = i + 1 := ⟨j - 1, by omega⟩
      clear hz
      obtain ⟨b, o, rfl, hc⟩ := (h.below hb1).at_ (j := j + 1) (by rw [← HN.out]; exact hj)
      obtain ⟨p, hp, hpk⟩ := HU.out (j + 1) (by omega) hj
      rw [hp] at hc
      have hcp := hrow.cell (j := p) (by rw [HL.out]; omega)
      have hck := hrow.cell (j := j + 1) (by rw [HL.out]; omega)
      have hfp := hrow.frozen p
      have hb2 := below_far (v := .int .i64 (nth L p + nth L (j + 1))) hb1 (g := g) (by omega) p
      have hbx' := cell_far (u := .int .i64 (nth L p + nth L (j + 1))) hbx (g := g) (by simp; omega) p
      have hrow' := hrow.set (k := p) (by rw [HL.out]; omega) (nth L p + nth L (j + 1))
      have HO' := Lib.hid (HO.out.step (p := p) (by omega) (by rw [HL.out]; omega))
      have HR' := HR.out
      rw [gat, hp] at HR'
      have HR2 := Lib.hid HR'
      have hb3 := HO.out.1 p
      have hb4 := HO.out.1 (j + 1)
      have HX := Lib.hid hbx'
      have HZ := Lib.hid hrow'
      have HL' : Hid ((L.set p (nth L p + nth L (j + 1))).length = n) := by show _ = _; rw [List.length_set]; exact HL.out
      obtain ⟨a, ha⟩ : ∃ a, nth L p = a := ⟨_, rfl⟩
      obtain ⟨q, hq⟩ : ∃ q, nth L (j + 1) = q := ⟨_, rfl⟩
      rw [ha, hq] at HL' HZ HX HO' hb2
      have HR3 : Hid (gat xs (L.set p (a + q)) j = R) := by show _ = _; rw [← ha, ← hq]; exact HR2.out
      rw [ha] at hcp hb3
      rw [hq] at hck hb4
      clear ha hq HR' HR2 hbx' hrow' HR HO hp HL hrow
      go_wp2
      go_region
      go_wp2
      go_roundw
      case rel => exact ⟨j, L.set p (a + q), by omega, by go_num, HZ.out, HL'.out, HR3, HO', HX.out, Below.drew hb2⟩
      case measure => simp [intOf]
    case pos =>
      have hLR : L = R := by have := HR.out; rw [hz] at this; exact this
      subst hLR
      clear HR HO
      go_wp2
      go_ret
      exact ⟨_, cap, by rw [HG.out]; rfl, .inr ⟨g, rfl, by omega, hrow⟩, hb1⟩
theorem sums_any (A P : Option Addr) (c d : Nat) (xs ys : List Int) (w : World) (h : IntS w A xs) (k : IntS w P ys) (hn1 : 1 ≤ xs.length) (hn : xs.length ≤ 1000) (hu : UpOk xs xs.length) (hyl : ys.length = xs.length) (T : Nat) (hT : T ≤ 1000000000000000) (hok : OkL T ys (xs.length - 1)) :
    Calls Try.prog 88 #[.agg #[.slice A xs.length c, .slice P xs.length d]] w (RetI w (gat xs ys (xs.length - 1))) := by
  have HG := Lib.hid (fun W (h : IntS W A xs) (k : IntS W P ys) => gathered_any A P P c xs.length d d xs ys W h k hn1 hn hu hyl T hT hok)
  clear hu hyl hok
  go_enter Try.func88, Try.ntmps88
  go_wp2_with fail
  refine (HG.out _ (h.alloc _) (k.alloc _)).mono ?_
  rintro e1 w1 ⟨A', c', rfl, ho, hb1⟩
  have hb2 := below_alloc hb1
  go_wp2
  go_ret
  exact ⟨A', c', rfl, ho.mono (by simp), hb2⟩
end Go.Proofs.Ytombfbmcplefgaa
