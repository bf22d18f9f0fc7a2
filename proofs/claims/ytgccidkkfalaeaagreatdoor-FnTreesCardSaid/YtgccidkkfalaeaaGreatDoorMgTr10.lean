/- Contracts: copies and sums. -/
import Derived.BigRegion
import Derived.Deep.AppendLies
import Derived.Deep.RegionHeld3
import Derived.ArgAppend
import Derived.Laws.IdiomCopy
import Derived.StillTailTactics
import Derived.Test.YtgccidkkfalaeaaGreatDoorMgTr9
namespace Go.Proofs.YtgccidkkfalaeaaGreatDoor
open Go.ChangeShapes Go.WideShapes Go.ChangeAt Go.RowKit

theorem Row.set {w : World} {g : Nat} {L : List Int} (h : Row w g L) {k : Nat} (hk : k < L.length) (v : Int) : Row (w.setCell ⟨g, k, none⟩ (.int .i64 v)) g (L.set k v) := by
  obtain ⟨cs, h, r, hr⟩ := h
  refine ⟨_, set_block h k _, r, ?_⟩
  rw [Array.toList_setIfInBounds, hr, List.set_append_left _ _ (by simpa [i64s] using hk)]
  simp [i64s, List.map_set]
theorem IntS.cells {w : World} {b o : Nat} {xs : List Int} (h : IntS w (some ⟨b, o, none⟩) xs) : ∀ j u, (i64s xs)[j]? = some u → w.cell? ((⟨b, o, none⟩ : Addr).add j) = some u := by
  intro j u hj
  have hl : j < xs.length := by
    rcases Nat.lt_or_ge j xs.length with h1 | h1
    · exact h1
    · rw [List.getElem?_eq_none (by simpa [i64s] using h1)] at hj; cases hj
  obtain ⟨b', o', he, hc⟩ := h.at_ hl
  cases he
  rw [Addr.add_lit, hc]
  simp [i64s, List.getElem?_map, List.getElem?_eq_getElem hl] at hj
  rw [← hj]; simp [nth, List.getD, hl]

set_option maxHeartbeats 1000000 in
set_option maxRecDepth 100000 in
theorem l1Own_any (A : Option Addr) (c : Nat) (ys : List Int) (w : World) (h : IntS w A ys) (hn1 : 1 ≤ ys.length) (hn : ys.length ≤ 2000000) :
    Calls Tryz.prog 67 #[.slice A ys.length c] w fun e1 w' => ∃ g cap, e1 = .returned (.slice (some ⟨g, 0, none⟩) ys.length cap) ∧ Row w' g ys ∧ w.heap.size ≤ g ∧ Below w.heap.size w w' := by
  obtain ⟨i0, hi, hz0, hz1, hz2⟩ := info_parts info_int
  obtain ⟨b, o, rfl, hc⟩ := h.at_ (j := 0) (by omega)
  have HC := (h.alloc (.cells #[] 3)).cells
  have hown := own_empty w w.heap.size w.heap.size rfl (Nat.le_refl _)
  have H1 : ∀ u ∈ i64s ys, u.oneCell' = true := by intro u hu; simp [i64s] at hu; obtain ⟨a, _, rfl⟩ := hu; rfl
  have HL : (i64s ys).length = ys.length * 1 := by simp [i64s]
  clear hc
  go_enter Tryz.func67, Tryz.ntmps67
  go_wp2_with (at_builtin; refine wpList_append_own_at _ rfl _ _ 24 rfl w.heap.size 3 i0 (.int .i64 0) 1 8 Tryz.underlying24 hi hz0 hz1 hz2 rfl (by decide) _ _ _ rfl hown ⟨b, o, none⟩ _ c (i64s ys) rfl HL HC H1 (by unfold maxLen; omega) (by omega) (by simp) ?_; intro v' w1 hown1 hgrow _ _)
  have hb1 : Below w.heap.size w w1 := Below.grown ((Below.refl _ _).alloc (Nat.le_refl _) _) hgrow (by simp) (fun g hg => by have := (hown.lt g hg).1; omega)
  simp only [List.nil_append, Nat.zero_add] at hown1
  obtain ⟨A', c', rfl, hO⟩ := own_form hown1
  clear hown hown1 hgrow HC H1 HL
  go_wp2
  go_ret
  rcases hO with ⟨_, e⟩ | ⟨g, rfl, hg, hr⟩
  · rw [e] at hn1; simp at hn1
  · exact ⟨g, c', rfl, hr, hg, hb1⟩
set_option maxHeartbeats 1000000 in
set_option maxRecDepth 100000 in
theorem copied_any (A : Option Addr) (c : Nat) (ys : List Int) (w : World) (h : IntS w A ys) (hn1 : 1 ≤ ys.length) (hn : ys.length ≤ 2000000) :
    Calls Tryz.prog 82 #[.slice A ys.length c] w fun e1 w' => ∃ g cap, e1 = .returned (.slice (some ⟨g, 0, none⟩) ys.length cap) ∧ Row w' g ys ∧ w.heap.size ≤ g ∧ Below w.heap.size w w' := by
  obtain ⟨i0, hi, hz0, hz1, hz2⟩ := info_parts info_int
  obtain ⟨b, o, rfl, hc⟩ := h.at_ (j := 0) (by omega)
  have HC := (h.alloc (.cells #[] 3)).cells
  have hown := own_empty w w.heap.size w.heap.size rfl (Nat.le_refl _)
  have H1 : ∀ u ∈ i64s ys, u.oneCell' = true := by intro u hu; simp [i64s] at hu; obtain ⟨a, _, rfl⟩ := hu; rfl
  have HL : (i64s ys).length = ys.length * 1 := by simp [i64s]
  clear hc
  go_enter Tryz.func82, Tryz.ntmps82
  go_wp2_with (at_builtin; refine wpList_append_own_at _ rfl _ _ 24 rfl w.heap.size 3 i0 (.int .i64 0) 1 8 Tryz.underlying24 hi hz0 hz1 hz2 rfl (by decide) _ _ _ rfl hown ⟨b, o, none⟩ _ c (i64s ys) rfl HL HC H1 (by unfold maxLen; omega) (by omega) (by simp) ?_; intro v' w1 hown1 hgrow _ _)
  have hb1 : Below w.heap.size w w1 := Below.grown ((Below.refl _ _).alloc (Nat.le_refl _) _) hgrow (by simp) (fun g hg => by have := (hown.lt g hg).1; omega)
  simp only [List.nil_append, Nat.zero_add] at hown1
  obtain ⟨A', c', rfl, hO⟩ := own_form hown1
  clear hown hown1 hgrow HC H1 HL
  go_wp2
  go_ret
  rcases hO with ⟨_, e⟩ | ⟨g, rfl, hg, hr⟩
  · rw [e] at hn1; simp at hn1
  · exact ⟨g, c', rfl, hr, hg, hb1⟩

set_option maxHeartbeats 1000000 in
set_option maxRecDepth 100000 in
theorem gathered_any (A B P : Option Addr) (c m e d : Nat) (xs ys : List Int) (w : World) (h : IntS w A xs) (k : IntS w P ys) (hn1 : 1 ≤ xs.length) (hn : xs.length ≤ 1000) (hu : UpOk xs xs.length) (hyl : ys.length = xs.length) (T : Nat) (hT : T ≤ 1000000000000000) (hok : OkL T ys (xs.length - 1)) :
    Calls Tryz.prog 66 #[.agg #[.slice A xs.length c, .slice B m e], .slice P xs.length d] w (RetI w (gat xs ys (xs.length - 1))) := by
  have HU := Lib.hid (fun j (h1 : 1 ≤ j) (hj : j < xs.length) => up_nat hu h1 hj)
  have HK := Lib.hid (fun W (k : IntS W P ys) => copied_any P d ys W k (by omega) (by omega))
  rw [hyl] at HK
  have hgl := gat_len xs ys (xs.length - 1)
  rw [hyl] at hgl
  generalize hR : gat xs ys (xs.length - 1) = R at *
  obtain ⟨n, hn'⟩ : ∃ n, n = xs.length := ⟨_, rfl⟩
  have HN : Hid (n = xs.length) := hn'
  have HY : Hid (ys.length = n) := by show _ = _; rw [hn']; exact hyl
  have HO := Lib.hid hok
  have HR := Lib.hid hR
  rw [← hn'] at hn hn1 HU HK HO HR hgl ⊢
  have HG := Lib.hid hgl
  clear hn' hu hyl hok hR hgl
  go_enter Tryz.func66, Tryz.ntmps66
  go_wp2_with fail
  refine (HK.out _ (k.alloc _)).mono ?_
  rintro e1 w1 ⟨g, cap, rfl, hrow, hg, hb1⟩
  have hx0 := keep_cell hb1 (cell_new _ _ _ 0 _ rfl)
  simp at hx0
  replace hb1 := below_alloc hb1
  replace hg : w.heap.size + 1 ≤ g := by simpa using hg
  clear HK
  go_wp2
  go_loopw [6] (fun i wr => ∃ (j : Nat) (L : List Int), j < n ∧ i = .int .i64 j ∧ Row wr g L ∧ L.length = n ∧ Hid (gat xs L j = R) ∧ Hid (OkL T L j) ∧ wr.cell? ⟨w.heap.size, 0, none⟩ = some (.slice A n c) ∧ Below w.heap.size w wr) (fun i _ => (intOf i).toNat)
  case atStart => exact ⟨n - 1, ys, by omega, by go_num, hrow, HY.out, HR, HO, hx0, hb1⟩
  case round =>
    clear hrow HR HO hx0 hb1
    obtain ⟨j, L, hj, rfl, hrow, hl, HR, HO, hbx, hb1⟩ := hrel
    have HL : Hid (L.length = n) := hl
    clear hl
    by_cases hz : j = 0
    case neg =>
      obtain ⟨j, rfl⟩ : ∃ i, j = i + 1 := ⟨j - 1, by omega⟩
      clear hz
      obtain ⟨b, o, rfl, hc⟩ := (h.below hb1).at_ (j := j + 1) (by rw [← HN.out]; exact hj)
      obtain ⟨p, hp, hpk⟩ := HU.out (j + 1) (by omega) hj
      rw [hp] at hc
      have hcp := hrow.cell (j := p) (by rw [HL.out]; omega)
      have hck := hrow.cell (j := j + 1) (by rw [HL.out]; omega)
      have hfp := hrow.frozen p
      have hb2 := below_far (v := .int .i64 (nth L p + nth L (j + 1))) hb1 (g := g) (by omega) p
      have hbx' := cell_far (u := .int .i64 (nth L p + nth L (j + 1))) hbx (g := g) (by simp; omega) p
      have hrow' := hrow.set (k := p) (by rw [HL.out]; omega) (nth L p + nth L (j + 1))
      have HO' := Lib.hid (HO.out.step (p := p) (by omega) (by rw [HL.out]; omega))
      have HR' := HR.out
      rw [gat, hp] at HR'
      have HR2 := Lib.hid HR'
      have hb3 := HO.out.1 p
      have hb4 := HO.out.1 (j + 1)
      have HX := Lib.hid hbx'
      have HZ := Lib.hid hrow'
      have HL' : Hid ((L.set p (nth L p + nth L (j + 1))).length = n) := by show _ = _; rw [List.length_set]; exact HL.out
      obtain ⟨a, ha⟩ : ∃ a, nth L p = a := ⟨_, rfl⟩
      obtain ⟨q, hq⟩ : ∃ q, nth L (j + 1) = q := ⟨_, rfl⟩
      rw [ha, hq] at HL' HZ HX HO' hb2
      have HR3 : Hid (gat xs (L.set p (a + q)) j = R) := by show _ = _; rw [← ha, ← hq]; exact HR2.out
      rw [ha] at hcp hb3
      rw [hq] at hck hb4
      clear ha hq HR' HR2 hbx' hrow' HR HO hp HL hrow
      go_wp2
      go_region
      go_wp2
      go_roundw
      case rel => exact ⟨j, L.set p (a + q), by omega, by go_num, HZ.out, HL'.out, HR3, HO', HX.out, Below.drew hb2⟩
      case measure => simp [intOf]
    case pos =>
      have hLR : L = R := by have := HR.out; rw [hz] at this; exact this
      subst hLR
      clear HR HO
      go_wp2
      go_ret
      exact ⟨_, cap, by rw [HG.out]; rfl, .inr ⟨g, rfl, by omega, hrow⟩, hb1⟩
set_option maxHeartbeats 1000000 in
set_option maxRecDepth 100000 in
theorem l2Sums_any (A P : Option Addr) (c d : Nat) (xs ys : List Int) (w : World) (h : IntS w A xs) (k : IntS w P ys) (hn1 : 1 ≤ xs.length) (hn : xs.length ≤ 1000) (hu : UpOk xs xs.length) (hyl : ys.length = xs.length) (T : Nat) (hT : T ≤ 1000000000000000) (hok : OkL T ys (xs.length - 1)) :
    Calls Tryz.prog 38 #[.agg #[.slice A xs.length c, .slice P xs.length d]] w (RetI w (gat xs ys (xs.length - 1))) := by
  have HU := Lib.hid (fun j (h1 : 1 ≤ j) (hj : j < xs.length) => up_nat hu h1 hj)
  have HK := Lib.hid (fun W (k : IntS W P ys) => l1Own_any P d ys W k (by omega) (by omega))
  rw [hyl] at HK
  have hgl := gat_len xs ys (xs.length - 1)
  rw [hyl] at hgl
  generalize hR : gat xs ys (xs.length - 1) = R at *
  obtain ⟨n, hn'⟩ : ∃ n, n = xs.length := ⟨_, rfl⟩
  have HN : Hid (n = xs.length) := hn'
  have HY : Hid (ys.length = n) := by show _ = _; rw [hn']; exact hyl
  have HO := Lib.hid hok
  have HR := Lib.hid hR
  rw [← hn'] at hn hn1 HU HK HO HR hgl ⊢
  have HG := Lib.hid hgl
  clear hn' hu hyl hok hR hgl
  go_enter Tryz.func38, Tryz.ntmps38
  go_wp2_with fail
  refine (HK.out _ (k.alloc _)).mono ?_
  rintro e1 w1 ⟨g, cap, rfl, hrow, hg, hb1⟩
  have hx0 := keep_cell hb1 (cell_new _ _ _ 0 _ rfl)
  simp at hx0
  replace hb1 := below_alloc hb1
  replace hg : w.heap.size + 1 ≤ g := by simpa using hg
  clear HK
  go_wp2
  go_loopw [4] (fun i wr => ∃ (j : Nat) (L : List Int), j < n ∧ i = .int .i64 j ∧ Row wr g L ∧ L.length = n ∧ Hid (gat xs L j = R) ∧ Hid (OkL T L j) ∧ wr.cell? ⟨w.heap.size, 0, none⟩ = some (.slice A n c) ∧ Below w.heap.size w wr) (fun i _ => (intOf i).toNat)
  case atStart => exact ⟨n - 1, ys, by omega, by go_num, hrow, HY.out, HR, HO, hx0, hb1⟩
  case round =>
    clear hrow HR HO hx0 hb1
    obtain ⟨j, L, hj, rfl, hrow, hl, HR, HO, hbx, hb1⟩ := hrel
    have HL : Hid (L.length = n) := hl
    clear hl
    by_cases hz : j = 0
    case neg =>
      obtain ⟨j, rfl⟩ : ∃ i, j = i + 1 := ⟨j - 1, by omega⟩
      clear hz
      obtain ⟨b, o, rfl, hc⟩ := (h.below hb1).at_ (j := j + 1) (by rw [← HN.out]; exact hj)
      obtain ⟨p, hp, hpk⟩ := HU.out (j + 1) (by omega) hj
      rw [hp] at hc
      have hcp := hrow.cell (j := p) (by rw [HL.out]; omega)
      have hck := hrow.cell (j := j + 1) (by rw [HL.out]; omega)
      have hfp := hrow.frozen p
      have hb2 := below_far (v := .int .i64 (nth L p + nth L (j + 1))) hb1 (g := g) (by omega) p
      have hbx' := cell_far (u := .int .i64 (nth L p + nth L (j + 1))) hbx (g := g) (by simp; omega) p
      have hrow' := hrow.set (k := p) (by rw [HL.out]; omega) (nth L p + nth L (j + 1))
      have HO' := Lib.hid (HO.out.step (p := p) (by omega) (by rw [HL.out]; omega))
      have HR' := HR.out
      rw [gat, hp] at HR'
      have HR2 := Lib.hid HR'
      have hb3 := HO.out.1 p
      have hb4 := HO.out.1 (j + 1)
      have HX := Lib.hid hbx'
      have HZ := Lib.hid hrow'
      have HL' : Hid ((L.set p (nth L p + nth L (j + 1))).length = n) := by show _ = _; rw [List.length_set]; exact HL.out
      obtain ⟨a, ha⟩ : ∃ a, nth L p = a := ⟨_, rfl⟩
      obtain ⟨q, hq⟩ : ∃ q, nth L (j + 1) = q := ⟨_, rfl⟩
      rw [ha, hq] at HL' HZ HX HO' hb2
      have HR3 : Hid (gat xs (L.set p (a + q)) j = R) := by show _ = _; rw [← ha, ← hq]; exact HR2.out
      rw [ha] at hcp hb3
      rw [hq] at hck hb4
      clear ha hq HR' HR2 hbx' hrow' HR HO hp HL hrow
      go_wp2
      go_region
      go_wp2
      go_roundw
      case rel => exact ⟨j, L.set p (a + q), by omega, by go_num, HZ.out, HL'.out, HR3, HO', HX.out, Below.drew hb2⟩
      case measure => simp [intOf]
    case pos =>
      have hLR : L = R := by have := HR.out; rw [hz] at this; exact this
      subst hLR
      clear HR HO
      go_wp2
      go_ret
      exact ⟨_, cap, by rw [HG.out]; rfl, .inr ⟨g, rfl, by omega, hrow⟩, hb1⟩
theorem sums_any (A P : Option Addr) (c d : Nat) (xs ys : List Int) (w : World) (h : IntS w A xs) (k : IntS w P ys) (hn1 : 1 ≤ xs.length) (hn : xs.length ≤ 1000) (hu : UpOk xs xs.length) (hyl : ys.length = xs.length) (T : Nat) (hT : T ≤ 1000000000000000) (hok : OkL T ys (xs.length - 1)) :
    Calls Tryz.prog 37 #[.agg #[.slice A xs.length c, .slice P xs.length d]] w (RetI w (gat xs ys (xs.length - 1))) := by
  have HG := Lib.hid (fun W (h : IntS W A xs) (k : IntS W P ys) => gathered_any A P P c xs.length d d xs ys W h k hn1 hn hu hyl T hT hok)
  clear hu hyl hok
  go_enter Tryz.func37, Tryz.ntmps37
  go_wp2_with fail
  refine (HG.out _ (h.alloc _) (k.alloc _)).mono ?_
  rintro e1 w1 ⟨A', c', rfl, ho, hb1⟩
  have hb2 := below_alloc hb1
  go_wp2
  go_ret
  exact ⟨A', c', rfl, ho.mono (by simp), hb2⟩
end Go.Proofs.YtgccidkkfalaeaaGreatDoor
/- Sums over a good tree. -/
namespace Go.Proofs.YtgccidkkfalaeaaGreatDoor
open Go.ChangeShapes Go.WideShapes Go.ChangeAt Go.RowKit

theorem own_one (W : World) (B g : Nat) (v : Int) (hg : g = W.heap.size) (hB : B ≤ g) : (W.alloc (.cells #[.int .i64 v] 3)).ownsRow B 3 1 (.slice (some ⟨g, 0, none⟩) 1 1) 1 [.int .i64 v] := by
  subst hg
  exact ⟨rfl, .inr ⟨W.heap.size, 1, #[.int .i64 v], rfl, hB, heap_alloc_new W _, Nat.le_refl _, by simp [maxLen], rfl, rfl⟩⟩
theorem i64s_one (M : List Int) : ∀ u ∈ i64s M, u.oneCell' = true := by intro u hu; simp [i64s] at hu; obtain ⟨a, _, rfl⟩ := hu; rfl
theorem i64s_len (M : List Int) : (i64s M).length = M.length * 1 := by simp [i64s]

def sumsL (xs ys : List Int) : List Int := gat xs ys (xs.length - 1)
theorem good_wt {xs ys : List Int} (h : good xs ys = true) (j : Nat) : 0 ≤ nth ys j ∧ nth ys j ≤ 20 := by
  by_cases hj : j < xs.length
  · have := (good_iff.1 h).2.2 j hj
    unfold wtOk at this
    split at this
    · have := of_decide_eq_true this; omega
    · have : nth ys j = 0 := by simpa using this
      omega
  · have hl := (good_len h).2.2
    rw [nth_out (by omega)]; omega
theorem good_ok {xs ys : List Int} (h : good xs ys = true) : OkL 480 ys (xs.length - 1) := by
  have hl := good_len h
  have h1 := OkL.start (L := ys) (k := xs.length - 1) (by omega)
  have h2 := asum_le (L := ys) (M := 20) (fun j => by have := good_wt h j; omega) (xs.length - 1 + 1)
  have h3 : asum ys (xs.length - 1 + 1) ≤ 480 := by omega
  exact ⟨fun j => Nat.le_trans (h1.1 j) h3, h3⟩
theorem good_up {xs ys : List Int} (h : good xs ys = true) : ∀ j, 1 ≤ j → j ≤ xs.length - 1 → ∃ p : Nat, nth xs j = p ∧ p < j := fun _ h1 h2 => up_nat (good_iff.1 h).2.1 h1 (by have := good_len h; omega)
theorem good_upL {xs ys : List Int} (h : good xs ys = true) : ∀ j, 1 ≤ j → j < xs.length → ∃ p : Nat, nth xs j = p ∧ p < j := fun _ h1 h2 => up_nat (good_iff.1 h).2.1 h1 h2
theorem good_root {xs ys : List Int} (h : good xs ys = true) : nth xs 0 = -1 := (good_iff.1 h).1.2.2
theorem sums_bd {xs ys : List Int} (h : good xs ys = true) (j : Nat) : 0 ≤ nth (sumsL xs ys) j ∧ nth (sumsL xs ys) j ≤ 480 := by
  have hl := good_len h
  have h1 := gat_ok (xs.length - 1) (good_up h) (show xs.length - 1 < ys.length by omega) (good_ok h) j
  have h2 := gat_pos (xs := xs) (xs.length - 1) (L := ys) (fun j => (good_wt h j).1) j
  have h3 := (good_wt h j).1
  unfold sumsL
  omega
theorem sums_len {xs ys : List Int} (h : good xs ys = true) : (sumsL xs ys).length = xs.length := by
  unfold sumsL; rw [gat_len]; exact (good_len h).2.2
/-- The last node is an end: its weight is 1 or more. -/
theorem last_end {xs ys : List Int} (h : good xs ys = true) : 1 ≤ nth ys (xs.length - 1) := by
  have hl := good_len h
  have := (good_iff.1 h).2.2 (xs.length - 1) (by omega)
  have hk : noKid xs xs.length (xs.length - 1) = true := by
    unfold noKid
    simp only [List.all_eq_true, List.mem_range]
    intro y hy
    simp only [bne_iff_ne, ne_eq]
    by_cases e : y = 0
    · subst e; have := (good_iff.1 h).1.2.2; omega
    · obtain ⟨p, hp, hpy⟩ := good_up h y (by omega) (by omega)
      omega
  unfold wtOk at this
  rw [hk] at this
  have := of_decide_eq_true this
  omega
theorem isum_ge {L : List Int} (h : ∀ j, 0 ≤ nth L j) (k j : Nat) (hj : j < k) : nth L j ≤ isum L k := by
  have h0 : ∀ k, 0 ≤ isum L k := by
    intro k
    induction k with
    | zero => exact Int.le_refl _
    | succ k ih => rw [isum]; have := h k; omega
  induction k with
  | zero => omega
  | succ k ih =>
    rw [isum]
    by_cases e : j = k
    · subst e; have := h0 j; omega
    · have := ih (by omega); have := h k; omega
theorem sums_root {xs ys : List Int} (h : good xs ys = true) : 1 ≤ nth (sumsL xs ys) 0 := by
  have hl := good_len h
  unfold sumsL
  rw [gat_root (xs.length - 1) (good_up h) (by omega)]
  have := isum_ge (fun j => (good_wt h j).1) (xs.length - 1 + 1) (xs.length - 1) (by omega)
  have := last_end h
  omega
theorem l2Sums_good {xs ys : List Int} (hg : good xs ys = true) (A B : Option Addr) (c e : Nat) (W : World) (h : IntS W A xs) (k : IntS W B ys) :
    Calls Tryz.prog 38 #[.agg #[.slice A xs.length c, .slice B ys.length e]] W (RetI W (sumsL xs ys)) := by
  have hl := good_len hg
  rw [hl.2.2]
  exact l2Sums_any A B c e xs ys W h k hl.1 (by omega) (good_iff.1 hg).2.1 hl.2.2 480 (by omega) (good_ok hg)
theorem sums_good {xs ys : List Int} (hg : good xs ys = true) (A B : Option Addr) (c e : Nat) (W : World) (h : IntS W A xs) (k : IntS W B ys) :
    Calls Tryz.prog 37 #[.agg #[.slice A xs.length c, .slice B ys.length e]] W (RetI W (sumsL xs ys)) := by
  have hl := good_len hg
  rw [hl.2.2]
  exact sums_any A B c e xs ys W h k hl.1 (by omega) (good_iff.1 hg).2.1 hl.2.2 480 (by omega) (good_ok hg)
end Go.Proofs.YtgccidkkfalaeaaGreatDoor
/- append to an own slice: the elder elements stay where they lie (as a step of a region that draws its order, too). -/
namespace Go.Proofs.YtgccidkkfalaeaaGreatDoor
open Go.ChangeShapes Go.WideShapes Go.ChangeAt Go.RowKit

/-- A list, filled up with zeros to n. -/
def padZ (L : List Int) (n : Nat) : List Int := L ++ List.replicate (n - L.length) 0
theorem padZ_set (L : List Int) (n : Nat) (v : Int) (h : L.length < n) : (padZ L n).set L.length v = padZ (L ++ [v]) n := by
  unfold padZ
  have e : n - L.length = (n - (L ++ [v]).length) + 1 := by simp; omega
  rw [e, List.replicate_succ, List.set_append_right _ _ (Nat.le_refl _)]
  simp
theorem padZ_nth (L : List Int) (n j : Nat) (hj : j < L.length) : nth (padZ L n) j = nth L j := nth_app_lt hj
theorem padZ_len (L : List Int) (n : Nat) (h : L.length ≤ n) : (padZ L n).length = n := by simp [padZ]; omega
theorem padZ_nil (n : Nat) : padZ [] n = List.replicate n 0 := by simp [padZ]
theorem padZ_one (n : Nat) (h : 1 ≤ n) : padZ [0] n = List.replicate n 0 := by
  unfold padZ
  have e : n = (n - 1) + 1 := by omega
  conv => rhs; rw [e, List.replicate_succ]
  rfl
theorem padZ_all (L : List Int) (n : Nat) (h : L.length = n) : padZ L n = L := by subst h; simp [padZ]
theorem mem_nth {L : List Int} {v : Int} (h : v ∈ L) : ∃ j, j < L.length ∧ nth L j = v := by
  obtain ⟨j, hj, he⟩ := List.getElem_of_mem h
  exact ⟨j, hj, by simp [nth, List.getD, hj, he]⟩
theorem nth_mem {L : List Int} {j : Nat} (h : j < L.length) : nth L j ∈ L := by
  have : nth L j = L[j] := by simp [nth, List.getD, h]
  rw [this]; exact List.getElem_mem h
/-- What holds S' everywhere on holds S. -/
theorem wpAnyH_mono {P : Program} {md : Region.Mode} {ops : Array Oper} {Q : Exit → Act → World → Prop} {S S' : World → Prop} (hS : ∀ w, S' w → S w) :
    ∀ (fuel : Nat) (listed : Array Bool) (a : Act) (w : World), wpAnyH P md ops Q S' fuel listed a w → wpAnyH P md ops Q S fuel listed a w
  | 0, _, _, _, h => h
  | fuel + 1, _, _, _, h => ⟨h.1, fun i hi => wpOp_mono (fun a' w' h' => ⟨hS _ h'.1, wpAnyH_mono hS fuel _ a' w' h'.2⟩) (h.2 i hi)⟩
theorem KeptBut.refl2 (w : World) (p : Nat) : KeptBut w w p p := ⟨rfl, rfl, rfl, Nat.le_refl _, fun _ _ _ _ => rfl⟩
theorem KeptBut.post {w W w1 : World} {p : Nat} (h : KeptBut w W p p) (hb : Below W.heap.size W w1) : KeptBut w w1 p p :=
  ⟨hb.os.trans h.os, hb.tape.trans h.tape, hb.output.trans h.output, Nat.le_trans h.size hb.size, fun k hk hp hq => (hb.block k (Nat.lt_of_lt_of_le hk h.size)).trans (h.block k hk hp hq)⟩
theorem KeptBut.trans2 {w W w1 : World} {p : Nat} (h : KeptBut w W p p) (hb : KeptBut W w1 p p) : KeptBut w w1 p p :=
  ⟨hb.os.trans h.os, hb.tape.trans h.tape, hb.output.trans h.output, Nat.le_trans h.size hb.size, fun k hk hp hq => (hb.block k (Nat.lt_of_lt_of_le hk h.size) hp hq).trans (h.block k hk hp hq)⟩
theorem keep_froz2 {W w1 : World} {p : Addr} {v : Value} (hb : Below W.heap.size W w1) (h : W.cell? p = some v) (hf : W.frozen? p = false) : w1.frozen? p = false := by
  rw [hb.frozen (World.block_lt_of_cell? W p h)]; exact hf
theorem KeptBut.setg {w wr : World} {g : Nat} (h : KeptBut w wr g g) (i : Nat) (v : Value) : KeptBut w (wr.setCell ⟨g, i, none⟩ v) g g :=
  ⟨h.os, h.tape, h.output, by simpa [World.setCell] using h.size, fun k hk hp _ => by
    rw [Below.heap_setCell _ _ _ _ (by intro e; exact hp (by rw [e]))]; exact h.block k hk hp hp⟩
theorem KeptBut.drew {w wr : World} {p q : Nat} (h : KeptBut w wr p q) : KeptBut w wr.drew p q := ⟨h.os, h.tape, h.output, h.size, h.block⟩
theorem keep_below_dr {w W w1 : World} (hb : Below W.heap.size W w1) (h : Below w.heap.size w W.drew) : Below w.heap.size w w1 :=
  keep_below hb (⟨h.os, h.tape, h.output, h.size, h.block⟩ : Below w.heap.size w W)
theorem alloc3 (w : World) (a b c d : Value) (t1 t2 : TypeId) (o : Obj) {g : Nat} (hg : g = w.heap.size + 1) :
    (((w.alloc (.cells #[a, b] t1)).alloc (.cells #[c, d] t2)).alloc o).cell? ⟨w.heap.size, 0, none⟩ = some a ∧ (((w.alloc (.cells #[a, b] t1)).alloc (.cells #[c, d] t2)).alloc o).cell? ⟨w.heap.size, 1, none⟩ = some b ∧
    (((w.alloc (.cells #[a, b] t1)).alloc (.cells #[c, d] t2)).alloc o).cell? ⟨g, 0, none⟩ = some c ∧ (((w.alloc (.cells #[a, b] t1)).alloc (.cells #[c, d] t2)).alloc o).cell? ⟨g, 1, none⟩ = some d ∧
    (((w.alloc (.cells #[a, b] t1)).alloc (.cells #[c, d] t2)).alloc o).frozen? ⟨g, 0, none⟩ = false ∧ (((w.alloc (.cells #[a, b] t1)).alloc (.cells #[c, d] t2)).alloc o).frozen? ⟨g, 1, none⟩ = false := by
  subst hg
  have k1 : ∀ (W : World) (o : Obj), Below W.heap.size W (W.alloc o) := fun W o => (Below.refl _ _).alloc (Nat.le_refl _) o
  have e : w.heap.size + 1 = (w.alloc (.cells #[a, b] t1)).heap.size := by simp
  have c0 : ((w.alloc (.cells #[a, b] t1)).alloc (.cells #[c, d] t2)).cell? ⟨w.heap.size + 1, 0, none⟩ = some c := cell_new _ _ _ _ _ e
  have c1 : ((w.alloc (.cells #[a, b] t1)).alloc (.cells #[c, d] t2)).cell? ⟨w.heap.size + 1, 1, none⟩ = some d := cell_new _ _ _ _ _ e
  exact ⟨keep_cell (k1 _ _) (keep_cell (k1 _ _) (cell_new w _ _ 0 _ rfl)), keep_cell (k1 _ _) (keep_cell (k1 _ _) (cell_new w _ _ 1 _ rfl)), keep_cell (k1 _ _) c0, keep_cell (k1 _ _) c1,
    keep_froz2 (k1 _ _) c0 (frozen_new _ _ _ _ _ e), keep_froz2 (k1 _ _) c1 (frozen_new _ _ _ _ _ e)⟩
end Go.Proofs.YtgccidkkfalaeaaGreatDoor
/- Rows of bools that are written; own rows, and what lies far from a cell that is written. -/
namespace Go.Proofs.YtgccidkkfalaeaaGreatDoor
open Go.ChangeShapes Go.WideShapes Go.ChangeAt Go.RowKit

theorem RowB.free {w : World} {g n : Nat} {f : Nat → Bool} (h : RowB w g n f) (j : Nat) : w.frozen? ⟨g, j, none⟩ = false := by
  unfold RowB at h; simp [World.frozen?, h]
theorem RowB.congr {w : World} {g n : Nat} {f f' : Nat → Bool} (h : RowB w g n f) (he : ∀ i, i < n → f i = f' i) : RowB w g n f' := by
  unfold RowB at *; rw [← bArr_congr n he]; exact h
theorem RowB.set {w : World} {g n : Nat} {f f' : Nat → Bool} (h : RowB w g n f) (k : Nat) (b : Bool) (he : ∀ i, i < n → (if i = k then b else f i) = f' i) : RowB (w.setCell ⟨g, k, none⟩ (.bool b)) g n f' := by
  refine RowB.congr (f := fun i => if i = k then b else f i) ?_ he
  have := set_block h k (.bool b)
  unfold RowB
  rw [this, bArr_set]
theorem RowB.far {w : World} {g n : Nat} {f : Nat → Bool} (h : RowB w g n f) {q : Nat} (hq : g ≠ q) (k : Nat) (v : Value) : RowB (w.setCell ⟨q, k, none⟩ v) g n f :=
  (Below.heap_setCell _ _ _ _ hq).trans h
theorem Row.far {w : World} {g : Nat} {L : List Int} (h : Row w g L) {q : Nat} (hq : g ≠ q) (k : Nat) (v : Value) : Row (w.setCell ⟨q, k, none⟩ v) g L :=
  h.of_block (Below.heap_setCell _ _ _ _ hq)
theorem own_ne_ge {w : World} {B size n g : Nat} {e : TypeId} {v : Value} {xs : List Value} (h : w.ownsRow B e size v n xs) (hg : w.heap.size ≤ g) : v.ownBlock ≠ some g := fun e => by have := (h.lt g e).2; omega
theorem own_far {w : World} {B size n q k : Nat} {e : TypeId} {v u : Value} {xs : List Value} (h : w.ownsRow B e size v n xs) (hq : v.ownBlock ≠ some q) : (w.setCell ⟨q, k, none⟩ u).ownsRow B e size v n xs := by
  refine ⟨h.1, ?_⟩
  rcases h.2 with hn | ⟨g, cap, cur, rfl, hb, hgg, rest⟩
  · exact .inl hn
  · exact .inr ⟨g, cap, cur, rfl, hb, (Below.heap_setCell _ _ _ _ (fun e => hq (by simpa [Value.ownBlock] using e))).trans hgg, rest⟩
end Go.Proofs.YtgccidkkfalaeaaGreatDoor
/- What an append lays: the new cells' facts, and that new memory is apart. -/
namespace Go.Proofs.YtgccidkkfalaeaaGreatDoor
open Go.ChangeShapes Go.WideShapes Go.ChangeAt Go.RowKit

theorem own_no {w : World} {B n size g : Nat} {e : TypeId} {v : Value} {xs : List Value} (h : w.ownsRow B e size v n xs) (hg : g < B) : v.ownBlock ≠ some g := fun e => by have := (h.lt g e).1; omega
theorem new_apartI {w : World} {B n gT : Nat} {v v' u : Value} {xs : List Value} {e : TypeId} {size : Nat} (hlt : gT < w.heap.size) (hv : v.ownBlock ≠ some gT) (hu : w.ownsRow B e size u n xs) (hap : ∀ g, v.ownBlock = some g → u.ownBlock ≠ some g) (hat : v'.ownBlock = v.ownBlock ∨ v'.ownBlock = some w.heap.size) : v'.ownBlock ≠ some gT ∧ ∀ g, v'.ownBlock = some g → u.ownBlock ≠ some g := by
  rcases hat with e | e
  · exact ⟨by rw [e]; exact hv, fun g hg => hap g (by rw [← e]; exact hg)⟩
  · refine ⟨by rw [e]; intro e2; injection e2 with e2; omega, fun g hg e2 => ?_⟩
    rw [e] at hg
    injection hg with hg
    have := (hu.lt g e2).2
    omega
theorem addr_addI (g o j : Nat) : (⟨g, o, none⟩ : Addr).add j = ⟨g, o + j, none⟩ := by unfold Addr.add; split <;> simp_all
def NewsAt (w : World) (g : Nat) (v : Value) : Prop := ∀ j u, [v][j]? = some u → w.cell? ((⟨g, 0, none⟩ : Addr).add j) = some u
theorem NewsAt.below {w w' : World} {g : Nat} {v : Value} (h : NewsAt w g v) (hb : Below w.heap.size w w') : NewsAt w' g v := fun j u hj => keep_cell hb (h j u hj)
theorem NewsAt.grown {w w' : World} {g : Nat} {v : Value} {row : Option Nat} (h : NewsAt w g v) (hg : w.grownBy w' row) (hr : row ≠ some g) : NewsAt w' g v := fun j u hj => by
  have h1 := h j u hj
  rw [addr_addI] at h1 ⊢
  exact grown_cell hg h1 hr
theorem own_none2 (w : World) (B : Nat) : w.ownsRow B 3 1 (.slice none 0 0) 0 [] := ⟨rfl, .inl ⟨rfl, rfl⟩⟩
end Go.Proofs.YtgccidkkfalaeaaGreatDoor
/- Lists of pairs of ints in memory. -/
namespace Go.Proofs.YtgccidkkfalaeaaGreatDoor
open Go.ChangeShapes Go.WideShapes Go.ChangeAt Go.RowKit

def i64p (L : List (Int × Int)) : List Value := L.flatMap fun p => [.int .i64 p.1, .int .i64 p.2]
theorem i64p_app (L : List (Int × Int)) (a b : Int) : i64p (L ++ [(a, b)]) = i64p L ++ [Value.int .i64 a, Value.int .i64 b] := by simp [i64p]
theorem i64p_len (L : List (Int × Int)) : (i64p L).length = L.length * 2 := by
  induction L with
  | nil => rfl
  | cons a L ih =>
    have : i64p (a :: L) = [.int .i64 a.1, .int .i64 a.2] ++ i64p L := rfl
    rw [this]; simp [ih]; omega
def nthp (L : List (Int × Int)) (j : Nat) : Int × Int := L.getD j (0, 0)
theorem i64p_get (L : List (Int × Int)) (j : Nat) (hj : j < L.length) : (i64p L)[j * 2]? = some (.int .i64 (nthp L j).1) ∧ (i64p L)[j * 2 + 1]? = some (.int .i64 (nthp L j).2) := by
  induction L generalizing j with
  | nil => simp at hj
  | cons a L ih =>
    have e : i64p (a :: L) = [.int .i64 a.1, .int .i64 a.2] ++ i64p L := rfl
    cases j with
    | zero => rw [e]; exact ⟨rfl, rfl⟩
    | succ j =>
      have h := ih j (by simpa using hj)
      have e1 : (j + 1) * 2 = j * 2 + 2 := by omega
      rw [e, e1]
      have e2 : nthp (a :: L) (j + 1) = nthp L j := rfl
      rw [e2]
      rw [List.getElem?_append_right (by simp), List.getElem?_append_right (by simp)]
      simpa using h
/-- Block g begins with the pairs L. -/
def Row2 (w : World) (g : Nat) (L : List (Int × Int)) : Prop := ∃ cs : Array Value, w.heap[g]? = some (.cells cs 41 (0, 0)) ∧ ∃ r, cs.toList = i64p L ++ r
def OwnS2 (w : World) (B : Nat) (A : Option Addr) (L : List (Int × Int)) : Prop := (A = none ∧ L = []) ∨ ∃ g, A = some ⟨g, 0, none⟩ ∧ B ≤ g ∧ Row2 w g L
section
variable {w w' : World} {g : Nat} {L : List (Int × Int)}
theorem Row2.lt (h : Row2 w g L) : g < w.heap.size := by
  obtain ⟨cs, h, _⟩ := h
  rcases Nat.lt_or_ge g w.heap.size with hlt | hge
  · exact hlt
  · rw [Array.getElem?_eq_none hge] at h; cases h
theorem Row2.of_block (h : Row2 w g L) (hb : w'.heap[g]? = w.heap[g]?) : Row2 w' g L := by
  obtain ⟨cs, h, hr⟩ := h
  exact ⟨cs, hb.trans h, hr⟩
theorem Row2.below (h : Row2 w g L) (hb : Below w.heap.size w w') : Row2 w' g L := h.of_block (hb.block g h.lt)
theorem Row2.alloc (h : Row2 w g L) (o : Obj) : Row2 (w.alloc o) g L := h.below ((Below.refl _ _).alloc (Nat.le_refl _) o)
theorem Row2.grown {row : Option Nat} (h : Row2 w g L) (hb : w.grownBy w' row) (hg : row ≠ some g) : Row2 w' g L := h.of_block (hb.block g h.lt (fun e => hg e.symm))
theorem Row2.cell0 (h : Row2 w g L) {j : Nat} (hj : j < L.length) : w.cell? ⟨g, j * 2, none⟩ = some (.int .i64 (nthp L j).1) := by
  obtain ⟨cs, h, r, hr⟩ := h
  rw [cell_of_row _ _ _ _ _ _ h, ← Array.getElem?_toList, hr, List.getElem?_append_left (by rw [i64p_len]; omega)]
  exact (i64p_get L j hj).1
theorem Row2.cell1 (h : Row2 w g L) {j : Nat} (hj : j < L.length) : w.cell? ⟨g, j * 2 + 1, none⟩ = some (.int .i64 (nthp L j).2) := by
  obtain ⟨cs, h, r, hr⟩ := h
  rw [cell_of_row _ _ _ _ _ _ h, ← Array.getElem?_toList, hr, List.getElem?_append_left (by rw [i64p_len]; omega)]
  exact (i64p_get L j hj).2
theorem Row2.frozen (h : Row2 w g L) (j : Nat) : w.frozen? ⟨g, j, none⟩ = false := by
  obtain ⟨cs, h, _⟩ := h
  unfold World.frozen?; rw [h]; simp
theorem OwnS2.mono {B B' : Nat} {A : Option Addr} (h : OwnS2 w B A L) (hB : B' ≤ B) : OwnS2 w B' A L := by
  rcases h with h | ⟨g, h1, h2, h3⟩
  · exact .inl h
  · exact .inr ⟨g, h1, by omega, h3⟩
theorem OwnS2.below {B : Nat} {A : Option Addr} (h : OwnS2 w B A L) (hb : Below w.heap.size w w') : OwnS2 w' B A L := by
  rcases h with h | ⟨g, h1, h2, h3⟩
  · exact .inl h
  · exact .inr ⟨g, h1, h2, h3.below hb⟩
theorem OwnS2.pos {B : Nat} {A : Option Addr} (h : OwnS2 w B A L) (hn : 1 ≤ L.length) : ∃ g, A = some ⟨g, 0, none⟩ ∧ B ≤ g ∧ Row2 w g L := by
  rcases h with ⟨_, e⟩ | h
  · rw [e] at hn; simp at hn
  · exact h
end
theorem own_form2 {w : World} {B : Nat} {v : Value} {L : List (Int × Int)} {n : Nat} (h : w.ownsRow B 41 2 v n (i64p L)) : ∃ A c, v = .slice A L.length c ∧ OwnS2 w B A L := by
  have hl : L.length = n := by have := h.1; rw [i64p_len] at this; omega
  subst hl
  rcases h.2 with ⟨rfl, h0⟩ | ⟨g, cap, cur, rfl, hg, hh, h1, h2, h3, h4⟩
  · exact ⟨none, 0, by rw [h0], .inl ⟨rfl, List.eq_nil_of_length_eq_zero h0⟩⟩
  · exact ⟨some ⟨g, 0, none⟩, cap, rfl, .inr ⟨g, rfl, hg, cur, hh, cur.toList.drop (L.length * 2), by rw [← h4, List.take_append_drop]⟩⟩
theorem own_empty2 (W : World) (B g : Nat) (hg : g = W.heap.size) (hB : B ≤ g) : (W.alloc (.cells #[] 41)).ownsRow B 41 2 (.slice (some ⟨g, 0, none⟩) 0 0) 0 [] := by
  subst hg
  exact ⟨rfl, .inr ⟨W.heap.size, 0, #[], rfl, hB, heap_alloc_new W _, Nat.le_refl _, by simp [maxLen], rfl, rfl⟩⟩
/-- A call that hands back a new list of pairs. -/
def RetP (w : World) (L : List (Int × Int)) (e : Ending) (w' : World) : Prop := ∃ A c, e = .returned (.slice A L.length c) ∧ OwnS2 w' w.heap.size A L ∧ Below w.heap.size w w'
theorem info_A2 : (Tryz.prog.info? 41).map (fun i => (i.zero, i.size, i.bytes)) = some (some (.agg #[.int .i64 0, .int .i64 0]), 2, 16) := by kernel_rfl
theorem cells2_new (w : World) (a b : Value) (t : TypeId) : ∀ j u, [a, b][j]? = some u → (w.alloc (.cells #[a, b] t)).cell? ((⟨w.heap.size, 0, none⟩ : Addr).add j) = some u :=
  World.news_of_block (cs := #[a, b]) (heap_alloc_new w _)
end Go.Proofs.YtgccidkkfalaeaaGreatDoor
/- Contract: slices.Reverse at a block of ints of the program's own. -/
namespace Go.Proofs.YtgccidkkfalaeaaGreatDoor
open Go.ChangeShapes Go.WideShapes Go.ChangeAt Go.RowKit

/-- A list whose first k and last k have been exchanged. -/
def revK (L : List Int) (k : Nat) : List Int := (List.range L.length).map fun j => if j < k ∨ L.length ≤ j + k then nth L (L.length - 1 - j) else nth L j
theorem revK_len (L : List Int) (k : Nat) : (revK L k).length = L.length := by simp [revK]
theorem revK_nth (L : List Int) (k j : Nat) (hj : j < L.length) : nth (revK L k) j = if j < k ∨ L.length ≤ j + k then nth L (L.length - 1 - j) else nth L j := by
  simp [revK, nth, List.getD, hj]
theorem list_nth {L M : List Int} (hl : L.length = M.length) (h : ∀ j, j < L.length → nth L j = nth M j) : L = M := by
  apply List.ext_getElem hl
  intro j h1 h2
  have := h j h1
  simpa [nth, List.getD, h1, h2] using this
theorem revK_zero (L : List Int) : revK L 0 = L := by
  refine list_nth (revK_len _ _) fun j hj => ?_
  rw [revK_len] at hj
  rw [revK_nth _ _ _ hj, if_neg (by omega)]
theorem revK_all (L : List Int) (k : Nat) (h : L.length ≤ 2 * k + 1) : revK L k = L.reverse := by
  refine list_nth (by simp [revK_len]) fun j hj => ?_
  rw [revK_len] at hj
  have hr : nth L.reverse j = nth L (L.length - 1 - j) := by
    unfold nth List.getD
    rw [List.getElem?_reverse hj]
  rw [revK_nth _ _ _ hj, hr]
  by_cases e : j < k ∨ L.length ≤ j + k
  · rw [if_pos e]
  · rw [if_neg e]; congr 1; omega
theorem revK_step (L : List Int) (k : Nat) (h : 2 * k + 1 < L.length) : ((revK L k).set k (nth L (L.length - 1 - k))).set (L.length - 1 - k) (nth L k) = revK L (k + 1) := by
  refine list_nth (by simp [revK_len]) fun j hj => ?_
  simp [revK_len] at hj
  rw [nth_set _ _ _ _ (by simp [revK_len]; omega), nth_set _ _ _ _ (by simp [revK_len]; omega), revK_nth _ _ _ hj, revK_nth _ _ _ hj]
  by_cases e1 : j = L.length - 1 - k
  · rw [if_pos e1, if_pos (by omega)]; congr 1; omega
  · rw [if_neg e1]
    by_cases e2 : j = k
    · subst e2; rw [if_pos rfl, if_pos (by omega)]
    · rw [if_neg e2]
      by_cases e3 : j < k ∨ L.length ≤ j + k
      · rw [if_pos e3, if_pos (by omega)]
      · rw [if_neg e3, if_neg (by omega)]

set_option maxHeartbeats 1000000 in
set_option maxRecDepth 100000 in
theorem reverse_row (g c : Nat) (L : List Int) (w : World) (h : Row w g L) (hn : L.length ≤ 1000000) :
    Calls Tryz.prog 75 #[.slice (some ⟨g, 0, none⟩) L.length c] w fun e w' => e = .returned (.tuple #[]) ∧ Row w' g L.reverse ∧ KeptBut w w' g g := by
  obtain ⟨n, hn'⟩ : ∃ n, n = L.length := ⟨_, rfl⟩
  have HN : Hid (n = L.length) := hn'
  rw [← hn'] at hn ⊢
  clear hn'
  have h0 : Row w g (revK L 0) := by rw [revK_zero]; exact h
  clear h
  go_enter Tryz.func75, Tryz.ntmps75
  go_wp2
  go_loopw [2, 3] (fun i j wr => ∃ k : Nat, 2 * k ≤ n + 1 ∧ i = .int .i64 k ∧ j = .int .i64 ((n : Int) - 1 - k) ∧ Row wr g (revK L k) ∧ KeptBut w wr g g) (fun i _ _ => n - (intOf i).toNat)
  case atStart => exact ⟨0, by omega, rfl, by go_num, h0, rfl, rfl, rfl, Nat.le_refl _, fun _ _ _ _ => rfl⟩
  case round =>
    clear h0
    obtain ⟨k, hk, rfl, rfl, hrow, hkp⟩ := hrel
    by_cases hlt : 2 * k + 1 < n
    · obtain ⟨m, hm⟩ : ∃ m, n = m + k + 1 := ⟨n - k - 1, by omega⟩
      have HM := Lib.hid hm
      have hmk : k < m := by omega
      have hmn : m < n := by omega
      have hkn : k < n := by omega
      have em : ((n : Int) - 1 - k) = (m : Int) := by omega
      have em' : ((n : Int) - 1 - (k : Int)) - 1 = (n : Int) - 1 - ((k + 1 : Nat) : Int) := by omega
      have hck := hrow.cell (j := k) (by rw [revK_len, ← HN.out]; omega)
      have hcm := hrow.cell (j := m) (by rw [revK_len, ← HN.out]; omega)
      have hfk := hrow.frozen k
      have hfm := hrow.frozen m
      rw [revK_nth _ _ _ (by rw [← HN.out]; omega), if_neg (by rw [← HN.out]; omega)] at hck hcm
      have hs := revK_step L k (by rw [← HN.out]; exact hlt)
      rw [show L.length - 1 - k = m from by rw [← HN.out]; omega] at hs
      obtain ⟨a, ha⟩ : ∃ a, nth L k = a := ⟨_, rfl⟩
      obtain ⟨b, hb⟩ : ∃ b, nth L m = b := ⟨_, rfl⟩
      rw [ha] at hck hs
      rw [hb] at hcm hs
      have HS := Lib.hid hs
      have HR := Lib.hid hrow
      have HE := Lib.hid em'
      rw [em]
      clear ha hb hs hrow em em' hm
      go_wp2
      go_region
      go_wp2
      go_roundw
      case rel => exact ⟨k + 1, by omega, by go_num, by rw [show (n : Int) - 1 - ((k + 1 : Nat) : Int) = (m : Int) - 1 from by have := HM.out; omega], (by rw [← HS.out]; exact (HR.out.set (by rw [revK_len, ← HN.out]; exact hkn) b).set (by rw [List.length_set, revK_len, ← HN.out]; exact hmn) a), ((hkp.setg k _).setg m _).drew⟩
      case measure => simp [intOf]; omega
    · have hall := revK_all L k (by rw [← HN.out]; omega)
      rw [hall] at hrow
      clear hall
      go_wp2
      go_end0
      exact ⟨rfl, hrow, hkp⟩
end Go.Proofs.YtgccidkkfalaeaaGreatDoor
/- Contracts of SumsOf, printed by wraps.py. -/
namespace Go.Proofs.YtgccidkkfalaeaaGreatDoor
open Go.ChangeShapes Go.WideShapes Go.ChangeAt Go.RowKit

noncomputable def sumR (xs ys : List Int) : List Int := if good xs ys then sumsL xs ys else []
theorem sumR_len (xs ys : List Int) (hn : xs.length ≤ 1048576) : (sumR xs ys).length ≤ 2000000 := by
  unfold sumR; split
  · rw [sums_len (by assumption)]; omega
  · simp

set_option maxHeartbeats 400000 in
theorem specSumsOf_any (A B : Option Addr) (c e : Nat) (xs ys : List Int) (w : World) (h : IntS w A xs) (k : IntS w B ys) (hx : Bd xs) (hy : Bd ys) (hn : xs.length ≤ 1048576) (hm : ys.length ≤ 1048576) :
    Calls Tryz.prog 10 #[.agg #[.slice A xs.length c, .slice B ys.length e]] w (RetIB w (sumR xs ys) (good xs ys)) := by
  cases hg : good xs ys
  · have hR : sumR xs ys = [] := by unfold sumR; rw [hg]; rfl
    have HG := Lib.hid (fun W (h : IntS W A xs) (k : IntS W B ys) => l2Good_r hg A B c e W h k hx hy hn hm)
    rw [hR]
    clear hx hy hg hR
    go_enter Tryz.func10, Tryz.ntmps10
    go_wp2_with fail
    refine (HG.out _ (h.alloc _) (k.alloc _)).mono ?_
    rintro e1 w1 ⟨rfl, hb1⟩
    have hb2 := below_alloc hb1
    go_wp2
    go_ret2
    exact ⟨_, _, rfl, .inr ⟨_, rfl, hb2.size, ⟨#[], heap_alloc_new _ _, [], rfl⟩⟩, keep_below_alloc hb2 _⟩
  · have hR : sumR xs ys = sumsL xs ys := by unfold sumR; rw [hg]; rfl
    have HG := Lib.hid (fun W (h : IntS W A xs) (k : IntS W B ys) => l2Good_r hg A B c e W h k hx hy hn hm)
    have hgl := good_len hg
    have HK := Lib.hid (fun W (h : IntS W A xs) (k : IntS W B ys) => l2Sums_good hg A B c e W h k)
    rw [hR]
    clear hx hy hg hR hgl
    go_enter Tryz.func10, Tryz.ntmps10
    go_wp2_with fail
    refine (HG.out _ (h.alloc _) (k.alloc _)).mono ?_
    rintro e1 w1 ⟨rfl, hb1⟩
    have hx0 := keep_cell hb1 (cell_new _ _ _ 0 _ rfl)
    have hx1 := keep_cell hb1 (cell_new _ _ _ 1 _ rfl)
    simp at hx0 hx1
    have hb2 := below_alloc hb1
    go_wp2_with fail
    refine (HK.out _ (h.below hb2) (k.below hb2)).mono ?_
    rintro e1 w2 ⟨A', c', rfl, ho, hb3⟩
    go_wp2
    go_ret2
    exact ⟨_, _, rfl, ho.mono hb2.size, keep_below hb3 hb2⟩

set_option maxHeartbeats 400000 in
theorem implSumsOf_any (A B : Option Addr) (c e : Nat) (xs ys : List Int) (w : World) (h : IntS w A xs) (k : IntS w B ys) (hx : Bd xs) (hy : Bd ys) (hn : xs.length ≤ 1048576) (hm : ys.length ≤ 1048576) :
    Calls Tryz.prog 9 #[.agg #[.slice A xs.length c, .slice B ys.length e]] w (RetIB w (sumR xs ys) (good xs ys)) := by
  cases hg : good xs ys
  · have hR : sumR xs ys = [] := by unfold sumR; rw [hg]; rfl
    have HG := Lib.hid (fun W (h : IntS W A xs) (k : IntS W B ys) => isTree_r hg A B c e W h k hx hy hn hm)
    rw [hR]
    clear hx hy hg hR
    go_enter Tryz.func9, Tryz.ntmps9
    go_wp2_with fail
    refine (HG.out _ (h.alloc _) (k.alloc _)).mono ?_
    rintro e1 w1 ⟨rfl, hb1⟩
    have hb2 := below_alloc hb1
    go_wp2
    go_ret2
    exact ⟨none, 0, rfl, .inl ⟨rfl, rfl⟩, hb2⟩
  · have hR : sumR xs ys = sumsL xs ys := by unfold sumR; rw [hg]; rfl
    have HG := Lib.hid (fun W (h : IntS W A xs) (k : IntS W B ys) => isTree_r hg A B c e W h k hx hy hn hm)
    have hgl := good_len hg
    have HK := Lib.hid (fun W (h : IntS W A xs) (k : IntS W B ys) => sums_good hg A B c e W h k)
    rw [hR]
    clear hx hy hg hR hgl
    go_enter Tryz.func9, Tryz.ntmps9
    go_wp2_with fail
    refine (HG.out _ (h.alloc _) (k.alloc _)).mono ?_
    rintro e1 w1 ⟨rfl, hb1⟩
    have hx0 := keep_cell hb1 (cell_new _ _ _ 0 _ rfl)
    have hx1 := keep_cell hb1 (cell_new _ _ _ 1 _ rfl)
    simp at hx0 hx1
    have hb2 := below_alloc hb1
    go_wp2_with fail
    refine (HK.out _ (h.below hb2) (k.below hb2)).mono ?_
    rintro e1 w2 ⟨A', c', rfl, ho, hb3⟩
    go_wp2
    go_ret2
    exact ⟨_, _, rfl, ho.mono hb2.size, keep_below hb3 hb2⟩
end Go.Proofs.YtgccidkkfalaeaaGreatDoor
/- Contracts: the way to a node. -/
namespace Go.Proofs.YtgccidkkfalaeaaGreatDoor
open Go.ChangeShapes Go.WideShapes Go.ChangeAt Go.RowKit

/-- The nodes from x up to the root (k steps at most). -/
def upL (xs : List Int) : Nat → Nat → List Int
  | 0, x => [(x : Int)]
  | k + 1, x => if x = 0 then [0] else (x : Int) :: upL xs k (nth xs x).toNat
def up (xs : List Int) (x : Nat) : List Int := upL xs x x
/-- The way from the root to x. -/
def wayL (xs : List Int) (x : Nat) : List Int := (up xs x).reverse
theorem upL_more {xs : List Int} (hu : ∀ j, 1 ≤ j → j < xs.length → ∃ p : Nat, nth xs j = p ∧ p < j) (k : Nat) : ∀ x, x ≤ k → x < xs.length → upL xs k x = upL xs x x := by
  induction k using Nat.strongRecOn with
  | ind k ih =>
    intro x hx hl
    by_cases h0 : x = 0
    · subst h0; cases k <;> simp [upL]
    · obtain ⟨p, hp, hpx⟩ := hu x (by omega) hl
      obtain ⟨k, rfl⟩ : ∃ i, k = i + 1 := ⟨k - 1, by omega⟩
      obtain ⟨y, rfl⟩ : ∃ y, x = y + 1 := ⟨x - 1, by omega⟩
      rw [upL, upL, if_neg h0, if_neg h0, hp]
      show _ :: upL xs k p = _ :: upL xs y p
      rw [ih k (by omega) p (by omega) (by omega)]
      by_cases e : y = k
      · subst e; rw [ih y (by omega) p (by omega) (by omega)]
      · rw [ih y (by omega) p (by omega) (by omega)]
theorem up_zero (xs : List Int) : up xs 0 = [0] := rfl
theorem up_step {xs : List Int} (hu : ∀ j, 1 ≤ j → j < xs.length → ∃ p : Nat, nth xs j = p ∧ p < j) {x p : Nat} (h1 : 1 ≤ x) (hx : x < xs.length) (hp : nth xs x = p) (hpx : p < x) : up xs x = (x : Int) :: up xs p := by
  unfold up
  obtain ⟨y, rfl⟩ : ∃ y, x = y + 1 := ⟨x - 1, by omega⟩
  rw [upL, if_neg (by omega), hp]
  show _ :: upL xs y p = _
  rw [upL_more hu y p (by omega) (by omega)]
theorem way_zero (xs : List Int) : wayL xs 0 = [0] := rfl
theorem way_step {xs : List Int} (hu : ∀ j, 1 ≤ j → j < xs.length → ∃ p : Nat, nth xs j = p ∧ p < j) {x p : Nat} (h1 : 1 ≤ x) (hx : x < xs.length) (hp : nth xs x = p) (hpx : p < x) : wayL xs x = wayL xs p ++ [(x : Int)] := by
  unfold wayL; rw [up_step hu h1 hx hp hpx]; simp
theorem upL_len (xs : List Int) (k : Nat) : ∀ x, 1 ≤ (upL xs k x).length ∧ (upL xs k x).length ≤ k + 1 := by
  induction k with
  | zero => intro x; simp [upL]
  | succ k ih =>
    intro x
    rw [upL]
    split
    · simp
    · have := ih (nth xs x).toNat; simp; omega
theorem up_len (xs : List Int) (x : Nat) : 1 ≤ (up xs x).length ∧ (up xs x).length ≤ x + 1 := upL_len xs x x
theorem way_len (xs : List Int) (x : Nat) : 1 ≤ (wayL xs x).length ∧ (wayL xs x).length ≤ x + 1 := by
  unfold wayL; rw [List.length_reverse]; exact up_len xs x
/-- The same, from a number below 0: nothing. -/
def upZ (xs : List Int) (x : Int) : List Int := if x < 0 then [] else up xs x.toNat
theorem upZ_step {xs : List Int} (hu : ∀ j, 1 ≤ j → j < xs.length → ∃ p : Nat, nth xs j = p ∧ p < j) (h0 : nth xs 0 = -1) {x : Nat} (hx : x < xs.length) : upZ xs x = (x : Int) :: upZ xs (nth xs x) := by
  unfold upZ
  rw [if_neg (by omega)]
  by_cases e : x = 0
  · subst e; rw [h0]; rfl
  · obtain ⟨p, hp, hpx⟩ := hu x (by omega) hx
    rw [hp, if_neg (by omega)]
    exact up_step hu (by omega) hx hp hpx
theorem par_bd {xs : List Int} (hu : ∀ j, 1 ≤ j → j < xs.length → ∃ p : Nat, nth xs j = p ∧ p < j) (h0 : nth xs 0 = -1) {x : Nat} (hx : x < xs.length) : -1 ≤ nth xs x ∧ nth xs x < x := by
  by_cases e : x = 0
  · subst e; rw [h0]; omega
  · obtain ⟨p, hp, hpx⟩ := hu x (by omega) hx
    rw [hp]; omega

set_option maxHeartbeats 1000000 in
set_option maxRecDepth 100000 in
theorem l2Way_any {xs ys : List Int} (hg : good xs ys = true) (A B : Option Addr) (c m e x : Nat) (w : World) (h : IntS w A xs) (hx : x < xs.length) :
    Calls Tryz.prog 58 #[.agg #[.slice A xs.length c, .slice B m e], .int .i64 x] w (RetI w (wayL xs x)) := by
  obtain ⟨i0, hi, hz0, hz1, hz2⟩ := info_parts info_int
  have HU := Lib.hid (good_upL hg)
  have hgl := good_len hg
  obtain ⟨R, hR⟩ : ∃ R, wayL xs x = R := ⟨_, rfl⟩
  have HW : Hid (∃ L, [(x : Int)] = (x : Int) :: L ∧ wayL xs x ++ L = R) := ⟨[], rfl, by rw [← hR]; exact List.append_nil _⟩
  rw [hR]
  obtain ⟨n, hn'⟩ : ∃ n, n = xs.length := ⟨_, rfl⟩
  have HN : Hid (n = xs.length) := hn'
  rw [← hn'] at hgl hx HU ⊢
  obtain ⟨hn1, hn, _⟩ := hgl
  have HS : Hid (∀ q p, 1 ≤ q → q < n → nth xs q = ((p : Nat) : Int) → p < q → wayL xs q = wayL xs p ++ [(q : Int)]) := fun q p h1 h2 h3 h4 => way_step (good_upL hg) h1 (by rw [← hn']; exact h2) h3 h4
  clear hn' hg hR
  go_enter Tryz.func58, Tryz.ntmps58
  go_wp2
  go_loopw [1, 5] (fun xv v wr => ∃ (q g cap : Nat) (M : List Int), q ≤ x ∧ xv = .int .i64 q ∧ v = .slice (some ⟨g, 0, none⟩) M.length cap ∧ w.heap.size + 1 ≤ g ∧ Row wr g M ∧ Hid (∃ L, M = (q : Int) :: L ∧ wayL xs q ++ L = R) ∧ M.length + q ≤ x + 1 ∧ wr.cell? ⟨w.heap.size, 0, none⟩ = some (.slice A n c) ∧ Below w.heap.size w wr) (fun xv _ _ => (intOf xv).toNat)
  case atStart => exact ⟨x, w.heap.size + 1, 1, [(x : Int)], Nat.le_refl _, rfl, rfl, by omega, (Row.new' _ [(x : Int)] _ (by simp)), HW, by simp; omega, by simp, by (repeat (first | with_reducible exact Below.refl _ _ | with_reducible assumption | with_reducible refine Below.alloc' ?_ ?_ _ | with_reducible refine Below.setCell' ?_ ?_ _ | with_reducible refine Below.drewN' ?_ _ | with_reducible refine Below.drew ?_ | with_reducible refine Below.transA ?_ (by assumption) ?_ | omega | (focus (simp; done)) | (focus (simp; omega))))⟩
  case round =>
    clear HW
    obtain ⟨q, g, cap, M, hq, rfl, rfl, hg, hrow, HM, hl, hbx, hb1⟩ := hrel
    by_cases hz : q = 0
    case neg =>
      have hq0 : 0 < q := by omega
      obtain ⟨b, o, rfl, hc⟩ := (h.below hb1).at_ (j := q) (by rw [← HN.out]; omega)
      obtain ⟨p, hp, hpq⟩ := HU.out q (by omega) (by omega)
      have HM' : Hid (∃ L, (p : Int) :: M = (p : Int) :: L ∧ wayL xs p ++ L = R) := by
        obtain ⟨L, h1, h2⟩ := HM.out
        exact ⟨M, rfl, by rw [h1, ← h2, HS.out q p (by omega) (by omega) hp hpq]; simp⟩
      rw [hp] at hc
      have hws := hb1.size
      have hown := own_one wr (w.heap.size + 1) wr.heap.size p rfl (by have := hrow.lt; omega)
      have HC := ((hrow.alloc (.cells #[.int .i64 p] 3)).ints).cells
      have H1 := i64s_one M
      have HL := i64s_len M
      have hgl := hrow.lt
      clear hp hz HM HU HS hrow
      go_wp2_with (at_builtin; refine wpList_append_own_at _ rfl _ _ 24 rfl (w.heap.size + 1) 3 i0 (.int .i64 0) 1 8 Tryz.underlying24 hi hz0 hz1 hz2 rfl (by decide) _ _ _ rfl hown ⟨g, 0, none⟩ _ cap (i64s M) rfl HL HC H1 (by unfold maxLen; omega) (by omega) (by simp; omega) ?_; intro v' w1 hown1 hgrow _ _)
      have hbx1 := grown_cell hgrow (p := ⟨w.heap.size, 0, none⟩) (by rw [World.cell?_alloc_lt _ _ _ (World.block_lt_of_cell? _ _ hbx)]; exact hbx) (own_ne (g := w.heap.size) hown (by omega))
      have hb3 : Below w.heap.size w w1 := Below.grown (hb1.alloc hb1.size _) hgrow (by simp; omega) (fun g hg => by have := (hown.lt g hg).1; omega)
      obtain ⟨A', c', rfl, hO⟩ := own_form (xs := (p : Int) :: M) hown1
      obtain ⟨g', rfl, hg', hrow'⟩ := hO.pos (by simp)
      clear hown hown1 hgrow hbx hb1 HC H1 HL hO
      go_wp2
      go_roundw
      case rel => exact ⟨p, g', c', (p : Int) :: M, by omega, rfl, rfl, by omega, hrow', HM', by simp; omega, hbx1, hb3⟩
      case measure => simp [intOf]; omega
    case pos =>
      obtain ⟨L, h1, h2⟩ := HM.out
      have hMR : M = R := by rw [← h2, h1, hz]; rfl
      subst hMR
      clear h1 h2 HM HU HS
      subst hz
      go_wp2
      go_ret
      exact ⟨_, cap, rfl, .inr ⟨g, rfl, by omega, hrow⟩, hb1⟩
set_option maxHeartbeats 1000000 in
set_option maxRecDepth 100000 in
theorem way_any {xs ys : List Int} (hg : good xs ys = true) (A B : Option Addr) (c m e x : Nat) (w : World) (h : IntS w A xs) (hx : x < xs.length) :
    Calls Tryz.prog 56 #[.agg #[.slice A xs.length c, .slice B m e], .int .i64 x] w (RetI w (wayL xs x)) := by
  obtain ⟨i0, hi, hz0, hz1, hz2⟩ := info_parts info_int
  have HU : Hid (∀ q, q < xs.length → upZ xs (q : Nat) = (q : Int) :: upZ xs (nth xs q) ∧ -1 ≤ nth xs q ∧ nth xs q < q) := fun q hq => ⟨upZ_step (good_upL hg) (good_root hg) hq, par_bd (good_upL hg) (good_root hg) hq⟩
  have hgl := good_len hg
  have HW : Hid ([] ++ upZ xs x = up xs x) := by show _ = _; unfold upZ; rw [if_neg (by omega)]; simp
  have HR : Hid (wayL xs x = (up xs x).reverse) := rfl
  have hul := up_len xs x
  generalize wayL xs x = R at *
  generalize up xs x = V at *
  obtain ⟨n, hn'⟩ : ∃ n, n = xs.length := ⟨_, rfl⟩
  have HN : Hid (n = xs.length) := hn'
  rw [← hn'] at hgl hx HU ⊢
  obtain ⟨hn1, hn, _⟩ := hgl
  clear hn' hg
  go_enter Tryz.func56, Tryz.ntmps56
  go_wp2
  go_loopw [1, 5] (fun xv v wr => ∃ (y : Int) (U : List Int), -1 ≤ y ∧ y ≤ x ∧ xv = .int .i64 y ∧ wr.ownsRow (w.heap.size + 1) 3 1 v U.length (i64s U) ∧ Hid (U ++ upZ xs y = V) ∧ (U.length : Int) + y ≤ x ∧ wr.cell? ⟨w.heap.size, 0, none⟩ = some (.slice A n c) ∧ Below w.heap.size w wr) (fun xv _ _ => (intOf xv + 1).toNat)
  case atStart => exact ⟨x, [], by omega, by omega, rfl, own_empty _ _ _ (by simp) (by simp), HW, by simp, by simp, by (repeat (first | with_reducible exact Below.refl _ _ | with_reducible assumption | with_reducible refine Below.alloc' ?_ ?_ _ | with_reducible refine Below.setCell' ?_ ?_ _ | with_reducible refine Below.drewN' ?_ _ | with_reducible refine Below.drew ?_ | with_reducible refine Below.transA ?_ (by assumption) ?_ | omega | (focus (simp; done)) | (focus (simp; omega))))⟩
  case round =>
    clear HW
    obtain ⟨y, U, hy, hyx, rfl, hown, HV, hl, hbx, hb1⟩ := hrel
    by_cases hz : 0 ≤ y
    · obtain ⟨q, rfl⟩ := Int.eq_ofNat_of_zero_le hz
      obtain ⟨hs, hp1, hp2⟩ := HU.out q (by omega)
      have HV' : Hid ((U ++ [(q : Int)]) ++ upZ xs (nth xs q) = V) := by
        show _ = _; rw [← HV.out, hs]; simp
      have HP : Hid (i64s (U ++ [(q : Int)]) = i64s U ++ [Value.int .i64 (q : Int)] ∧ (U ++ [(q : Int)]).length = U.length + 1) := ⟨i64s_app _ _, by simp⟩
      obtain ⟨b, o, rfl, hc⟩ := h.at_ (j := q) (by rw [← HN.out]; omega)
      generalize nth xs q = p at *
      clear hs HV hz
      have hws := hb1.size
      have hw' : w.heap.size < wr.heap.size := World.block_lt_of_cell? _ _ hbx
      go_wp2_with (at_builtin; (refine wpList_append_own_at _ rfl _ _ 24 rfl (w.heap.size + 1) 3 i0 (.int .i64 0) 1 8 Tryz.underlying24 hi hz0 hz1 hz2 rfl (by decide) _ _ _ rfl (hown.alloc _) ⟨wr.heap.size, 0, none⟩ 1 1 [.int .i64 (q)] rfl rfl (cell_one_new _ _ _) (by simp [Value.oneCell']) (by unfold maxLen; omega) (by omega) (by simp; omega) ?_); intro v' w1 hown1 hgrow _ _; (have hbx1 := grown_cell hgrow (p := ⟨w.heap.size, 0, none⟩) (by rw [World.cell?_alloc_lt _ _ _ hw']; exact hbx) (own_ne (g := w.heap.size) hown (by omega))); (have hb3 : Below w.heap.size w w1 := Below.grown (hb1.alloc hb1.size _) hgrow (by simp; omega) (fun g hg => by have := (hown.lt g hg).1; omega)); (have hc1 := (hb3.cell (World.block_lt_of_cell? _ _ hc)).trans hc); rw [← HP.out.1, ← HP.out.2] at hown1; clear hown hgrow hbx hb1 hc)
      go_wp2
      go_roundw
      case rel => exact ⟨p, U ++ [(q : Int)], by omega, by omega, rfl, hown1, HV', by simp; omega, hbx1, hb3⟩
      case measure => simp [intOf]; omega
    · have hUV : U = V := by
        have := HV.out
        unfold upZ at this
        rw [if_pos (by omega)] at this
        simpa using this
      subst hUV
      have hneg : y < 0 := by omega
      obtain ⟨A', c', rfl, hO⟩ := own_form hown
      obtain ⟨g, rfl, hg, hrow⟩ := hO.pos hul.1
      have HK := Lib.hid (fun W (hr : Row W g U) => reverse_row g c' U W hr (by omega))
      have HL : Hid (U.length = R.length) := by show _ = _; rw [HR.out]; simp
      clear hown HV hz hO HU
      go_wp2_with fail
      refine (HK.out _ hrow).mono ?_
      rintro e1 w2 ⟨rfl, hrow2, hk2⟩
      rw [← HR.out] at hrow2
      go_wp2
      go_ret
      exact ⟨_, c', by rw [← HL.out]; rfl, .inr ⟨g, rfl, by omega, hrow2⟩, hk2.below hb1 (by omega) (by omega)⟩
end Go.Proofs.YtgccidkkfalaeaaGreatDoor
/- Contracts of WayTo, printed by wraps.py. -/
namespace Go.Proofs.YtgccidkkfalaeaaGreatDoor
open Go.ChangeShapes Go.WideShapes Go.ChangeAt Go.RowKit

noncomputable def wayROk (xs ys : List Int) (x : Int) : Bool := good xs ys && isNd xs.length x
noncomputable def wayR (xs ys : List Int) (x : Int) : List Int := if wayROk xs ys x then wayL xs x.toNat else []
theorem wayR_len (xs ys : List Int) (x : Int) (hn : xs.length ≤ 1048576) : (wayR xs ys x).length ≤ 2000000 := by
  unfold wayR; split
  · have := way_len xs x.toNat; rename_i hr; unfold wayROk at hr; simp only [Bool.and_eq_true] at hr; obtain ⟨q, rfl, hq⟩ := nd_nat hr.2; simp only [Int.toNat_natCast] at *; omega
  · simp

set_option maxHeartbeats 400000 in
theorem specWayTo_any (A B : Option Addr) (c e : Nat) (xs ys : List Int) (x : Int) (w : World) (h : IntS w A xs) (k : IntS w B ys) (hx : Bd xs) (hy : Bd ys) (_hd : -9223372036854775808 ≤ x ∧ x ≤ 9223372036854775807) (hn : xs.length ≤ 1048576) (hm : ys.length ≤ 1048576) :
    Calls Tryz.prog 26 #[.agg #[.slice A xs.length c, .slice B ys.length e], .int .i64 x] w (RetIB w (wayR xs ys x) (wayROk xs ys x)) := by
  have HN := Lib.hid (fun W (h : IntS W A xs) (k : IntS W B ys) => l2Node_any A B c e xs ys x W h k hx hy hn hm)
  change Hid (∀ W (h : IntS W A xs) (k : IntS W B ys), Calls _ _ _ W fun e1 w' => e1 = .returned (.bool (wayROk xs ys x)) ∧ _) at HN
  clear hx hy
  obtain ⟨g, hg⟩ : ∃ g, wayROk xs ys x = g := ⟨_, rfl⟩
  cases g
  · have hR : wayR xs ys x = [] := by unfold wayR; rw [hg]; rfl
    rw [hR, hg]
    rw [hg] at HN
    clear hg hR
    go_enter Tryz.func26, Tryz.ntmps26
    go_wp2_with fail
    refine (HN.out _ (h.alloc _) (k.alloc _)).mono ?_
    rintro e1 w1 ⟨rfl, hb1⟩
    have hb2 := below_alloc hb1
    go_wp2
    go_ret2
    exact ⟨_, _, rfl, .inr ⟨_, rfl, hb2.size, ⟨#[], heap_alloc_new _ _, [], rfl⟩⟩, keep_below_alloc hb2 _⟩
  · have hR : wayR xs ys x = wayL xs x.toNat := by unfold wayR; rw [hg]; rfl
    have hok := hg
    unfold wayROk at hok
    simp only [Bool.and_eq_true] at hok
    obtain ⟨q, rfl, hq⟩ := nd_nat hok.2
    replace hok := hok.1
    have HK := Lib.hid (fun W (h : IntS W A xs) (k : IntS W B ys) => (fun (hg : good xs ys = true) => l2Way_any hg A B c ys.length e q W h hq) hok)
    rw [hR, hg]
    rw [hg] at HN
    clear hg hR hok
    go_enter Tryz.func26, Tryz.ntmps26
    go_wp2_with fail
    refine (HN.out _ (h.alloc _) (k.alloc _)).mono ?_
    rintro e1 w1 ⟨rfl, hb1⟩
    have hb2 := below_alloc hb1
    have hx0 := keep_cell hb1 (cell_new _ _ _ 0 _ rfl)
    have hx1 := keep_cell hb1 (cell_new _ _ _ 1 _ rfl)
    simp at hx0 hx1
    go_wp2_with fail
    refine (HK.out _ (h.below hb2) (k.below hb2)).mono ?_
    rintro e1 w9 ⟨A', c', rfl, ho, hb9⟩
    go_wp2
    go_ret2
    exact ⟨_, _, rfl, ho.mono hb2.size, keep_below hb9 hb2⟩

set_option maxHeartbeats 400000 in
theorem implWayTo_any (A B : Option Addr) (c e : Nat) (xs ys : List Int) (x : Int) (w : World) (h : IntS w A xs) (k : IntS w B ys) (hx : Bd xs) (hy : Bd ys) (_hd : -9223372036854775808 ≤ x ∧ x ≤ 9223372036854775807) (hn : xs.length ≤ 1048576) (hm : ys.length ≤ 1048576) :
    Calls Tryz.prog 25 #[.agg #[.slice A xs.length c, .slice B ys.length e], .int .i64 x] w (RetIB w (wayR xs ys x) (wayROk xs ys x)) := by
  cases hg : good xs ys
  case false =>
    have hR : wayR xs ys x = [] := by unfold wayR wayROk; rw [hg]; rfl
    have hO : wayROk xs ys x = false := by unfold wayROk; rw [hg]; rfl
    have HG := Lib.hid (fun W (h : IntS W A xs) (k : IntS W B ys) => isTree_r hg A B c e W h k hx hy hn hm)
    rw [hR, hO]
    clear hx hy hg hR hO
    go_enter Tryz.func25, Tryz.ntmps25
    go_wp2_with fail
    refine (HG.out _ (h.alloc _) (k.alloc _)).mono ?_
    rintro e1 w1 ⟨rfl, hb1⟩
    go_wp2
    go_ret2
    exact ⟨none, 0, rfl, .inl ⟨rfl, rfl⟩, below_alloc hb1⟩
  case true =>
    have HG := Lib.hid (fun W (h : IntS W A xs) (k : IntS W B ys) => isTree_r hg A B c e W h k hx hy hn hm)
    have HN := Lib.hid (fun W => isNode_any A B c ys.length e xs.length x W hn)
    obtain ⟨r, hr⟩ : ∃ r, isNd xs.length x = r := ⟨_, rfl⟩
    have hO : wayROk xs ys x = r := by unfold wayROk; rw [hg, hr]; rfl
    have hR : wayR xs ys x = if r then wayL xs x.toNat else [] := by unfold wayR; rw [hO]
    rw [hR, hO]
    rw [hr] at HN
    clear hx hy hR hO
    cases r
    case false =>
      clear hr hg
      go_enter Tryz.func25, Tryz.ntmps25
      go_wp2_with fail
      refine (HG.out _ (h.alloc _) (k.alloc _)).mono ?_
      rintro e1 w1 ⟨rfl, hb1⟩
      have hb2 := below_alloc hb1
      have hx0 := keep_cell hb1 (cell_new _ _ _ 0 _ rfl)
      have hx1 := keep_cell hb1 (cell_new _ _ _ 1 _ rfl)
      simp at hx0 hx1
      go_wp2_with fail
      refine (HN.out _).mono ?_
      rintro e1 w2 ⟨rfl, hb3⟩
      go_wp2
      go_ret2
      exact ⟨none, 0, rfl, .inl ⟨rfl, rfl⟩, keep_below hb3 hb2⟩
    obtain ⟨q, rfl, hq⟩ := nd_nat hr
    have HK := Lib.hid (fun W (h : IntS W A xs) (k : IntS W B ys) => way_any hg A B c ys.length e q W h hq)
    clear hr hg
    rw [if_pos rfl]
    go_enter Tryz.func25, Tryz.ntmps25
    go_wp2_with fail
    refine (HG.out _ (h.alloc _) (k.alloc _)).mono ?_
    rintro e1 w1 ⟨rfl, hb1⟩
    have hb2 := below_alloc hb1
    have hx0 := keep_cell hb1 (cell_new _ _ _ 0 _ rfl)
    have hx1 := keep_cell hb1 (cell_new _ _ _ 1 _ rfl)
    simp at hx0 hx1
    go_wp2_with fail
    refine (HN.out _).mono ?_
    rintro e1 w2 ⟨rfl, hb3⟩
    have hx0 := keep_cell hb3 hx0
    have hx1 := keep_cell hb3 hx1
    have hb4 := keep_below hb3 hb2
    go_wp2_with fail
    refine (HK.out _ (h.below hb4) (k.below hb4)).mono ?_
    rintro e1 w9 ⟨A', c', rfl, ho, hb9⟩
    go_wp2
    go_ret2
    exact ⟨_, _, rfl, ho.mono hb4.size, keep_below hb9 hb4⟩
end Go.Proofs.YtgccidkkfalaeaaGreatDoor
