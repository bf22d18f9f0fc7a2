/- Contracts: the way to a node. -/
import Derived.Test.YtombfbmcplefgaaRev
namespace Go.Proofs.Ytombfbmcplefgaa
open Go.ChangeShapes Go.WideShapes Go.ChangeAt Go.RowKit

/-- The nodes from x up to the root (k steps at most). -/
def upL (xs : List Int) : Nat → Nat → List Int
  | 0, x => [(x : Int)]
  | k + 1, x => if x = 0 then [0] else (x : Int) :: upL xs k (nth xs x).toNat
def up (xs : List Int) (x : Nat) : List Int := upL xs x x
/-- The way from the root to x. -/
def wayL (xs : List Int) (x : Nat) : List Int := (up xs x).reverse
theorem upL_more {xs : List Int} (hu : ∀ j, 1 ≤ j → j < xs.length → ∃ p : Nat, nth xs j = p ∧ p < j) (k : Nat) : ∀ x, x ≤ k → x < xs.length → upL xs k x = upL xs x x := by
  induction k using Nat.strongRecOn with
  | ind k ih =>
    intro x hx hl
    by_cases h0 : x = 0
    · subst h0; cases k <;> simp [upL]
    · obtain ⟨p, hp, hpx⟩ := hu x (by omega) hl
      obtain ⟨k, rfl⟩ : ∃ i, k = i + 1 := ⟨k - 1, by omega⟩
      obtain ⟨y, rfl⟩ : ∃ y, x = y + 1 := ⟨x - 1, by omega⟩
      rw [upL, upL, if_neg h0, if_neg h0, hp]
      show _ :: upL xs k p = _ :: upL xs y p
      rw [ih k (by omega) p (by omega) (by omega)]
      by_cases e : y = k
      · subst e; rw [ih y (by omega) p (by omega) (by omega)]
      · rw [ih y (by omega) p (by omega) (by omega)]
theorem up_zero (xs : List Int) : up xs 0 = [0] := rfl
theorem up_step {xs : List Int} (hu : ∀ j, 1 ≤ j → j < xs.length → ∃ p : Nat, nth xs j = p ∧ p < j) {x p : Nat} (h1 : 1 ≤ x) (hx : x < xs.length) (hp : nth xs x = p) (hpx : p < x) : up xs x = (x : Int) :: up xs p := by
  unfold up
  obtain ⟨y, rfl⟩ : ∃ y, x = y + 1 := ⟨x - 1, by omega⟩
  rw [upL, if_neg (by omega), hp]
  show _ :: upL xs y p = _
  rw [upL_more hu y p (by omega) (by omega)]
theorem way_zero (xs : List Int) : wayL xs 0 = [0] := rfl
theorem way_step {xs : List Int} (hu : ∀ j, 1 ≤ j → j < xs.length → ∃ p : Nat, nth xs j = p ∧ p < j) {x p : Nat} (h1 : 1 ≤ x) (hx : x < xs.length) (hp : nth xs x = p) (hpx : p < x) : wayL xs x = wayL xs p ++ [(x : Int)] := by
  unfold wayL; rw [up_step hu h1 hx hp hpx]; simp
theorem upL_len (xs : List Int) (k : Nat) : ∀ x, 1 ≤ (upL xs k x).length ∧ (upL xs k x).length ≤ k + 1 := by
  induction k with
  | zero => intro x; simp [upL]
  | succ k ih =>
    intro x
    rw [upL]
    split
    · simp
    · have := ih (nth xs x).toNat; simp; omega
theorem up_len (xs : List Int) (x : Nat) : 1 ≤ (up xs x).length ∧ (up xs x).length ≤ x + 1 := upL_len xs x x
theorem way_len (xs : List Int) (x : Nat) : 1 ≤ (wayL xs x).length ∧ (wayL xs x).length ≤ x + 1 := by
  unfold wayL; rw [List.length_reverse]; exact up_len xs x
/-- The same, from a number below 0: nothing. -/
def upZ (xs : List Int) (x : Int) : List Int := if x < 0 then [] else up xs x.toNat
theorem upZ_step {xs : List Int} (hu : ∀ j, 1 ≤ j → j < xs.length → ∃ p : Nat, nth xs j = p ∧ p < j) (h0 : nth xs 0 = -1) {x : Nat} (hx : x < xs.length) : upZ xs x = (x : Int) :: upZ xs (nth xs x) := by
  unfold upZ
  rw [if_neg (by omega)]
  by_cases e : x = 0
  · subst e; rw [h0]; rfl
  · obtain ⟨p, hp, hpx⟩ := hu x (by omega) hx
    rw [hp, if_neg (by omega)]
    exact up_step hu (by omega) hx hp hpx
theorem par_bd {xs : List Int} (hu : ∀ j, 1 ≤ j → j < xs.length → ∃ p : Nat, nth xs j = p ∧ p < j) (h0 : nth xs 0 = -1) {x : Nat} (hx : x < xs.length) : -1 ≤ nth xs x ∧ nth xs x < x := by
  by_cases e : x = 0
  · subst e; rw [h0]; omega
  · obtain ⟨p, hp, hpx⟩ := hu x (by omega) hx
    rw [hp]; omega

set_option maxHeartbeats 1000000 in
set_option maxRecDepth 100000 in
theorem l2Way_any {xs ys : List Int} (hg : good xs ys = true) (A B : Option Addr) (c m e x : Nat) (w : World) (h : IntS w A xs) (hx : x < xs.length) :
    Calls Try.prog 79 #[.agg #[.slice A xs.length c, .slice B m e], .int .i64 x] w (RetI w (wayL xs x)) := by
  obtain ⟨i0, hi, hz0, hz1, hz2⟩ := info_parts info_int
  have HU := Lib.hid (good_upL hg)
  have hgl := good_len hg
  obtain ⟨R, hR⟩ : ∃ R, wayL xs x = R := ⟨_, rfl⟩
  have HW : Hid (∃ L, [(x : Int)] = (x : Int) :: L ∧ wayL xs x ++ L = R) := ⟨[], rfl, by rw [← hR]; exact List.append_nil _⟩
  rw [hR]
  obtain ⟨n, hn'⟩ : ∃ n, n = xs.length := ⟨_, rfl⟩
  have HN : Hid (n = xs.length) := hn'
  rw [← hn'] at hgl hx HU ⊢
  obtain ⟨hn1, hn, _⟩ := hgl
  have HS : Hid (∀ q p, 1 ≤ q → q < n → nth xs q = ((p : Nat) : Int) → p < q → wayL xs q = wayL xs p ++ [(q : Int)]) := fun q p h1 h2 h3 h4 => way_step (good_upL hg) h1 (by rw [← hn']; exact h2) h3 h4
  clear hn' hg hR
  go_enter Try.func79, Try.ntmps79
  go_wp2
  go_loopw [1, 5] (fun xv v wr => ∃ (q g cap : Nat) (M : List Int), q ≤ x ∧ xv = .int .i64 q ∧ v = .slice (some ⟨g, 0, none⟩) M.length cap ∧ w.heap.size + 1 ≤ g ∧ Row wr g M ∧ Hid (∃ L, M = (q : Int) :: L ∧ wayL xs q ++ L = R) ∧ M.length + q ≤ x + 1 ∧ wr.cell? ⟨w.heap.size, 0, none⟩ = some (.slice A n c) ∧ Below w.heap.size w wr) (fun xv _ _ => (intOf xv).toNat)
  case atStart => exact ⟨x, w.heap.size + 1, 1, [(x : Int)], Nat.le_refl _, rfl, rfl, by omega, (Row.new' _ [(x : Int)] _ (by simp)), HW, by simp; omega, by simp, by (repeat (first | with_reducible exact Below.refl _ _ | with_reducible assumption | with_reducible refine Below.alloc' ?_ ?_ _ | with_reducible refine Below.setCell' ?_ ?_ _ | with_reducible refine Below.drewN' ?_ _ | with_reducible refine Below.drew ?_ | with_reducible refine Below.transA ?_ (by assumption) ?_ | omega | (focus (simp; done)) | (focus (simp; omega))))⟩
  case round =>
    clear HW
    obtain ⟨q, g, cap, M, hq, rfl, rfl, hg, hrow, HM, hl, hbx, hb1⟩ := hrel
    by_cases hz : q = 0
    case neg =>
      have hq0 : 0 < q := by omega
      obtain ⟨b, o, rfl, hc⟩ := (h.below hb1).at_ (j := q) (by rw [← HN.out]; omega)
      obtain ⟨p, hp, hpq⟩ := HU.out q (by omega) (by omega)
      have HM' : Hid (∃ L, (p : Int) :: M = (p : Int) :: L ∧ wayL xs p ++ L = R) := by
        obtain ⟨L, h1, h2⟩ := HM.out
        exact ⟨M, rfl, by rw [h1, ← h2, HS.out q p (by omega) (by omega) hp hpq]; simp⟩
      rw [hp] at hc
      have hws := hb1.size
      have hown := own_one wr (w.heap.size + 1) wr.heap.size p rfl (by have := hrow.lt; omega)
      have HC := ((hrow.alloc (.cells #[.int .i64 p] 3)).ints).cells
      have H1 := i64s_one M
      have HL := i64s_len M
      have hgl := hrow.lt
      clear hp hz HM HU HS hrow
      go_wp2_with (at_builtin; refine wpList_append_own_at _ rfl _ _ 22 rfl (w.heap.size + 1) 3 i0 (.int .i64 0) 1 8 Try.underlying22 hi hz0 hz1 hz2 rfl (by decide) _ _ _ rfl hown ⟨g, 0, none⟩ _ cap (i64s M) rfl HL HC H1 (by unfold maxLen; omega) (by omega) (by simp; omega) ?_; intro v' w1 hown1 hgrow _ _)
      have hbx1 := grown_cell hgrow (p := ⟨w.heap.size, 0, none⟩) (by rw [World.cell?_alloc_lt _ _ _ (World.block_lt_of_cell? _ _ hbx)]; exact hbx) (own_ne (g := w.heap.size) hown (by omega))
      have hb3 : Below w.heap.size w w1 := Below.grown (hb1.alloc hb1.size _) hgrow (by simp; omega) (fun g hg => by have := (hown.lt g hg).1; omega)
      obtain ⟨A', c', rfl, hO⟩ := own_form (xs := (p : Int) :: M) hown1
      obtain ⟨g', rfl, hg', hrow'⟩ := hO.pos (by simp)
      clear hown hown1 hgrow hbx hb1 HC H1 HL hO
      go_wp2
      go_roundw
      case rel => exact ⟨p, g', c', (p : Int) :: M, by omega, rfl, rfl, by omega, hrow', HM', by simp; omega, hbx1, hb3⟩
      case measure => simp [intOf]; omega
    case pos =>
      obtain ⟨L, h1, h2⟩ := HM.out
      have hMR : M = R := by rw [← h2, h1, hz]; rfl
      subst hMR
      clear h1 h2 HM HU HS
      subst hz
      go_wp2
      go_ret
      exact ⟨_, cap, rfl, .inr ⟨g, rfl, by omega, hrow⟩, hb1⟩
set_option maxHeartbeats 1000000 in
set_option maxRecDepth 100000 in
theorem way_any {xs ys : List Int} (hg : good xs ys = true) (A B : Option Addr) (c m e x : Nat) (w : World) (h : IntS w A xs) (hx : x < xs.length) :
    Calls Try.prog 145 #[.agg #[.slice A xs.length c, .slice B m e], .int .i64 x] w (RetI w (wayL xs x)) := by
  obtain ⟨i0, hi, hz0, hz1, hz2⟩ := info_parts info_int
  have HU : Hid (∀ q, q < xs.length → upZ xs (q : Nat) = (q : Int) :: upZ xs (nth xs q) ∧ -1 ≤ nth xs q ∧ nth xs q < q) := fun q hq => ⟨upZ_step (good_upL hg) (good_root hg) hq, par_bd (good_upL hg) (good_root hg) hq⟩
  have hgl := good_len hg
  have HW : Hid ([] ++ upZ xs x = up xs x) := by show _ = _; unfold upZ; rw [if_neg (by omega)]; simp
  have HR : Hid (wayL xs x = (up xs x).reverse) := rfl
  have hul := up_len xs x
  generalize wayL xs x = R at *
  generalize up xs x = V at *
  obtain ⟨n, hn'⟩ : ∃ n, n = xs.length := ⟨_, rfl⟩
  have HN : Hid (n = xs.length) := hn'
  rw [← hn'] at hgl hx HU ⊢
  obtain ⟨hn1, hn, _⟩ := hgl
  clear hn' hg
  go_enter Try.func145, Try.ntmps145
  go_wp2
  go_loopw [1, 5] (fun xv v wr => ∃ (y : Int) (U : List Int), -1 ≤ y ∧ y ≤ x ∧ xv = .int .i64 y ∧ wr.ownsRow (w.heap.size + 1) 3 1 v U.length (i64s U) ∧ Hid (U ++ upZ xs y = V) ∧ (U.length : Int) + y ≤ x ∧ wr.cell? ⟨w.heap.size, 0, none⟩ = some (.slice A n c) ∧ Below w.heap.size w wr) (fun xv _ _ => (intOf xv + 1).toNat)
  case atStart => exact ⟨x, [], by omega, by omega, rfl, own_empty _ _ _ (by simp) (by simp), HW, by simp, by simp, by (repeat (first | with_reducible exact Below.refl _ _ | with_reducible assumption | with_reducible refine Below.alloc' ?_ ?_ _ | with_reducible refine Below.setCell' ?_ ?_ _ | with_reducible refine Below.drewN' ?_ _ | with_reducible refine Below.drew ?_ | with_reducible refine Below.transA ?_ (by assumption) ?_ | omega | (focus (simp; done)) | (focus (simp; omega))))⟩
  case round =>
    clear HW
    obtain ⟨y, U, hy, hyx, rfl, hown, HV, hl, hbx, hb1⟩ := hrel
    by_cases hz : 0 ≤ y
    · obtain ⟨q, rfl⟩ := Int.eq_ofNat_of_zero_le hz
      obtain ⟨hs, hp1, hp2⟩ := HU.out q (by omega)
      have HV' : Hid ((U ++ [(q : Int)]) ++ upZ xs (nth xs q) = V) := by
        show _ = _; rw [← HV.out, hs]; simp
      have HP : Hid (i64s (U ++ [(q : Int)]) = i64s U ++ [Value.int .i64 (q : Int)] ∧ (U ++ [(q : Int)]).length = U.length + 1) := ⟨i64s_app _ _, by simp⟩
      obtain ⟨b, o, rfl, hc⟩ := h.at_ (j := q) (by rw [← HN.out]; omega)
      generalize nth xs q = p at *
      clear hs HV hz
      have hws := hb1.size
      have hw' : w.heap.size < wr.heap.size := World.block_lt_of_cell? _ _ hbx
      go_wp2_with (at_builtin; (refine wpList_append_own_at _ rfl _ _ 22 rfl (w.heap.size + 1) 3 i0 (.int .i64 0) 1 8 Try.underlying22 hi hz0 hz1 hz2 rfl (by decide) _ _ _ rfl (hown.alloc _) ⟨wr.heap.size, 0, none⟩ 1 1 [.int .i64 (q)] rfl rfl (cell_one_new _ _ _) (by simp [Value.oneCell']) (by unfold maxLen; omega) (by omega) (by simp; omega) ?_); intro v' w1 hown1 hgrow _ _; (have hbx1 := grown_cell hgrow (p := ⟨w.heap.size, 0, none⟩) (by rw [World.cell?_alloc_lt _ _ _ hw']; exact hbx) (own_ne (g := w.heap.size) hown (by omega))); (have hb3 : Below w.heap.size w w1 := Below.grown (hb1.alloc hb1.size _) hgrow (by simp; omega) (fun g hg => by have := (hown.lt g hg).1; omega)); (have hc1 := (hb3.cell (World.block_lt_of_cell? _ _ hc)).trans hc); rw [← HP.out.1, ← HP.out.2] at hown1; clear hown hgrow hbx hb1 hc)
      go_wp2
      go_roundw
      case rel => exact ⟨p, U ++ [(q : Int)], by omega, by omega, rfl, hown1, HV', by simp; omega, hbx1, hb3⟩
      case measure => simp [intOf]; omega
    · have hUV : U = V := by
        have := HV.out
        unfold upZ at this
        rw [if_pos (by omega)] at this
        simpa using this
      subst hUV
      have hneg : y < 0 := by omega
      obtain ⟨A', c', rfl, hO⟩ := own_form hown
      obtain ⟨g, rfl, hg, hrow⟩ := hO.pos hul.1
      have HK := Lib.hid (fun W (hr : Row W g U) => reverse_row g c' U W hr (by omega))
      have HL : Hid (U.length = R.length) := by show _ = _; rw [HR.out]; simp
      clear hown HV hz hO HU
      go_wp2_with fail
      refine (HK.out _ hrow).mono ?_
      rintro e1 w2 ⟨rfl, hrow2, hk2⟩
      rw [← HR.out] at hrow2
      go_wp2
      go_ret
      exact ⟨_, c', by rw [← HL.out]; rfl, .inr ⟨g, rfl, by omega, hrow2⟩, hk2.below hb1 (by omega) (by omega)⟩
end Go.Proofs.Ytombfbmcplefgaa
