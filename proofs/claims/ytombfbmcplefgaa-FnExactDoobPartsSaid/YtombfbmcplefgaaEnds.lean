/- Contracts: the ends of a tree. -/
import Derived.Test.YtombfbmcplefgaaRowB
namespace Go.Proofs.Ytombfbmcplefgaa
open Go.ChangeShapes Go.WideShapes Go.ChangeAt Go.RowKit

/-- The ends. -/
def endsL (xs : List Int) : List Int := pick (noKid xs xs.length) xs.length

set_option maxHeartbeats 1000000 in
set_option maxRecDepth 100000 in
theorem l2Ends_any (A B : Option Addr) (c m e : Nat) (xs : List Int) (w : World) (h : IntS w A xs) (hn : xs.length ≤ 1000) (hu : UpOk xs xs.length) (h0 : nth xs 0 = -1) :
    Calls Try.prog 78 #[.agg #[.slice A xs.length c, .slice B m e]] w (RetI w (endsL xs)) := by
  obtain ⟨i0, hi, hz0, hz1, hz2⟩ := info_parts info_int
  have HK := Lib.hid (fun W (x : Nat) (hxl : x < xs.length) (h : IntS W A xs) => l2Kids_any A B c m e x xs W h (by omega) hxl)
  have HE := Lib.hid (fun q => kids_noKid hu h0 q)
  unfold endsL
  obtain ⟨n, hn'⟩ : ∃ n, n = xs.length := ⟨_, rfl⟩
  have HN : Hid (n = xs.length) := hn'
  rw [← hn'] at hn HK HE ⊢
  clear hn' hu h0
  go_enter Try.func78, Try.ntmps78
  go_wp2
  go_loopw [3, 4] (fun v i wr => ∃ k : Nat, k ≤ n ∧ i = .int .i64 k ∧ wr.ownsRow (w.heap.size + 1) 3 1 v (pick (noKid xs n) k).length (i64s (pick (noKid xs n) k)) ∧ wr.cell? ⟨w.heap.size, 0, none⟩ = some (.slice A n c) ∧ wr.cell? ⟨w.heap.size, 1, none⟩ = some (.slice B m e) ∧ Below w.heap.size w wr) (fun _ i _ => n - (intOf i).toNat)
  case atStart =>
    refine ⟨0, by omega, rfl, ?_, by simp, by simp, by (repeat (first | with_reducible exact Below.refl _ _ | with_reducible assumption | with_reducible refine Below.alloc' ?_ ?_ _ | with_reducible refine Below.setCell' ?_ ?_ _ | with_reducible refine Below.drewN' ?_ _ | with_reducible refine Below.drew ?_ | with_reducible refine Below.transA ?_ (by assumption) ?_ | omega | (focus (simp; done)) | (focus (simp; omega))))⟩
    rw [pick_zero]
    exact own_empty _ _ _ (by simp) (by simp)
  case round =>
    obtain ⟨k, hk, rfl, hown, hbx, hby, hb1⟩ := hrel
    have hlen := pick_len (noKid xs n) k
    by_cases hlt : k < n
    · have hke := HE.out k
      go_wp2_with fail
      refine (HK.out _ k hlt (h.below hb1)).mono ?_
      rintro e1 w2 ⟨A1, c1, rfl, ho, hb2⟩
      replace hown := own_below hown hb2
      replace hbx := keep_cell hb2 hbx
      replace hby := keep_cell hb2 hby
      replace hb1 := keep_below hb2 hb1
      clear ho hb2
      have hw' : w.heap.size < w2.heap.size := World.block_lt_of_cell? _ _ hbx
      have hpn := pick_len (isKid xs k) n
      generalize pick (isKid xs k) n = K at *
      cases hy : noKid xs n k
      · have hz : ((K.length : Int) == 0) = false := by rw [hy] at hke; simp at hke ⊢; omega
        have hp := pick_no hy
        rw [← hp] at hown
        clear hp hy hke
        go_wp2
        go_roundw
        case rel => exact ⟨k + 1, by omega, by go_num, hown, hbx, hby, hb1⟩
        case measure => simp only [intOf]; omega
      · have hz : ((K.length : Int) == 0) = true := by rw [hy] at hke; simp at hke ⊢; omega
        have hp := pick_yes hy
        have HP : Hid (i64s (pick (noKid xs n) (k + 1)) = i64s (pick (noKid xs n) k) ++ [Value.int .i64 (k : Int)] ∧ (pick (noKid xs n) (k + 1)).length = (pick (noKid xs n) k).length + 1) := by
          rw [hp]; exact ⟨i64s_app _ _, by simp⟩
        clear hp hy hke
        generalize pick (noKid xs n) k = P at *
        go_wp2_with (at_builtin; refine wpList_append_own_at _ rfl _ _ 22 rfl (w.heap.size + 1) 3 i0 (.int .i64 0) 1 8 Try.underlying22 hi hz0 hz1 hz2 rfl (by decide) _ _ _ rfl (hown.alloc _) ⟨w2.heap.size, 0, none⟩ 1 1 [.int .i64 k] rfl rfl (cell_one_new _ _ _) (by simp [Value.oneCell']) (by unfold maxLen; omega) (by omega) (by simp; omega) ?_; intro v' w1 hown1 hgrow _ _)
        have hbx1 := grown_cell hgrow (p := ⟨w.heap.size, 0, none⟩) (by rw [World.cell?_alloc_lt _ _ _ hw']; exact hbx) (own_ne (g := w.heap.size) hown (by omega))
        have hby1 := grown_cell hgrow (p := ⟨w.heap.size, 1, none⟩) (by rw [World.cell?_alloc_lt _ _ _ hw']; exact hby) (own_ne (g := w.heap.size) hown (by omega))
        have hb3 : Below w.heap.size w w1 := Below.grown (hb1.alloc (by omega) _) hgrow (by simp; omega) (fun g hg => by have := (hown.lt g hg).1; omega)
        rw [← HP.out.1, ← HP.out.2] at hown1
        clear hown hgrow hbx hby hb1 HP
        go_wp2
        go_roundw
        case rel => exact ⟨k + 1, by omega, by go_num, hown1, hbx1, hby1, hb3⟩
        case measure => simp only [intOf]; omega
    · have hkn : k = n := by omega
      rw [hkn] at hown
      obtain ⟨A', c', rfl, hO⟩ := own_form hown
      clear hkn hown
      go_wp2
      go_ret
      exact ⟨A', c', rfl, hO.mono (by omega), hb1⟩

set_option maxHeartbeats 1000000 in
set_option maxRecDepth 100000 in
theorem ends_any (A B : Option Addr) (c m e : Nat) (xs : List Int) (w : World) (h : IntS w A xs) (hn : xs.length ≤ 1000) (hu : UpOk xs xs.length) (h0 : nth xs 0 = -1) :
    Calls Try.prog 126 #[.agg #[.slice A xs.length c, .slice B m e]] w (RetI w (endsL xs)) := by
  obtain ⟨i0, hi, hz0, hz1, hz2⟩ := info_parts info_int
  have HE := Lib.hid (fun W (h : IntS W A xs) => isEnd_any A B c m e xs W h hn (Lib.hid (hu.lt h0)))
  unfold endsL
  obtain ⟨n, hn'⟩ : ∃ n, n = xs.length := ⟨_, rfl⟩
  rw [← hn'] at hn HE ⊢
  clear hn' hu h0
  go_enter Try.func126, Try.ntmps126
  go_wp2_with fail
  refine (HE.out _ ((h.alloc _).alloc _)).mono ?_
  rintro e1 w1 ⟨g, rfl, hrb, hg, hb1⟩
  have hown0 := own_below (own_empty (w.alloc (.cells #[.slice A n c, .slice B m e] 28)) (w.heap.size + 1) (w.heap.size + 1) (by simp) (by simp)) hb1
  replace hb1 : Below w.heap.size w w1 := below_alloc (below_alloc hb1)
  replace hg : w.heap.size + 1 ≤ g := by simp at hg; omega
  generalize noKid xs n = f at *
  go_wp2
  go_loopw [3, 4, 5, 10] (fun v _ _ i wr => ∃ k : Nat, k ≤ n ∧ i = .int .i64 k ∧ wr.ownsRow (w.heap.size + 1) 3 1 v (pick f k).length (i64s (pick f k)) ∧ RowB wr g n f ∧ Below w.heap.size w wr) (fun _ _ _ i _ => n - (intOf i).toNat)
  case atStart => exact ⟨0, by omega, rfl, hown0, hrb, hb1⟩
  case round =>
    clear hown0 hrb hb1
    obtain ⟨k, hk, rfl, hown, hrb, hb1⟩ := hrel
    have hgl := hrb.lt
    have hlen := pick_len f k
    by_cases hlt : k < n
    · have hc := hrb.cell hlt
      cases hy : f k
      · rw [hy] at hc
        have hp := pick_no hy
        rw [← hp] at hown
        clear hp hy
        go_wp2
        go_roundw
        case rel => exact ⟨k + 1, by omega, by go_num, hown, hrb, hb1⟩
        case measure => simp only [intOf]; omega
      · rw [hy] at hc
        have hp := pick_yes hy
        have HP : Hid (i64s (pick f (k + 1)) = i64s (pick f k) ++ [Value.int .i64 (k : Int)] ∧ (pick f (k + 1)).length = (pick f k).length + 1) := by
          rw [hp]; exact ⟨i64s_app _ _, by simp⟩
        clear hp hy
        generalize pick f k = P at *
        go_wp2_with (at_builtin; (refine wpList_append_own_at _ rfl _ _ 22 rfl (w.heap.size + 1) 3 i0 (.int .i64 0) 1 8 Try.underlying22 hi hz0 hz1 hz2 rfl (by decide) _ _ _ rfl (hown.alloc _) ⟨wr.heap.size, 0, none⟩ 1 1 [.int .i64 (k)] rfl rfl (cell_one_new _ _ _) (by simp [Value.oneCell']) (by unfold maxLen; omega) (by omega) (by simp; omega) ?_); intro v' w1 hown1 hgrow _ hat)
        have hrb1 := (hrb.alloc (.cells #[.int .i64 k] 3)).grown hgrow (hrb.ne hown)
        have hb3 : Below w.heap.size w w1 := Below.grown (hb1.alloc hb1.size _) hgrow (by simp; have := hb1.size; omega) (fun g hg => by have := (hown.lt g hg).1; omega)
        rw [← HP.out.1, ← HP.out.2] at hown1
        clear hown hgrow hrb hb1 HP
        go_wp2
        go_roundw
        case rel => exact ⟨k + 1, by omega, by go_num, hown1, hrb1, hb3⟩
        case measure => simp only [intOf]; omega
    · have hkn : k = n := by omega
      rw [hkn] at hown
      obtain ⟨A', c', rfl, hO⟩ := own_form hown
      clear hkn hown
      go_wp2
      go_ret
      exact ⟨A', c', rfl, hO.mono (by omega), hb1⟩
end Go.Proofs.Ytombfbmcplefgaa
