/- Contracts: the cut of a tree at a time. -/
import Derived.Test.YtombfbmcplefgaaEnds
namespace Go.Proofs.Ytombfbmcplefgaa
open Go.ChangeShapes Go.WideShapes Go.ChangeAt Go.RowKit

/-- Node x is in the cut at time d. -/
def inCut (xs ys : List Int) (d : Int) (x : Nat) : Bool := nth (dep xs xs.length) x == d || (decide (nth (dep xs xs.length) x < d) && decide (0 < nth ys x))
def cutL (xs ys : List Int) (d : Int) : List Int := pick (inCut xs ys d) xs.length
theorem wt_end {xs ys : List Int} (h : good xs ys = true) {x : Nat} (hx : x < xs.length) : decide (0 < nth ys x) = noKid xs xs.length x := by
  have := (good_iff.1 h).2.2 x hx
  unfold wtOk at this
  split at this
  · rename_i hk; have := of_decide_eq_true this; rw [hk]; simp; omega
  · rename_i hk; have h0 : nth ys x = 0 := by simpa using this
    rw [h0]; simp at hk ⊢; exact hk

set_option maxHeartbeats 1000000 in
set_option maxRecDepth 100000 in
theorem l2CutAt_any {xs ys : List Int} (hg : good xs ys = true) (A B : Option Addr) (c e : Nat) (d : Int) (w : World) (h : IntS w A xs) (k : IntS w B ys) :
    Calls Try.prog 135 #[.agg #[.slice A xs.length c, .slice B ys.length e], .int .i64 d] w (RetI w (cutL xs ys d)) := by
  obtain ⟨i0, hi, hz0, hz1, hz2⟩ := info_parts info_int
  have hgl := good_len hg
  have HD := Lib.hid (fun W (h : IntS W A xs) => l2Depths_any A B c ys.length e xs W h hgl.1 (by omega) (good_iff.1 hg).2.1)
  have HF := Lib.hid (fun x => show inCut xs ys d x = (nth (dep xs xs.length) x == d || (decide (nth (dep xs xs.length) x < d) && decide (0 < nth ys x))) from rfl)
  have HL : Hid ((dep xs xs.length).length = xs.length) := dep_len _ _
  unfold cutL
  generalize inCut xs ys d = f at *
  generalize dep xs xs.length = D at *
  obtain ⟨n, hn'⟩ : ∃ n, n = xs.length := ⟨_, rfl⟩
  have HN : Hid (n = ys.length) := by show _ = _; rw [hn']; exact hgl.2.2.symm
  obtain ⟨hn1, hn, hyl⟩ := hgl
  rw [hyl] at HD ⊢
  rw [← hn'] at hn hn1 HD HL ⊢
  clear hn' hg hyl
  go_enter Try.func135, Try.ntmps135
  go_wp2_with fail
  refine (HD.out _ ((h.alloc _).alloc _)).mono ?_
  rintro e1 w1 ⟨A1, c1, he1, ho, hb1⟩
  rw [HL.out] at he1
  subst he1
  have hown0 := own_below (own_empty (w.alloc (.cells #[.slice A n c, .slice B n e] 28)) (w.heap.size + 1) (w.heap.size + 1) (by simp) (by simp)) hb1
  have hx1 : w1.cell? ⟨w.heap.size, 1, none⟩ = some (.slice B n e) := keep_cell hb1 (by simp)
  replace ho := ho.pos (by rw [HL.out]; exact hn1)
  replace hb1 := below_alloc (below_alloc hb1)
  obtain ⟨g, rfl, hg, hrow⟩ := ho
  replace hg : w.heap.size + 1 < g := by simp at hg; omega
  have hgl := hrow.lt
  go_wp2
  go_loopw [5, 7] (fun v i wr => ∃ j : Nat, j ≤ n ∧ i = .int .i64 j ∧ wr.ownsRow (w.heap.size + 1) 3 1 v (pick f j).length (i64s (pick f j)) ∧ v.ownBlock ≠ some g ∧ Row wr g D ∧ wr.cell? ⟨w.heap.size, 1, none⟩ = some (.slice B n e) ∧ Below w.heap.size w wr) (fun _ i _ => n - (intOf i).toNat)
  case atStart => exact ⟨0, by omega, rfl, hown0, by simp [Value.ownBlock]; omega, hrow, hx1, hb1⟩
  case round =>
    clear hown0 hrow hb1 hx1 hgl HD
    obtain ⟨j, hj, rfl, hown, hne, hrow, hx1, hb1⟩ := hrel
    have hgl := hrow.lt
    have hlen := pick_len f j
    by_cases hlt : j < n
    · have hc := hrow.cell (j := j) (by rw [HL.out]; exact hlt)
      obtain ⟨b, o, rfl, hc2⟩ := (k.below hb1).at_ (j := j) (by rw [← HN.out]; exact hlt)
      have hf := HF.out j
      generalize nth D j = a at *
      generalize nth ys j = y at *
      cases hy : f j
      · have hp := pick_no hy
        rw [← hp] at hown
        rw [hy] at hf
        clear hp hy
        have hq : (a == d) = false := (Bool.or_eq_false_iff.1 hf.symm).1
        rw [hq] at hf
        by_cases hl : a < d
        · have hl' : decide (a < d) = true := by simpa using hl
          have hy0 : decide (0 < y) = false := by rw [hl'] at hf; simpa using hf.symm
          clear hf hl
          go_wp2
          go_roundw
          case rel => exact ⟨j + 1, by omega, by go_num, hown, hne, hrow, hx1, hb1⟩
          case measure => simp only [intOf]; omega
        · have hl' : decide (a < d) = false := by simpa using hl
          clear hf hl
          go_wp2
          go_roundw
          case rel => exact ⟨j + 1, by omega, by go_num, hown, hne, hrow, hx1, hb1⟩
          case measure => simp only [intOf]; omega
      · have hp := pick_yes hy
        have HP : Hid (i64s (pick f (j + 1)) = i64s (pick f j) ++ [Value.int .i64 (j : Int)] ∧ (pick f (j + 1)).length = (pick f j).length + 1) := by
          rw [hp]; exact ⟨i64s_app _ _, by simp⟩
        rw [hy] at hf
        clear hp hy
        generalize pick f j = P at *
        have hgo : (a == d) = true ∨ (a == d) = false ∧ decide (a < d) = true ∧ decide (0 < y) = true := by
          rcases Bool.or_eq_true_iff.1 hf.symm with h1 | h1
          · exact .inl h1
          · cases hq : (a == d)
            · exact .inr ⟨rfl, Bool.and_eq_true_iff.1 h1⟩
            · exact .inl rfl
        clear hf
        rcases hgo with hq | ⟨hq, hl', hy0⟩
        all_goals
          go_wp2_with (at_builtin; (refine wpList_append_own_at _ rfl _ _ 22 rfl (w.heap.size + 1) 3 i0 (.int .i64 0) 1 8 Try.underlying22 hi hz0 hz1 hz2 rfl (by decide) _ _ _ rfl (hown.alloc _) ⟨wr.heap.size, 0, none⟩ 1 1 [.int .i64 (j)] rfl rfl (cell_one_new _ _ _) (by simp [Value.oneCell']) (by unfold maxLen; omega) (by omega) (by simp; omega) ?_); intro v' w1 hown1 hgrow _ hat)
          have hrow1 := (hrow.alloc (.cells #[.int .i64 j] 3)).grown hgrow (fun e => hne e.symm)
          have hx2 := grown_cell hgrow (p := ⟨w.heap.size, 1, none⟩) (by rw [World.cell?_alloc_lt _ _ _ (World.block_lt_of_cell? _ _ hx1)]; exact hx1) (own_ne (g := w.heap.size) hown (by omega))
          have hb3 : Below w.heap.size w w1 := Below.grown (hb1.alloc hb1.size _) hgrow (by simp; have := hb1.size; omega) (fun g hg => by have := (hown.lt g hg).1; omega)
          have hne1 : v'.ownBlock ≠ some g := by
            rcases hat with e | e
            · rw [e]; exact hne
            · rw [e]; simp; omega
          rw [← HP.out.1, ← HP.out.2] at hown1
          clear hown hgrow hrow hb1 HP hx1 hne
          go_wp2
          go_roundw
          case rel => exact ⟨j + 1, by omega, by go_num, hown1, hne1, hrow1, hx2, hb3⟩
          case measure => simp only [intOf]; omega
    · have hkn : j = n := by omega
      rw [hkn] at hown
      obtain ⟨A', c', rfl, hO⟩ := own_form hown
      clear hkn hown
      go_wp2
      go_ret
      exact ⟨A', c', rfl, hO.mono (by omega), hb1⟩
set_option maxHeartbeats 1000000 in
set_option maxRecDepth 100000 in
theorem cut_any {xs ys : List Int} (hg : good xs ys = true) (A B : Option Addr) (c e : Nat) (d : Int) (w : World) (h : IntS w A xs) :
    Calls Try.prog 93 #[.agg #[.slice A xs.length c, .slice B ys.length e], .int .i64 d] w (RetI w (cutL xs ys d)) := by
  obtain ⟨i0, hi, hz0, hz1, hz2⟩ := info_parts info_int
  have hgl := good_len hg
  have HD := Lib.hid (fun W (h : IntS W A xs) => depths_any A B c ys.length e xs W h hgl.1 (by omega) (good_iff.1 hg).2.1)
  have HE := Lib.hid (fun W (h : IntS W A xs) => isEnd_any A B c ys.length e xs W h (by omega) (Lib.hid ((good_iff.1 hg).2.1.lt (good_iff.1 hg).1.2.2)))
  have HF := Lib.hid (fun x (hx : x < xs.length) => show inCut xs ys d x = (nth (dep xs xs.length) x == d || (decide (nth (dep xs xs.length) x < d) && noKid xs xs.length x)) from by rw [← wt_end hg hx]; rfl)
  have HL : Hid ((dep xs xs.length).length = xs.length) := dep_len _ _
  unfold cutL
  generalize inCut xs ys d = f at *
  generalize dep xs xs.length = D at *
  generalize noKid xs xs.length = E at *
  obtain ⟨n, hn'⟩ : ∃ n, n = xs.length := ⟨_, rfl⟩
  obtain ⟨hn1, hn, hyl⟩ := hgl
  rw [hyl] at HD HE ⊢
  rw [← hn'] at hn hn1 HD HE HF HL ⊢
  clear hn' hg hyl
  go_enter Try.func93, Try.ntmps93
  go_wp2_with fail
  refine (HD.out _ ((h.alloc _).alloc _)).mono ?_
  rintro e1 w1 ⟨A1, c1, he1, ho, hb1⟩
  rw [HL.out] at he1
  subst he1
  have hown0 := own_below (own_empty (w.alloc (.cells #[.slice A n c, .slice B n e] 28)) (w.heap.size + 1) (w.heap.size + 1) (by simp) (by simp)) hb1
  have hx0 : w1.cell? ⟨w.heap.size, 0, none⟩ = some (.slice A n c) := keep_cell hb1 (by simp)
  have hx1 : w1.cell? ⟨w.heap.size, 1, none⟩ = some (.slice B n e) := keep_cell hb1 (by simp)
  replace ho := ho.pos (by rw [HL.out]; exact hn1)
  replace hb1 := below_alloc (below_alloc hb1)
  obtain ⟨g, rfl, hg, hrow⟩ := ho
  replace hg : w.heap.size + 1 < g := by simp at hg; omega
  go_wp2_with fail
  refine (HE.out _ (h.below hb1)).mono ?_
  rintro e1 w2 ⟨ge, rfl, hrb, hge, hb2⟩
  replace hown0 := own_below hown0 hb2
  replace hge : w.heap.size + 1 < ge := by have := hrow.lt; omega
  replace hrow := hrow.below hb2
  replace hb1 := keep_below hb2 hb1
  have hgl := hrow.lt
  clear hx0 hx1 hb2
  go_wp2
  go_loopw [5, 7, 8, 15] (fun v _ _ i wr => ∃ j : Nat, j ≤ n ∧ i = .int .i64 j ∧ wr.ownsRow (w.heap.size + 1) 3 1 v (pick f j).length (i64s (pick f j)) ∧ v.ownBlock ≠ some g ∧ Row wr g D ∧ RowB wr ge n E ∧ Below w.heap.size w wr) (fun _ _ _ i _ => n - (intOf i).toNat)
  case atStart => exact ⟨0, by omega, rfl, hown0, by simp [Value.ownBlock]; omega, hrow, hrb, hb1⟩
  case round =>
    clear hown0 hrow hb1 hgl HD hrb
    obtain ⟨j, hj, rfl, hown, hne, hrow, hrb, hb1⟩ := hrel
    have hgl := hrow.lt
    have hlen := pick_len f j
    by_cases hlt : j < n
    · have hc := hrow.cell (j := j) (by rw [HL.out]; exact hlt)
      have hc2 := hrb.cell hlt
      have hf := HF.out j hlt
      generalize nth D j = a at *
      generalize E j = y at *
      cases hy : f j
      · have hp := pick_no hy
        rw [← hp] at hown
        rw [hy] at hf
        clear hp hy
        have hq : (a == d) = false := (Bool.or_eq_false_iff.1 hf.symm).1
        rw [hq] at hf
        cases y
        · clear hf
          go_wp2
          go_roundw
          case rel => exact ⟨j + 1, by omega, by go_num, hown, hne, hrow, hrb, hb1⟩
          case measure => simp only [intOf]; omega
        · have hl' : decide (a < d) = false := by simpa using hf.symm
          clear hf
          go_wp2
          go_roundw
          case rel => exact ⟨j + 1, by omega, by go_num, hown, hne, hrow, hrb, hb1⟩
          case measure => simp only [intOf]; omega
      · have hp := pick_yes hy
        have HP : Hid (i64s (pick f (j + 1)) = i64s (pick f j) ++ [Value.int .i64 (j : Int)] ∧ (pick f (j + 1)).length = (pick f j).length + 1) := by
          rw [hp]; exact ⟨i64s_app _ _, by simp⟩
        rw [hy] at hf
        clear hp hy
        generalize pick f j = P at *
        have hgo : (a == d) = true ∨ (a == d) = false ∧ decide (a < d) = true ∧ y = true := by
          rcases Bool.or_eq_true_iff.1 hf.symm with h1 | h1
          · exact .inl h1
          · cases hq : (a == d)
            · exact .inr ⟨rfl, Bool.and_eq_true_iff.1 h1⟩
            · exact .inl rfl
        clear hf
        rcases hgo with hq | ⟨hq, hl', rfl⟩
        all_goals
          go_wp2_with (at_builtin; (refine wpList_append_own_at _ rfl _ _ 22 rfl (w.heap.size + 1) 3 i0 (.int .i64 0) 1 8 Try.underlying22 hi hz0 hz1 hz2 rfl (by decide) _ _ _ rfl (hown.alloc _) ⟨wr.heap.size, 0, none⟩ 1 1 [.int .i64 (j)] rfl rfl (cell_one_new _ _ _) (by simp [Value.oneCell']) (by unfold maxLen; omega) (by omega) (by simp; omega) ?_); intro v' w1 hown1 hgrow _ hat)
          have hrow1 := (hrow.alloc (.cells #[.int .i64 j] 3)).grown hgrow (fun e => hne e.symm)
          have hrb1 := (hrb.alloc (.cells #[.int .i64 j] 3)).grown hgrow (hrb.ne hown)
          have hb3 : Below w.heap.size w w1 := Below.grown (hb1.alloc hb1.size _) hgrow (by simp; have := hb1.size; omega) (fun g hg => by have := (hown.lt g hg).1; omega)
          have hne1 : v'.ownBlock ≠ some g := by
            rcases hat with e | e
            · rw [e]; exact hne
            · rw [e]; simp; omega
          rw [← HP.out.1, ← HP.out.2] at hown1
          clear hown hgrow hrow hb1 HP hne hrb
          go_wp2
          go_roundw
          case rel => exact ⟨j + 1, by omega, by go_num, hown1, hne1, hrow1, hrb1, hb3⟩
          case measure => simp only [intOf]; omega
    · have hkn : j = n := by omega
      rw [hkn] at hown
      obtain ⟨A', c', rfl, hO⟩ := own_form hown
      clear hkn hown
      go_wp2
      go_ret
      exact ⟨A', c', rfl, hO.mono (by omega), hb1⟩
end Go.Proofs.Ytombfbmcplefgaa
