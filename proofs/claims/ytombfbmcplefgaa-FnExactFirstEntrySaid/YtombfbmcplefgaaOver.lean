/- Contracts: over. -/
import Derived.Test.YtombfbmcplefgaaHigh
import Derived.Test.YtombfbmcplefgaaList
namespace Go.Proofs.Ytombfbmcplefgaa
open Go.ChangeShapes Go.WideShapes Go.ChangeAt Go.RowKit

/-- The place in a list of the first node that is met on the way up, or -1. -/
def ovU (ns : List Int) : List Int → Int
  | [] => -1
  | v :: U => if 0 ≤ idxI ns v then idxI ns v else ovU ns U
def ovX (xs ns : List Int) (y : Int) : Int := ovU ns (up xs y.toNat)
def ovL (xs ns : List Int) : List Int := mapI (ovX xs ns) (endsL xs) (endsL xs).length
theorem ovL_len (xs ns : List Int) : (ovL xs ns).length = (endsL xs).length := mapI_len _ _ (Nat.le_refl _)
theorem ov_all {xs : List Int} (ns : List Int) (hu : ∀ j, 1 ≤ j → j < xs.length → ∃ p : Nat, nth xs j = p ∧ p < j) (h0 : nth xs 0 = -1) {q : Nat} (hq : q < xs.length) :
    ∃ a : Int, nth xs q = a ∧ -1 ≤ a ∧ a < q ∧ ((0 ≤ idxI ns q ∧ ovX xs ns q = idxI ns q) ∨ (idxI ns q = -1 ∧ ((a = -1 ∧ ovX xs ns q = -1) ∨ ∃ p : Nat, a = p ∧ p < xs.length ∧ ovX xs ns q = ovX xs ns p))) := by
  have hi : idxI ns q = -1 ∨ 0 ≤ idxI ns q := by
    rcases idxI_cases ns q with ⟨_, h⟩ | ⟨_, i, h, _⟩ <;> omega
  by_cases hz : q = 0
  · subst hz
    refine ⟨-1, h0, by omega, by omega, ?_⟩
    have e : ovX xs ns ((0 : Nat) : Int) = if 0 ≤ idxI ns ((0 : Nat) : Int) then idxI ns ((0 : Nat) : Int) else -1 := by
      unfold ovX; rw [Int.toNat_natCast, up_zero]; rfl
    rcases hi with h | h
    · exact .inr ⟨h, .inl ⟨rfl, by rw [e, if_neg (by omega)]⟩⟩
    · exact .inl ⟨h, by rw [e, if_pos h]⟩
  · obtain ⟨p, hp, hpq⟩ := hu q (by omega) hq
    refine ⟨p, hp, by omega, by omega, ?_⟩
    have e : ovX xs ns (q : Int) = if 0 ≤ idxI ns (q : Int) then idxI ns (q : Int) else ovX xs ns (p : Int) := by
      unfold ovX; rw [Int.toNat_natCast, Int.toNat_natCast, up_step hu (by omega) hq hp hpq]; rfl
    rcases hi with h | h
    · exact .inr ⟨h, .inr ⟨p, rfl, by omega, by rw [e, if_neg (by omega)]⟩⟩
    · exact .inl ⟨h, by rw [e, if_pos h]⟩

set_option maxHeartbeats 4000000 in
set_option maxRecDepth 100000 in
theorem over_good {xs ys : List Int} (hg : good xs ys = true) (A B N : Option Addr) (c e cn : Nat) (ns : List Int) (w : World) (h : IntS w A xs) (zn : IntS w N ns) (ln : ns.length ≤ 2000000) :
    Calls Try.prog 92 #[.agg #[.slice A xs.length c, .slice B ys.length e], .slice N ns.length cn] w (RetI w (ovL xs ns)) := by
  have hgl := good_len hg
  have HE := Lib.hid (fun W (h : IntS W A xs) => ends_any A B c ys.length e xs W h (by omega) (good_iff.1 hg).2.1 (good_root hg))
  have HEM : Hid (∀ j, j < (endsL xs).length → ∃ y : Nat, nth (endsL xs) j = y ∧ y < xs.length) := fun j hj => by obtain ⟨y, h1, h2, _⟩ := ends_mem hj; exact ⟨y, h1, h2⟩
  have hel := ends_len xs
  have hep := ends_pos hg
  have HS := Lib.hid (fun (q : Nat) (hq : q < xs.length) => ov_all ns (good_upL hg) (good_root hg) hq)
  have HIX := Lib.hid (fun W v (z : IntS W N ns) => index_any N cn ns v W z ln)
  obtain ⟨n, e1⟩ : ∃ n, xs.length = n := ⟨_, rfl⟩
  have e2 : ys.length = n := by rw [hgl.2.2]; exact e1
  simp only [e1, e2] at HE HEM hgl hel HS ⊢
  have HN := Lib.hid e1.symm
  obtain ⟨hgl1, hgl2, _⟩ := hgl
  clear e1 e2 hg
  unfold ovL
  generalize ovX xs ns = f at *
  have HMS := Lib.hid (fun i (h : i < (endsL xs).length) => mapI_succ f (endsL xs) h)
  have HML := Lib.hid (fun i (h : i ≤ (endsL xs).length) => mapI_len f (endsL xs) h)
  generalize endsL xs = E at *
  obtain ⟨i0, hi, hz0, hz1, hz2⟩ := info_parts info_int
  go_enter Try.func92, Try.ntmps92
  go_wp2_with fail
  refine (HE.out _ ((h.alloc _).alloc _)).mono ?_
  rintro e1 w1 ⟨A1, c1, rfl, ho, hb1⟩
  have hx0 : w1.cell? ⟨w.heap.size, 0, none⟩ = some (.slice A n c) := keep_cell hb1 (by simp)
  have hx1 : w1.cell? ⟨w.heap.size, 1, none⟩ = some (.slice B n e) := keep_cell hb1 (by simp)
  have hown := own_below (own_empty (w.alloc (.cells #[.slice A n c, .slice B n e] 28)) (w.heap.size + 1) (w.heap.size + 1) (by simp) (by simp)) hb1
  have hw : Below w.heap.size w w1 := below_alloc (below_alloc hb1)
  obtain ⟨gE, rfl, hgE, hE⟩ := ho.pos hep
  replace hgE : w.heap.size + 1 < gE := by simp at hgE; omega
  clear ho hb1
  go_wp2
  go_loopw [5, 14] (fun v i wr => ∃ j : Nat, j ≤ E.length ∧ i = .int .i64 j ∧ wr.ownsRow (w.heap.size + 1) 3 1 v (mapI f E j).length (i64s (mapI f E j)) ∧ v.ownBlock ≠ some gE ∧ Row wr gE E ∧ wr.cell? ⟨w.heap.size, 0, none⟩ = some (.slice A n c) ∧ wr.cell? ⟨w.heap.size, 1, none⟩ = some (.slice B n e) ∧ Below w.heap.size w wr) (fun _ i _ => E.length - (intOf i).toNat)
  case atStart => exact ⟨0, by omega, rfl, hown, by simp [Value.ownBlock]; omega, hE, hx0, hx1, hw⟩
  case round =>
    clear hown hE hx0 hx1 hw
    obtain ⟨j, hj, rfl, hown, hne, hE, hx0, hx1, hw⟩ := hrel
    by_cases hlt : j < E.length
    · obtain ⟨y, hy, hyn⟩ := HEM.out j hlt
      have hcE := hE.cell hlt
      rw [hy] at hcE
      have hlt' : (j : Int) < E.length := by omega
      have hms := HMS.out j hlt
      rw [hy] at hms
      obtain ⟨t0, ht0⟩ : ∃ t, f y = t := ⟨_, rfl⟩
      rw [ht0] at hms
      have HT0 := Lib.hid ht0
      have HMJ := Lib.hid (HML.out j hj)
      have HPX : Hid (i64s (mapI f E (j + 1)) = i64s (mapI f E j) ++ [Value.int .i64 t0] ∧ (mapI f E (j + 1)).length = (mapI f E j).length + 1) := by rw [hms]; exact ⟨i64s_app _ _, by simp⟩
      have hlen : (mapI f E j).length ≤ 24 := by rw [HMJ.out]; omega
      clear hy hms ht0
      generalize mapI f E j = L at *
      have hlx := World.block_lt_of_cell? _ _ hx0
      replace hlx : w.heap.size < wr.heap.size := hlx
      go_wp2
      go_loop [8, 9] (fun av xv => (∃ q : Nat, q < n ∧ xv = .int .i64 q ∧ av = .int .i64 (-1) ∧ Hid (f q = t0)) ∨ (∃ a : Int, -1 ≤ a ∧ a < n ∧ xv = .int .i64 a ∧ av = .int .i64 t0 ∧ (0 ≤ t0 ∨ a = -1))) (fun _ xv => (intOf xv + 1).toNat)
      case atStart => exact .inl ⟨y, hyn, rfl, rfl, HT0⟩
      case round =>
        rcases hrel with ⟨q, hq, rfl, rfl, hf⟩ | ⟨a, ha1, ha2, rfl, rfl, hend⟩
        · obtain ⟨b1, o1, rfl, hcx⟩ := (h.below hw).at_ (j := q) (by rw [← HN.out]; exact hq)
          obtain ⟨a, hae, ha1, ha2, hcase⟩ := HS.out q hq
          rw [hae] at hcx
          have HCI := fun W z => HIX.out W q z
          have HCS := Lib.hid hcase
          clear hae hcase
          have i1 : (q : Int) < n := by omega
          go_wp2_with (go_at_call 142; refine (HIX.out _ _ (zn.below hw)).mono ?_; rintro e w' ⟨rfl, rfl⟩)
          go_round
          case rel =>
            rcases HCS.out with ⟨h1, h2⟩ | ⟨h1, ⟨h2, h3⟩ | ⟨p, h2, h3, h4⟩⟩
            · exact .inr ⟨a, ha1, by omega, rfl, by rw [← hf.out, h2], .inl (by rw [← hf.out, h2]; exact h1)⟩
            · exact .inr ⟨a, ha1, by omega, rfl, by rw [← hf.out, h3, h1], .inr h2⟩
            · exact .inl ⟨p, h3, by rw [h2], by rw [h1], show f p = t0 by rw [← h4]; exact hf.out⟩
          case measure => simp [intOf]; omega
        · by_cases h9 : 0 ≤ a
          · have h8 : 0 ≤ t0 := by omega
            clear hend
            go_wp2_with (at_builtin; (refine wpList_append_own_at _ rfl _ _ 22 rfl (w.heap.size + 1) 3 i0 (.int .i64 0) 1 8 Try.underlying22 hi hz0 hz1 hz2 rfl (by decide) _ _ _ rfl (hown.alloc _) ⟨wr.heap.size, 0, none⟩ 1 1 [.int .i64 (t0)] rfl rfl (cell_one_new _ _ _) (by simp [Value.oneCell']) (by unfold maxLen; omega) (by omega) (by simp; omega) ?_); intro v' w1 hown1 hgrow _ hat)
            have hrow1 := (hE.alloc (.cells #[.int .i64 t0] 3)).grown hgrow (fun e => hne e.symm)
            have hxx0 := grown_cell hgrow (p := ⟨w.heap.size, 0, none⟩) (by rw [World.cell?_alloc_lt _ _ _ hlx]; exact hx0) (own_ne (g := w.heap.size) hown (by omega))
            have hxx1 := grown_cell hgrow (p := ⟨w.heap.size, 1, none⟩) (by rw [World.cell?_alloc_lt _ _ _ hlx]; exact hx1) (own_ne (g := w.heap.size) hown (by omega))
            have hb3 : Below w.heap.size w w1 := Below.grown (hw.alloc hw.size _) hgrow (by simp; omega) (fun g hg => by have := (hown.lt g hg).1; omega)
            have hgl := hE.lt
            have hne1 : v'.ownBlock ≠ some gE := by
              rcases hat with e | e
              · rw [e]; exact hne
              · rw [e]; simp; omega
            rw [← HPX.out.1, ← HPX.out.2] at hown1
            clear hown hgrow hE hw HPX hx0 hx1 hne hat
            go_wp2
            go_roundw
            case rel => exact ⟨j + 1, by omega, by go_num, hown1, hne1, hrow1, hxx0, hxx1, hb3⟩
            case measure => simp only [intOf]; omega
          · clear hend
            go_wp2_with (at_builtin; (refine wpList_append_own_at _ rfl _ _ 22 rfl (w.heap.size + 1) 3 i0 (.int .i64 0) 1 8 Try.underlying22 hi hz0 hz1 hz2 rfl (by decide) _ _ _ rfl (hown.alloc _) ⟨wr.heap.size, 0, none⟩ 1 1 [.int .i64 (t0)] rfl rfl (cell_one_new _ _ _) (by simp [Value.oneCell']) (by unfold maxLen; omega) (by omega) (by simp; omega) ?_); intro v' w1 hown1 hgrow _ hat)
            have hrow1 := (hE.alloc (.cells #[.int .i64 t0] 3)).grown hgrow (fun e => hne e.symm)
            have hxx0 := grown_cell hgrow (p := ⟨w.heap.size, 0, none⟩) (by rw [World.cell?_alloc_lt _ _ _ hlx]; exact hx0) (own_ne (g := w.heap.size) hown (by omega))
            have hxx1 := grown_cell hgrow (p := ⟨w.heap.size, 1, none⟩) (by rw [World.cell?_alloc_lt _ _ _ hlx]; exact hx1) (own_ne (g := w.heap.size) hown (by omega))
            have hb3 : Below w.heap.size w w1 := Below.grown (hw.alloc hw.size _) hgrow (by simp; omega) (fun g hg => by have := (hown.lt g hg).1; omega)
            have hgl := hE.lt
            have hne1 : v'.ownBlock ≠ some gE := by
              rcases hat with e | e
              · rw [e]; exact hne
              · rw [e]; simp; omega
            rw [← HPX.out.1, ← HPX.out.2] at hown1
            clear hown hgrow hE hw HPX hx0 hx1 hne hat
            go_wp2
            go_roundw
            case rel => exact ⟨j + 1, by omega, by go_num, hown1, hne1, hrow1, hxx0, hxx1, hb3⟩
            case measure => simp only [intOf]; omega
    · have hkn : j = E.length := by omega
      rw [hkn] at hown
      obtain ⟨A', c', rfl, hO⟩ := own_form hown
      clear hkn hown
      go_wp2
      go_ret
      exact ⟨A', c', rfl, hO.mono (by omega), hw⟩
end Go.Proofs.Ytombfbmcplefgaa
