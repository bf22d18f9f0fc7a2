/- Contracts: IsProcess and ChildrenOf. -/
import Derived.Test.YtombfbmcplefgaaTree9
namespace Go.Proofs.Ytombfbmcplefgaa
open Go.ChangeShapes Go.WideShapes Go.ChangeAt Go.RowKit

/-- x is a node of a tree with n nodes. -/
def isNd (n : Nat) (x : Int) : Bool := decide (0 ≤ x ∧ x ≤ (n : Int) - 1)
theorem l1In_nd (n : Nat) (x : Int) (w : World) : Calls Try.prog 115 #[.int .i64 x, .int .i64 0, .int .i64 ((n : Int) - 1)] w fun e w' => e = .returned (.bool (isNd n x)) ∧ w = w' := l1In_any _ _ _ _
theorem within_nd (n : Nat) (x : Int) (w : World) : Calls Try.prog 114 #[.int .i64 x, .int .i64 0, .int .i64 ((n : Int) - 1)] w fun e w' => e = .returned (.bool (isNd n x)) ∧ w = w' := within_any _ _ _ _
theorem isNode_any (A B : Option Addr) (c m e n : Nat) (x : Int) (w : World) (hn : n ≤ 1048576) :
    Calls Try.prog 151 #[.agg #[.slice A n c, .slice B m e], .int .i64 x] w fun e1 w' => e1 = .returned (.bool (isNd n x)) ∧ Below w.heap.size w w' := by
  go_enter Try.func151, Try.ntmps151
  go_wp2_with (go_at_call 114; refine (within_nd _ _ _).mono ?_; rintro e w' ⟨rfl, rfl⟩)
  go_ret
  exact ⟨rfl, by (repeat (first | with_reducible exact Below.refl _ _ | with_reducible assumption | with_reducible refine Below.alloc' ?_ ?_ _ | with_reducible refine Below.setCell' ?_ ?_ _ | with_reducible refine Below.drewN' ?_ _ | with_reducible refine Below.drew ?_ | with_reducible refine Below.transA ?_ (by assumption) ?_ | omega | (focus (simp; done)) | (focus (simp; omega))))⟩

def isKidI (xs : List Int) (x : Int) (y : Nat) : Bool := nth xs y == x
set_option maxHeartbeats 1000000 in
set_option maxRecDepth 100000 in
theorem children_any (A B : Option Addr) (c m e : Nat) (x : Int) (xs : List Int) (w : World) (h : IntS w A xs) (hn : xs.length ≤ 1000) :
    Calls Try.prog 149 #[.agg #[.slice A xs.length c, .slice B m e], .int .i64 x] w (RetI w (pick (isKidI xs x) xs.length)) := by
  obtain ⟨i0, hi, hz0, hz1, hz2⟩ := info_parts info_int
  obtain ⟨n, hn'⟩ : ∃ n, n = xs.length := ⟨_, rfl⟩
  have HN : Hid (n = xs.length) := hn'
  rw [← hn'] at hn ⊢
  clear hn'
  go_enter Try.func149, Try.ntmps149
  go_wp2
  go_loopw [5, 6, 7, 12] (fun v _ _ i wr => ∃ k : Nat, k ≤ n ∧ i = .int .i64 k ∧ wr.ownsRow (w.heap.size + 1) 3 1 v (pick (isKidI xs x) k).length (i64s (pick (isKidI xs x) k)) ∧ Below w.heap.size w wr) (fun _ _ _ i _ => n - (intOf i).toNat)
  case atStart =>
    refine ⟨0, by omega, rfl, ?_, by (repeat (first | with_reducible exact Below.refl _ _ | with_reducible assumption | with_reducible refine Below.alloc' ?_ ?_ _ | with_reducible refine Below.setCell' ?_ ?_ _ | with_reducible refine Below.drewN' ?_ _ | with_reducible refine Below.drew ?_ | with_reducible refine Below.transA ?_ (by assumption) ?_ | omega | (focus (simp; done)) | (focus (simp; omega))))⟩
    rw [pick_zero]
    exact own_empty _ _ _ (by simp) (by simp)
  case round =>
    obtain ⟨k, hk, rfl, hown, hb1⟩ := hrel
    have hlen := pick_len (isKidI xs x) k
    have hws := hb1.size
    by_cases hlt : k < n
    · obtain ⟨b, o, rfl, hc⟩ := (h.below hb1).at_ (j := k) (by rw [← HN.out]; exact hlt)
      by_cases hy : nth xs k = x
      · have hp := pick_yes (f := isKidI xs x) (k := k) (by simp [isKidI, hy])
        have HP : Hid (i64s (pick (isKidI xs x) (k + 1)) = i64s (pick (isKidI xs x) k) ++ [Value.int .i64 (k : Int)] ∧ (pick (isKidI xs x) (k + 1)).length = (pick (isKidI xs x) k).length + 1) := by
          rw [hp]; exact ⟨i64s_app _ _, by simp⟩
        have hyb : (nth xs k == x) = true := by simpa using hy
        clear hp hy
        generalize pick (isKidI xs x) k = P at *
        go_wp2_with (at_builtin; refine wpList_append_own_at _ rfl _ _ 22 rfl (w.heap.size + 1) 3 i0 (.int .i64 0) 1 8 Try.underlying22 hi hz0 hz1 hz2 rfl (by decide) _ _ _ rfl (hown.alloc _) ⟨wr.heap.size, 0, none⟩ 1 1 [.int .i64 k] rfl rfl (cell_one_new _ _ _) (by simp [Value.oneCell']) (by unfold maxLen; omega) (by omega) ?c5 ?_; rotate_left; intro v' w1 hown1 hgrow _ _)
        case c5 => simp only [World.size_alloc]; omega
        have hb2 : Below w.heap.size w w1 := Below.grown (hb1.alloc (by omega) _) hgrow (by simp; omega) (fun g hg => by have := (hown.lt g hg).1; omega)
        rw [← HP.out.1, ← HP.out.2] at hown1
        clear hown hgrow hb1 HP
        go_wp2
        go_roundw
        case rel => exact ⟨k + 1, by omega, by go_num, hown1, hb2⟩
        case measure => simp [intOf]; omega
      · have hyb : (nth xs k == x) = false := by simpa using hy
        have hp := pick_no (f := isKidI xs x) (k := k) (by simp [isKidI, hy])
        rw [← hp] at hown
        clear hp hy
        go_wp2
        go_roundw
        case rel => exact ⟨k + 1, by omega, by go_num, hown, hb1⟩
        case measure => simp [intOf]; omega
    · have hkn : k = n := by omega
      rw [hkn] at hown
      obtain ⟨A', c', rfl, hO⟩ := own_form hown
      clear hkn hown
      go_wp2
      go_ret
      exact ⟨A', c', rfl, hO.mono (by omega), hb1⟩

noncomputable def chOk (xs ys : List Int) (x : Int) : Bool := good xs ys && isNd xs.length x
noncomputable def chR (xs ys : List Int) (x : Int) : List Int := if chOk xs ys x then pick (isKidI xs x) xs.length else []
theorem chR_len (xs ys : List Int) (x : Int) (hn : xs.length ≤ 1048576) : (chR xs ys x).length ≤ 2000000 := by
  unfold chR; split
  · have := pick_len (isKidI xs x) xs.length; omega
  · simp
theorem pick_congr {f g : Nat → Bool} {k : Nat} (h : ∀ j, j < k → f j = g j) : pick f k = pick g k := by
  unfold pick
  rw [List.filter_congr fun j hj => h j (List.mem_range.1 hj)]
theorem kid_same {xs ys : List Int} (hg : good xs ys = true) (x : Nat) : pick (isKid xs x) xs.length = pick (isKidI xs x) xs.length := by
  refine pick_congr fun y hy => ?_
  have hG := good_iff.1 hg
  unfold isKid isKidI
  by_cases e : nth xs y = (x : Int)
  · have : x < y := by
      by_cases e0 : y = 0
      · subst e0; have := hG.1.2.2; omega
      · have := of_decide_eq_true (hG.2.1 y (by omega) hy); omega
    simp [this]
  · simp [e]
theorem nd_nat {n : Nat} {x : Int} (h : isNd n x = true) : ∃ k : Nat, x = k ∧ k < n := by
  have := of_decide_eq_true h
  exact ⟨x.toNat, by omega, by omega⟩

end Go.Proofs.Ytombfbmcplefgaa
