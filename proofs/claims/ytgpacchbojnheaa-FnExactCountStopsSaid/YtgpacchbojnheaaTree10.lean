/- Contracts: IsProcess and ChildrenOf. -/
import Derived.Test.YtgpacchbojnheaaTree9
namespace Go.Proofs.Ytgpacchbojnheaa
open Go.ChangeShapes Go.WideShapes Go.ChangeAt Go.RowKit

theorem specIsProcess_any (A B : Option Addr) (c e : Nat) (xs ys : List Int) (P : Option Addr) (cz : Nat) (zs : List Int) (w : World) (h : IntS w A xs) (k : IntS w B ys) (z : IntS w P zs) (hx : Bd xs) (hy : Bd ys) (_bz : Bd zs) (hn : xs.length ≤ 1048576) (hm : ys.length ≤ 1048576) (hz : zs.length ≤ 1048576) :
    Calls Try.prog 36 #[.agg #[.slice A xs.length c, .slice B ys.length e], .slice P zs.length cz] w fun e1 w' => e1 = .returned (.tuple #[.bool (good xs ys && isProc xs.length zs), .bool (good xs ys)]) ∧ Below w.heap.size w w' := by
  have HG := Lib.hid (fun W (h : IntS W A xs) (k : IntS W B ys) => l2Good_any A B c e xs ys W h k hx hy hn hm)
  have HP := Lib.hid (fun W (h : IntS W A xs) (k : IntS W B ys) (z : IntS W P zs) => l3Good_any A B P c e cz xs ys zs W h k z hx hy hn hm hz)
  clear hx hy
  generalize isProc xs.length zs = q at *
  generalize good xs ys = g at *
  cases g
  · go_enter Try.func36, Try.ntmps36
    go_wp2_with fail
    refine (HG.out _ (h.alloc _) (k.alloc _)).mono ?_
    rintro e1 w1 ⟨rfl, hb1⟩
    go_wp2
    go_ret2
    exact ⟨rfl, by (repeat (first | with_reducible exact Below.refl _ _ | with_reducible assumption | with_reducible refine Below.alloc' ?_ ?_ _ | with_reducible refine Below.setCell' ?_ ?_ _ | with_reducible refine Below.drewN' ?_ _ | with_reducible refine Below.drew ?_ | with_reducible refine Below.transA ?_ (by assumption) ?_ | omega | (focus (simp; done)) | (focus (simp; omega))))⟩
  · go_enter Try.func36, Try.ntmps36
    go_wp2_with fail
    refine (HG.out _ (h.alloc _) (k.alloc _)).mono ?_
    rintro e1 w1 ⟨rfl, hb1⟩
    have hb2 := below_alloc hb1
    have hx0 := keep_cell hb1 (cell_new _ _ _ 0 _ rfl)
    have hx1 := keep_cell hb1 (cell_new _ _ _ 1 _ rfl)
    simp at hx0 hx1
    go_wp2_with fail
    refine (HP.out _ (h.below hb2) (k.below hb2) (z.below hb2)).mono ?_
    rintro e1 w2 ⟨rfl, hb3⟩
    go_wp2
    go_ret2
    exact ⟨rfl, keep_below hb3 hb2⟩
theorem implIsProcess_any (A B : Option Addr) (c e : Nat) (xs ys : List Int) (P : Option Addr) (cz : Nat) (zs : List Int) (w : World) (h : IntS w A xs) (k : IntS w B ys) (z : IntS w P zs) (hx : Bd xs) (hy : Bd ys) (_bz : Bd zs) (hn : xs.length ≤ 1048576) (hm : ys.length ≤ 1048576) (hz : zs.length ≤ 1048576) :
    Calls Try.prog 38 #[.agg #[.slice A xs.length c, .slice B ys.length e], .slice P zs.length cz] w fun e1 w' => e1 = .returned (.tuple #[.bool (good xs ys && isProc xs.length zs), .bool (good xs ys)]) ∧ Below w.heap.size w w' := by
  have HG := Lib.hid (fun W (h : IntS W A xs) (k : IntS W B ys) => isTree_any A B c e xs ys W h k hx hy hn hm)
  have HP := Lib.hid (fun W (z : IntS W P zs) => isProcess_any A B P c ys.length e cz xs.length zs W z hz hn)
  have HL : Hid (good xs ys = true → ys.length = xs.length) := fun h => (good_len h).2.2
  clear hx hy
  generalize isProc xs.length zs = q at *
  generalize good xs ys = g at *
  cases g
  · go_enter Try.func38, Try.ntmps38
    go_wp2_with fail
    refine (HG.out _ (h.alloc _) (k.alloc _)).mono ?_
    rintro e1 w1 ⟨rfl, hb1⟩
    go_wp2
    go_ret2
    exact ⟨rfl, by (repeat (first | with_reducible exact Below.refl _ _ | with_reducible assumption | with_reducible refine Below.alloc' ?_ ?_ _ | with_reducible refine Below.setCell' ?_ ?_ _ | with_reducible refine Below.drewN' ?_ _ | with_reducible refine Below.drew ?_ | with_reducible refine Below.transA ?_ (by assumption) ?_ | omega | (focus (simp; done)) | (focus (simp; omega))))⟩
  · go_enter Try.func38, Try.ntmps38
    go_wp2_with fail
    refine (HG.out _ (h.alloc _) (k.alloc _)).mono ?_
    rintro e1 w1 ⟨rfl, hb1⟩
    have hb2 := below_alloc hb1
    have hx0 := keep_cell hb1 (cell_new _ _ _ 0 _ rfl)
    have hx1 := keep_cell hb1 (cell_new _ _ _ 1 _ rfl)
    simp at hx0 hx1
    go_wp2_with fail
    refine (HP.out _ (z.below hb2)).mono ?_
    rintro e1 w2 ⟨rfl, hb3⟩
    go_wp2
    go_ret2
    exact ⟨rfl, keep_below hb3 hb2⟩

/-- x is a node of a tree with n nodes. -/
def isNd (n : Nat) (x : Int) : Bool := decide (0 ≤ x ∧ x ≤ (n : Int) - 1)
theorem l1In_nd (n : Nat) (x : Int) (w : World) : Calls Try.prog 52 #[.int .i64 x, .int .i64 0, .int .i64 ((n : Int) - 1)] w fun e w' => e = .returned (.bool (isNd n x)) ∧ w = w' := l1In_any _ _ _ _
theorem within_nd (n : Nat) (x : Int) (w : World) : Calls Try.prog 50 #[.int .i64 x, .int .i64 0, .int .i64 ((n : Int) - 1)] w fun e w' => e = .returned (.bool (isNd n x)) ∧ w = w' := within_any _ _ _ _
set_option maxHeartbeats 400000 in
theorem l2Node_any (A B : Option Addr) (c e : Nat) (xs ys : List Int) (x : Int) (w : World) (h : IntS w A xs) (k : IntS w B ys) (hx : Bd xs) (hy : Bd ys) (hn : xs.length ≤ 1048576) (hm : ys.length ≤ 1048576) :
    Calls Try.prog 66 #[.agg #[.slice A xs.length c, .slice B ys.length e], .int .i64 x] w fun e1 w' => e1 = .returned (.bool (good xs ys && isNd xs.length x)) ∧ Below w.heap.size w w' := by
  have HG := Lib.hid (fun W (h : IntS W A xs) (k : IntS W B ys) => l2Good_any A B c e xs ys W h k hx hy hn hm)
  clear hx hy
  generalize good xs ys = g at *
  cases g
  · go_enter Try.func66, Try.ntmps66
    go_wp2_with fail
    refine (HG.out _ (h.alloc _) (k.alloc _)).mono ?_
    rintro e1 w1 ⟨rfl, hb1⟩
    go_wp2
    go_ret
    exact ⟨rfl, by (repeat (first | with_reducible exact Below.refl _ _ | with_reducible assumption | with_reducible refine Below.alloc' ?_ ?_ _ | with_reducible refine Below.setCell' ?_ ?_ _ | with_reducible refine Below.drewN' ?_ _ | with_reducible refine Below.drew ?_ | with_reducible refine Below.transA ?_ (by assumption) ?_ | omega | (focus (simp; done)) | (focus (simp; omega))))⟩
  · go_enter Try.func66, Try.ntmps66
    go_wp2_with fail
    refine (HG.out _ (h.alloc _) (k.alloc _)).mono ?_
    rintro e1 w1 ⟨rfl, hb1⟩
    (obtain ⟨hc1, hf1, hz1⟩ := bcell hb1; have hy1 := hb1.size; (try simp at hz1); (try simp at hy1); (try simp at hc1); (try simp at hf1))
    go_wp2_with (go_at_call 52; refine (l1In_nd _ _ _).mono ?_; rintro e w' ⟨rfl, rfl⟩)
    go_ret
    exact ⟨by simp, by (repeat (first | with_reducible exact Below.refl _ _ | with_reducible assumption | with_reducible refine Below.alloc' ?_ ?_ _ | with_reducible refine Below.setCell' ?_ ?_ _ | with_reducible refine Below.drewN' ?_ _ | with_reducible refine Below.drew ?_ | with_reducible refine Below.transA ?_ (by assumption) ?_ | omega | (focus (simp; done)) | (focus (simp; omega))))⟩
theorem isNode_any (A B : Option Addr) (c m e n : Nat) (x : Int) (w : World) (hn : n ≤ 1048576) :
    Calls Try.prog 68 #[.agg #[.slice A n c, .slice B m e], .int .i64 x] w fun e1 w' => e1 = .returned (.bool (isNd n x)) ∧ Below w.heap.size w w' := by
  go_enter Try.func68, Try.ntmps68
  go_wp2_with (go_at_call 50; refine (within_nd _ _ _).mono ?_; rintro e w' ⟨rfl, rfl⟩)
  go_ret
  exact ⟨rfl, by (repeat (first | with_reducible exact Below.refl _ _ | with_reducible assumption | with_reducible refine Below.alloc' ?_ ?_ _ | with_reducible refine Below.setCell' ?_ ?_ _ | with_reducible refine Below.drewN' ?_ _ | with_reducible refine Below.drew ?_ | with_reducible refine Below.transA ?_ (by assumption) ?_ | omega | (focus (simp; done)) | (focus (simp; omega))))⟩

def isKidI (xs : List Int) (x : Int) (y : Nat) : Bool := nth xs y == x
set_option maxHeartbeats 1000000 in
set_option maxRecDepth 100000 in
theorem children_any (A B : Option Addr) (c m e : Nat) (x : Int) (xs : List Int) (w : World) (h : IntS w A xs) (hn : xs.length ≤ 1000) :
    Calls Try.prog 69 #[.agg #[.slice A xs.length c, .slice B m e], .int .i64 x] w (RetI w (pick (isKidI xs x) xs.length)) := by
  obtain ⟨i0, hi, hz0, hz1, hz2⟩ := info_parts info_int
  obtain ⟨n, hn'⟩ : ∃ n, n = xs.length := ⟨_, rfl⟩
  have HN : Hid (n = xs.length) := hn'
  rw [← hn'] at hn ⊢
  clear hn'
  go_enter Try.func69, Try.ntmps69
  go_wp2
  go_loopw [5, 6, 7, 12] (fun v _ _ i wr => ∃ k : Nat, k ≤ n ∧ i = .int .i64 k ∧ wr.ownsRow (w.heap.size + 1) 3 1 v (pick (isKidI xs x) k).length (i64s (pick (isKidI xs x) k)) ∧ Below w.heap.size w wr) (fun _ _ _ i _ => n - (intOf i).toNat)
  case atStart =>
    refine ⟨0, by omega, rfl, ?_, by (repeat (first | with_reducible exact Below.refl _ _ | with_reducible assumption | with_reducible refine Below.alloc' ?_ ?_ _ | with_reducible refine Below.setCell' ?_ ?_ _ | with_reducible refine Below.drewN' ?_ _ | with_reducible refine Below.drew ?_ | with_reducible refine Below.transA ?_ (by assumption) ?_ | omega | (focus (simp; done)) | (focus (simp; omega))))⟩
    rw [pick_zero]
    exact own_empty _ _ _ (by simp) (by simp)
  case round =>
    obtain ⟨k, hk, rfl, hown, hb1⟩ := hrel
    have hlen := pick_len (isKidI xs x) k
    have hws := hb1.size
    by_cases hlt : k < n
    · obtain ⟨b, o, rfl, hc⟩ := (h.below hb1).at_ (j := k) (by rw [← HN.out]; exact hlt)
      by_cases hy : nth xs k = x
      · have hp := pick_yes (f := isKidI xs x) (k := k) (by simp [isKidI, hy])
        have HP : Hid (i64s (pick (isKidI xs x) (k + 1)) = i64s (pick (isKidI xs x) k) ++ [Value.int .i64 (k : Int)] ∧ (pick (isKidI xs x) (k + 1)).length = (pick (isKidI xs x) k).length + 1) := by
          rw [hp]; exact ⟨i64s_app _ _, by simp⟩
        have hyb : (nth xs k == x) = true := by simpa using hy
        clear hp hy
        generalize pick (isKidI xs x) k = P at *
        go_wp2_with (at_builtin; refine wpList_append_own_at _ rfl _ _ 36 rfl (w.heap.size + 1) 3 i0 (.int .i64 0) 1 8 Try.underlying36 hi hz0 hz1 hz2 rfl (by decide) _ _ _ rfl (hown.alloc _) ⟨wr.heap.size, 0, none⟩ 1 1 [.int .i64 k] rfl rfl (cell_one_new _ _ _) (by simp [Value.oneCell']) (by unfold maxLen; omega) (by omega) ?c5 ?_; rotate_left; intro v' w1 hown1 hgrow _ _)
        case c5 => simp only [World.size_alloc]; omega
        have hb2 : Below w.heap.size w w1 := Below.grown (hb1.alloc (by omega) _) hgrow (by simp; omega) (fun g hg => by have := (hown.lt g hg).1; omega)
        rw [← HP.out.1, ← HP.out.2] at hown1
        clear hown hgrow hb1 HP
        go_wp2
        go_roundw
        case rel => exact ⟨k + 1, by omega, by go_num, hown1, hb2⟩
        case measure => simp [intOf]; omega
      · have hyb : (nth xs k == x) = false := by simpa using hy
        have hp := pick_no (f := isKidI xs x) (k := k) (by simp [isKidI, hy])
        rw [← hp] at hown
        clear hp hy
        go_wp2
        go_roundw
        case rel => exact ⟨k + 1, by omega, by go_num, hown, hb1⟩
        case measure => simp [intOf]; omega
    · have hkn : k = n := by omega
      rw [hkn] at hown
      obtain ⟨A', c', rfl, hO⟩ := own_form hown
      clear hkn hown
      go_wp2
      go_ret
      exact ⟨A', c', rfl, hO.mono (by omega), hb1⟩

noncomputable def chOk (xs ys : List Int) (x : Int) : Bool := good xs ys && isNd xs.length x
noncomputable def chR (xs ys : List Int) (x : Int) : List Int := if chOk xs ys x then pick (isKidI xs x) xs.length else []
theorem chR_len (xs ys : List Int) (x : Int) (hn : xs.length ≤ 1048576) : (chR xs ys x).length ≤ 2000000 := by
  unfold chR; split
  · have := pick_len (isKidI xs x) xs.length; omega
  · simp
theorem pick_congr {f g : Nat → Bool} {k : Nat} (h : ∀ j, j < k → f j = g j) : pick f k = pick g k := by
  unfold pick
  rw [List.filter_congr fun j hj => h j (List.mem_range.1 hj)]
theorem kid_same {xs ys : List Int} (hg : good xs ys = true) (x : Nat) : pick (isKid xs x) xs.length = pick (isKidI xs x) xs.length := by
  refine pick_congr fun y hy => ?_
  have hG := good_iff.1 hg
  unfold isKid isKidI
  by_cases e : nth xs y = (x : Int)
  · have : x < y := by
      by_cases e0 : y = 0
      · subst e0; have := hG.1.2.2; omega
      · have := of_decide_eq_true (hG.2.1 y (by omega) hy); omega
    simp [this]
  · simp [e]
theorem nd_nat {n : Nat} {x : Int} (h : isNd n x = true) : ∃ k : Nat, x = k ∧ k < n := by
  have := of_decide_eq_true h
  exact ⟨x.toNat, by omega, by omega⟩

set_option maxHeartbeats 400000 in
theorem specChildrenOf_any (A B : Option Addr) (c e : Nat) (xs ys : List Int) (x : Int) (w : World) (h : IntS w A xs) (k : IntS w B ys) (hx : Bd xs) (hy : Bd ys) (_hd : -9223372036854775808 ≤ x ∧ x ≤ 9223372036854775807) (hn : xs.length ≤ 1048576) (hm : ys.length ≤ 1048576) :
    Calls Try.prog 40 #[.agg #[.slice A xs.length c, .slice B ys.length e], .int .i64 x] w (RetIB w (chR xs ys x) (chOk xs ys x)) := by
  have HN := Lib.hid (fun W (h : IntS W A xs) (k : IntS W B ys) => l2Node_any A B c e xs ys x W h k hx hy hn hm)
  change Hid (∀ W (h : IntS W A xs) (k : IntS W B ys), Calls _ _ _ W fun e1 w' => e1 = .returned (.bool (chOk xs ys x)) ∧ _) at HN
  clear hx hy
  obtain ⟨g, hg⟩ : ∃ g, chOk xs ys x = g := ⟨_, rfl⟩
  cases g
  · have hR : chR xs ys x = [] := by unfold chR; rw [hg]; rfl
    rw [hR, hg]
    rw [hg] at HN
    clear hg hR
    go_enter Try.func40, Try.ntmps40
    go_wp2_with fail
    refine (HN.out _ (h.alloc _) (k.alloc _)).mono ?_
    rintro e1 w1 ⟨rfl, hb1⟩
    have hb2 := below_alloc hb1
    go_wp2
    go_ret2
    exact ⟨_, _, rfl, .inr ⟨_, rfl, hb2.size, ⟨#[], heap_alloc_new _ _, [], rfl⟩⟩, keep_below_alloc hb2 _⟩
  · have hR : chR xs ys x = pick (isKidI xs x) xs.length := by unfold chR; rw [hg]; rfl
    have hok := hg
    unfold chOk at hok
    simp only [Bool.and_eq_true] at hok
    obtain ⟨q, rfl, hq⟩ := nd_nat hok.2
    have hgl := good_len hok.1
    have HK := Lib.hid (fun W (h : IntS W A xs) => l2Kids_any A B c ys.length e q xs W h (by omega) hq)
    rw [hR, ← kid_same hok.1 q, hg]
    rw [hg] at HN
    clear hg hR hok hgl
    go_enter Try.func40, Try.ntmps40
    go_wp2_with fail
    refine (HN.out _ (h.alloc _) (k.alloc _)).mono ?_
    rintro e1 w1 ⟨rfl, hb1⟩
    have hb2 := below_alloc hb1
    have hx0 := keep_cell hb1 (cell_new _ _ _ 0 _ rfl)
    have hx1 := keep_cell hb1 (cell_new _ _ _ 1 _ rfl)
    simp at hx0 hx1
    go_wp2_with fail
    refine (HK.out _ (h.below hb2)).mono ?_
    rintro e1 w2 ⟨A', c', rfl, ho, hb3⟩
    go_wp2
    go_ret2
    exact ⟨_, _, rfl, ho.mono hb2.size, keep_below hb3 hb2⟩
set_option maxHeartbeats 400000 in
theorem implChildrenOf_any (A B : Option Addr) (c e : Nat) (xs ys : List Int) (x : Int) (w : World) (h : IntS w A xs) (k : IntS w B ys) (hx : Bd xs) (hy : Bd ys) (_hd : -9223372036854775808 ≤ x ∧ x ≤ 9223372036854775807) (hn : xs.length ≤ 1048576) (hm : ys.length ≤ 1048576) :
    Calls Try.prog 41 #[.agg #[.slice A xs.length c, .slice B ys.length e], .int .i64 x] w (RetIB w (chR xs ys x) (chOk xs ys x)) := by
  cases hg : good xs ys
  · have hR : chR xs ys x = [] := by unfold chR chOk; rw [hg]; rfl
    have hO : chOk xs ys x = false := by unfold chOk; rw [hg]; rfl
    have HG := Lib.hid (fun W (h : IntS W A xs) (k : IntS W B ys) => isTree_r hg A B c e W h k hx hy hn hm)
    rw [hR, hO]
    clear hx hy hg hR hO
    go_enter Try.func41, Try.ntmps41
    go_wp2_with fail
    refine (HG.out _ (h.alloc _) (k.alloc _)).mono ?_
    rintro e1 w1 ⟨rfl, hb1⟩
    go_wp2
    go_ret2
    exact ⟨none, 0, rfl, .inl ⟨rfl, rfl⟩, below_alloc hb1⟩
  · have HG := Lib.hid (fun W (h : IntS W A xs) (k : IntS W B ys) => isTree_r hg A B c e W h k hx hy hn hm)
    have HN := Lib.hid (fun W => isNode_any A B c ys.length e xs.length x W hn)
    have hgl := good_len hg
    obtain ⟨r, hr⟩ : ∃ r, isNd xs.length x = r := ⟨_, rfl⟩
    have hO : chOk xs ys x = r := by unfold chOk; rw [hg, hr]; rfl
    have hR : chR xs ys x = if r then pick (isKidI xs x) xs.length else [] := by unfold chR; rw [hO]
    rw [hR, hO]
    rw [hr] at HN
    have HK := Lib.hid (fun W (h : IntS W A xs) => children_any A B c ys.length e x xs W h (by omega))
    clear hx hy hg hR hO hr hgl
    cases r
    · go_enter Try.func41, Try.ntmps41
      go_wp2_with fail
      refine (HG.out _ (h.alloc _) (k.alloc _)).mono ?_
      rintro e1 w1 ⟨rfl, hb1⟩
      have hb2 := below_alloc hb1
      have hx0 := keep_cell hb1 (cell_new _ _ _ 0 _ rfl)
      have hx1 := keep_cell hb1 (cell_new _ _ _ 1 _ rfl)
      simp at hx0 hx1
      go_wp2_with fail
      refine (HN.out _).mono ?_
      rintro e1 w2 ⟨rfl, hb3⟩
      go_wp2
      go_ret2
      exact ⟨none, 0, rfl, .inl ⟨rfl, rfl⟩, keep_below hb3 hb2⟩
    · go_enter Try.func41, Try.ntmps41
      go_wp2_with fail
      refine (HG.out _ (h.alloc _) (k.alloc _)).mono ?_
      rintro e1 w1 ⟨rfl, hb1⟩
      have hb2 := below_alloc hb1
      have hx0 := keep_cell hb1 (cell_new _ _ _ 0 _ rfl)
      have hx1 := keep_cell hb1 (cell_new _ _ _ 1 _ rfl)
      simp at hx0 hx1
      go_wp2_with fail
      refine (HN.out _).mono ?_
      rintro e1 w2 ⟨rfl, hb3⟩
      have hx0 := keep_cell hb3 hx0
      have hx1 := keep_cell hb3 hx1
      have hb4 := keep_below hb3 hb2
      go_wp2_with fail
      refine (HK.out _ (h.below hb4)).mono ?_
      rintro e1 w3 ⟨A', c', rfl, ho, hb5⟩
      go_wp2
      go_ret2
      exact ⟨_, _, rfl, ho.mono hb4.size, keep_below hb5 hb4⟩
end Go.Proofs.Ytgpacchbojnheaa
