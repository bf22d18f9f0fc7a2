/- Contracts: the depths of a tree. -/
import Derived.Test.YtombfbmcplefgaaRowX
namespace Go.Proofs.Ytombfbmcplefgaa
open Go.ChangeShapes Go.WideShapes Go.ChangeAt Go.RowKit

theorem own_cell {w : World} {B n : Nat} {v : Value} {L : List Int} (h : w.ownsRow B 3 1 v n (i64s L)) {j : Nat} (hj : j < L.length) : ∃ g cap, v = .slice (some ⟨g, 0, none⟩) n cap ∧ B ≤ g ∧ w.cell? ⟨g, j, none⟩ = some (.int .i64 (nth L j)) := by
  have hl : L.length = n := by have := h.1; simpa [i64s] using this
  obtain ⟨g, cap, rfl, hB, _⟩ := h.form (by omega)
  refine ⟨g, cap, rfl, hB, ?_⟩
  rw [h.cellAt j (by omega)]
  simp [i64s, nth, List.getD, hj]

/-- The first k depths. -/
def dep (xs : List Int) : Nat → List Int
  | 0 => []
  | 1 => [0]
  | k + 1 => dep xs k ++ [nth (dep xs k) (nth xs k).toNat + 1]
theorem dep_succ (xs : List Int) {k : Nat} (hk : 1 ≤ k) : dep xs (k + 1) = dep xs k ++ [nth (dep xs k) (nth xs k).toNat + 1] := by
  cases k with
  | zero => omega
  | succ k => rfl
theorem dep_len (xs : List Int) (k : Nat) : (dep xs k).length = k := by
  induction k with
  | zero => rfl
  | succ k ih =>
    cases k with
    | zero => rfl
    | succ k => rw [dep_succ xs (by omega)]; simp [ih]
theorem nth_out {L : List Int} {j : Nat} (h : L.length ≤ j) : nth L j = 0 := by
  unfold nth List.getD; rw [List.getElem?_eq_none h]; rfl
theorem dep_bd (xs : List Int) (k j : Nat) : 0 ≤ nth (dep xs k) j ∧ nth (dep xs k) j ≤ k := by
  induction k generalizing j with
  | zero => simp [dep, nth]
  | succ k ih =>
    cases k with
    | zero =>
      have h0 : nth (dep xs (0 + 1)) j = 0 := by
        show nth [0] j = 0
        unfold nth List.getD; cases j <;> simp
      omega
    | succ k =>
      rw [dep_succ xs (by omega)]
      rcases Nat.lt_trichotomy j (k + 1) with h | h | h
      · rw [nth_app_lt (by rw [dep_len]; exact h)]; have := ih j; omega
      · subst h
        have e : (dep xs (k + 1)).length = k + 1 := dep_len _ _
        have := nth_app_eq (L := dep xs (k + 1)) (a := nth (dep xs (k + 1)) (nth xs (k + 1)).toNat + 1)
        rw [e] at this
        rw [this]; have := ih (nth xs (k + 1)).toNat; omega
      · rw [nth_out (by simp [dep_len]; omega)]; omega

theorem up_nat {xs : List Int} (hu : UpOk xs xs.length) {j : Nat} (h1 : 1 ≤ j) (hj : j < xs.length) : ∃ p : Nat, nth xs j = p ∧ p < j := by
  have := of_decide_eq_true (hu j h1 hj)
  exact ⟨(nth xs j).toNat, by omega, by omega⟩

set_option maxHeartbeats 1000000 in
set_option maxRecDepth 100000 in
theorem l2Depths_any (A B : Option Addr) (c m e : Nat) (xs : List Int) (w : World) (h : IntS w A xs) (hn1 : 1 ≤ xs.length) (hn : xs.length ≤ 1000) (hu : UpOk xs xs.length) :
    Calls Try.prog 85 #[.agg #[.slice A xs.length c, .slice B m e]] w (RetI w (dep xs xs.length)) := by
  obtain ⟨i0, hi, hz0, hz1, hz2⟩ := info_parts info_int
  have HU := Lib.hid (fun j (h1 : 1 ≤ j) (hj : j < xs.length) => up_nat hu h1 hj)
  obtain ⟨n, hn'⟩ : ∃ n, n = xs.length := ⟨_, rfl⟩
  have HN : Hid (n = xs.length) := hn'
  rw [← hn'] at hn hn1 HU ⊢
  clear hn' hu
  go_enter Try.func85, Try.ntmps85
  go_wp2
  go_loopw [3, 4] (fun v i wr => ∃ k : Nat, 1 ≤ k ∧ k ≤ n ∧ i = .int .i64 k ∧ wr.ownsRow (w.heap.size + 1) 3 1 v k (i64s (dep xs k)) ∧ wr.cell? ⟨w.heap.size, 0, none⟩ = some (.slice A n c) ∧ Below w.heap.size w wr) (fun _ i _ => n - (intOf i).toNat)
  case atStart =>
    refine ⟨1, by omega, by omega, rfl, ?_, by simp, by (repeat (first | with_reducible exact Below.refl _ _ | with_reducible assumption | with_reducible refine Below.alloc' ?_ ?_ _ | with_reducible refine Below.setCell' ?_ ?_ _ | with_reducible refine Below.drewN' ?_ _ | with_reducible refine Below.drew ?_ | with_reducible refine Below.transA ?_ (by assumption) ?_ | omega | (focus (simp; done)) | (focus (simp; omega))))⟩
    exact ⟨rfl, .inr ⟨w.heap.size + 1, 1, _, rfl, Nat.le_refl _, by have := heap_alloc_new (w.alloc (.cells #[.slice A n c, .slice B m e] 28)) (.cells #[.int .i64 0] 3); simpa using this, Nat.le_refl _, by simp [maxLen], rfl, rfl⟩⟩
  case round =>
    obtain ⟨k, hk1, hk, rfl, hown, hbx, hb1⟩ := hrel
    have hw' : w.heap.size < wr.heap.size := World.block_lt_of_cell? _ _ hbx
    by_cases hlt : k < n
    · obtain ⟨b, o, rfl, hc⟩ := (h.below hb1).at_ (j := k) (by rw [← HN.out]; exact hlt)
      obtain ⟨p, hp, hpk⟩ := HU.out k hk1 hlt
      obtain ⟨g, cap, rfl, hgB, hcp⟩ := own_cell hown (j := p) (by rw [dep_len]; exact hpk)
      rw [hp] at hc
      have hbd := dep_bd xs k p
      obtain ⟨d, hd⟩ : ∃ d, nth (dep xs k) p = d := ⟨_, rfl⟩
      have HP : Hid (i64s (dep xs (k + 1)) = i64s (dep xs k) ++ [Value.int .i64 (d + 1)]) := by
        show _ = _; rw [dep_succ xs hk1, i64s_app, hp, ← hd]; rfl
      rw [hd] at hcp hbd
      clear hp hd
      generalize dep xs k = L at *
      go_wp2_with (at_builtin; refine wpList_append_own_at _ rfl _ _ 22 rfl (w.heap.size + 1) 3 i0 (.int .i64 0) 1 8 Try.underlying22 hi hz0 hz1 hz2 rfl (by decide) _ _ _ rfl (hown.alloc _) ⟨wr.heap.size, 0, none⟩ 1 1 [.int .i64 (d + 1)] rfl rfl (cell_one_new _ _ _) (by simp [Value.oneCell']) (by unfold maxLen; omega) (by omega) (by simp; omega) ?_; intro v' w1 hown1 hgrow _ _)
      have hbx1 := grown_cell hgrow (p := ⟨w.heap.size, 0, none⟩) (by rw [World.cell?_alloc_lt _ _ _ hw']; exact hbx) (own_ne (g := w.heap.size) hown (by omega))
      have hb2 : Below w.heap.size w w1 := Below.grown (hb1.alloc (by omega) _) hgrow (by simp; omega) (fun g hg => by have := (hown.lt g hg).1; omega)
      rw [← HP.out] at hown1
      clear hown hgrow hbx hb1 HP
      go_wp2
      go_roundw
      case rel => exact ⟨k + 1, by omega, by omega, by go_num, hown1, hbx1, hb2⟩
      case measure => simp [intOf]; omega
    · have hkn : k = n := by omega
      rw [hkn] at hown
      obtain ⟨A', c', rfl, hO⟩ := own_form hown
      have hll : Hid ((dep xs n).length = n) := dep_len _ _
      clear hkn hown
      go_wp2
      go_ret
      exact ⟨A', c', rfl, hO.mono (by omega), hb1⟩

/-- The first k depths, and zeros. -/
def depZ (xs : List Int) (n k : Nat) : List Int := dep xs k ++ List.replicate (n - k) 0
theorem depZ_set (xs : List Int) (n k : Nat) (hk1 : 1 ≤ k) (hk : k < n) : (depZ xs n k).set k (nth (dep xs k) (nth xs k).toNat + 1) = depZ xs n (k + 1) := by
  unfold depZ
  rw [dep_succ xs hk1]
  have e : n - k = (n - (k + 1)) + 1 := by omega
  rw [e, List.replicate_succ, List.set_append_right _ _ (by rw [dep_len]; exact Nat.le_refl _), dep_len]
  simp
theorem depZ_nth (xs : List Int) (n k j : Nat) (hj : j < k) : nth (depZ xs n k) j = nth (dep xs k) j := nth_app_lt (by rw [dep_len]; exact hj)
theorem depZ_len (xs : List Int) (n k : Nat) (hk : k ≤ n) : (depZ xs n k).length = n := by simp [depZ, dep_len]; omega
theorem depZ_one (xs : List Int) (n : Nat) (h : 1 ≤ n) : depZ xs n 1 = List.replicate n 0 := by
  unfold depZ
  show [0] ++ _ = _
  have e : n = (n - 1) + 1 := by omega
  conv => rhs; rw [e, List.replicate_succ]
  rfl
theorem depZ_all (xs : List Int) (n : Nat) : depZ xs n n = dep xs n := by simp [depZ]

set_option maxHeartbeats 1000000 in
set_option maxRecDepth 100000 in
theorem depths_any (A B : Option Addr) (c m e : Nat) (xs : List Int) (w : World) (h : IntS w A xs) (hn1 : 1 ≤ xs.length) (hn : xs.length ≤ 1000) (hu : UpOk xs xs.length) :
    Calls Try.prog 87 #[.agg #[.slice A xs.length c, .slice B m e]] w (RetI w (dep xs xs.length)) := by
  have HU := Lib.hid (fun j (h1 : 1 ≤ j) (hj : j < xs.length) => up_nat hu h1 hj)
  obtain ⟨n, hn'⟩ : ∃ n, n = xs.length := ⟨_, rfl⟩
  have HN : Hid (n = xs.length) := hn'
  rw [← hn'] at hn hn1 HU ⊢
  have hmk := run_makeI n (by omega)
  clear hn' hu
  go_enter Try.func87, Try.ntmps87
  go_wp2
  go_loopw [4] (fun i wr => ∃ k : Nat, 1 ≤ k ∧ k ≤ n ∧ i = .int .i64 k ∧ RowX wr (w.heap.size + 1) (depZ xs n k) ∧ wr.cell? ⟨w.heap.size, 0, none⟩ = some (.slice A n c) ∧ Below w.heap.size w wr) (fun i _ => n - (intOf i).toNat)
  case atStart =>
    refine ⟨1, by omega, by omega, rfl, ?_, by simp, by (repeat (first | with_reducible exact Below.refl _ _ | with_reducible assumption | with_reducible refine Below.alloc' ?_ ?_ _ | with_reducible refine Below.setCell' ?_ ?_ _ | with_reducible refine Below.drewN' ?_ _ | with_reducible refine Below.drew ?_ | with_reducible refine Below.transA ?_ (by assumption) ?_ | omega | (focus (simp; done)) | (focus (simp; omega))))⟩
    rw [depZ_one xs n hn1]; exact RowX.zero _ _ (by simp)
  case round =>
    obtain ⟨k, hk1, hk, rfl, hrx, hbx, hb1⟩ := hrel
    by_cases hlt : k < n
    · obtain ⟨b, o, rfl, hc⟩ := (h.below hb1).at_ (j := k) (by rw [← HN.out]; exact hlt)
      obtain ⟨p, hp, hpk⟩ := HU.out k hk1 hlt
      have hcp := hrx.cell (j := p) (by rw [depZ_len _ _ _ hk]; omega)
      have hck := hrx.cell (j := k) (by rw [depZ_len _ _ _ hk]; exact hlt)
      have hfk := hrx.free k
      rw [depZ_nth _ _ _ _ hpk] at hcp
      rw [hp] at hc
      have hbd := dep_bd xs k p
      obtain ⟨d, hd⟩ : ∃ d, nth (dep xs k) p = d := ⟨_, rfl⟩
      have hset := hrx.set k (d + 1)
      rw [show (depZ xs n k).set k (d + 1) = depZ xs n (k + 1) from by rw [← depZ_set xs n k hk1 hlt, hp, ← hd]; rfl] at hset
      rw [hd] at hcp hbd
      have hbx' := cell_far (u := .int .i64 (d + 1)) hbx (g := w.heap.size + 1) (by simp) k
      have hb2 := below_far (v := .int .i64 (d + 1)) hb1 (g := w.heap.size + 1) (by omega) k
      have HB := Lib.hid hbx'
      have HS := Lib.hid hset
      clear hp hd hbx' hset hrx
      go_wp2
      go_roundw
      case rel => exact ⟨k + 1, by omega, by omega, by go_num, HS.out, HB.out, hb2⟩
      case measure => simp [intOf]; omega
    · have hkn : k = n := by omega
      subst hkn
      rw [depZ_all] at hrx
      have hll : Hid ((dep xs k).length = k) := dep_len _ _
      go_wp2
      go_ret
      refine ⟨some ⟨w.heap.size + 1, 0, none⟩, k, by rw [hll.out]; rfl, .inr ⟨_, rfl, by omega, hrx.row⟩, hb1⟩

noncomputable def depR (xs ys : List Int) : List Int := if good xs ys then dep xs xs.length else []
theorem depR_len (xs ys : List Int) (hn : xs.length ≤ 1048576) : (depR xs ys).length ≤ 2000000 := by
  unfold depR; split
  · rw [dep_len]; omega
  · simp
end Go.Proofs.Ytombfbmcplefgaa
