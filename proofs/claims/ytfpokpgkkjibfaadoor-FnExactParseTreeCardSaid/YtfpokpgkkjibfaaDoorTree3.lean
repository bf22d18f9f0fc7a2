/- Contracts: the children of a node (the reference's), and what makes a tree. -/
import Derived.Test.YtfpokpgkkjibfaaDoorTree2
import Derived.Test.YtfpokpgkkjibfaaDoorFrac
namespace Go.Proofs.YtfpokpgkkjibfaaDoor
open Go.ChangeShapes Go.WideShapes Go.ChangeAt Go.RowKit

/-- A call that hands back a new list. -/
def RetI (w : World) (xs : List Int) (e : Ending) (w' : World) : Prop := ∃ A c, e = .returned (.slice A xs.length c) ∧ OwnS w' w.heap.size A xs ∧ Below w.heap.size w w'
theorem own_form {w : World} {B : Nat} {v : Value} {xs : List Int} {n : Nat} (h : w.ownsRow B 3 1 v n (i64s xs)) : ∃ A c, v = .slice A xs.length c ∧ OwnS w B A xs := by
  have hl : xs.length = n := by have := h.1; simpa [i64s] using this
  subst hl
  rcases h.2 with ⟨rfl, h0⟩ | ⟨g, cap, cur, rfl, hg, hh, h1, h2, h3, h4⟩
  · exact ⟨none, 0, by rw [h0], .inl ⟨rfl, List.eq_nil_of_length_eq_zero h0⟩⟩
  · refine ⟨some ⟨g, 0, none⟩, cap, rfl, .inr ⟨g, rfl, hg, cur, hh, cur.toList.drop (xs.length * 1), ?_⟩⟩
    rw [← h4, List.take_append_drop]

/-- The numbers below k that a test lets through, as ints. -/
def pick (f : Nat → Bool) (k : Nat) : List Int := ((List.range k).filter f).map fun (i : Nat) => (i : Int)
theorem pick_zero (f : Nat → Bool) : pick f 0 = [] := rfl
theorem pick_yes {f : Nat → Bool} {k : Nat} (h : f k = true) : pick f (k + 1) = pick f k ++ [(k : Int)] := by
  unfold pick; rw [List.range_succ, List.filter_append]; simp [h]
theorem pick_no {f : Nat → Bool} {k : Nat} (h : f k = false) : pick f (k + 1) = pick f k := by
  unfold pick; rw [List.range_succ, List.filter_append]; simp [h]
theorem pick_len (f : Nat → Bool) (k : Nat) : (pick f k).length ≤ k := by
  unfold pick; rw [List.length_map]; exact Nat.le_trans (List.length_filter_le _ _) (by simp)
theorem pick_low {f : Nat → Bool} {k : Nat} (h : ∀ j, j < k → f j = false) : pick f k = [] := by
  unfold pick
  rw [List.map_eq_nil_iff, List.filter_eq_nil_iff]
  intro j hj
  rw [h j (List.mem_range.1 hj)]; simp
theorem i64s_app (xs : List Int) (a : Int) : i64s (xs ++ [a]) = i64s xs ++ [Value.int .i64 a] := by simp [i64s]

theorem own_empty (W : World) (B g : Nat) (hg : g = W.heap.size) (hB : B ≤ g) : (W.alloc (.cells #[] 3)).ownsRow B 3 1 (.slice (some ⟨g, 0, none⟩) 0 0) 0 [] := by
  subst hg
  exact ⟨rfl, .inr ⟨W.heap.size, 0, #[], rfl, hB, heap_alloc_new W _, Nat.le_refl _, by simp [maxLen], rfl, rfl⟩⟩
theorem grown_cell {W w1 : World} {row : Option Nat} {p : Addr} {v : Value} (hg : W.grownBy w1 row) (h : W.cell? p = some v) (hr : row ≠ some p.block) : w1.cell? p = some v :=
  (World.cell?_of_block (hg.block p.block (World.block_lt_of_cell? W p h) (fun e => hr e.symm))).trans h
theorem own_ne {w : World} {B size n g : Nat} {e : TypeId} {v : Value} {xs : List Value} (h : w.ownsRow B e size v n xs) (hg : g < B) : v.ownBlock ≠ some g := fun e => by
  have := (h.lt g e).1; omega

def isKid (xs : List Int) (x : Nat) (y : Nat) : Bool := decide (x < y) && nth xs y == (x : Int)

set_option maxHeartbeats 1000000 in
set_option maxRecDepth 100000 in
theorem l2Kids_any (A B : Option Addr) (c m e x : Nat) (xs : List Int) (w : World) (h : IntS w A xs) (hn : xs.length ≤ 1000) (hx : x < xs.length) :
    Calls Tryd.prog 82 #[.agg #[.slice A xs.length c, .slice B m e], .int .i64 x] w (RetI w (pick (isKid xs x) xs.length)) := by
  obtain ⟨i0, hi, hz0, hz1, hz2⟩ := info_parts info_int
  obtain ⟨n, hn'⟩ : ∃ n, n = xs.length := ⟨_, rfl⟩
  have HN : Hid (n = xs.length) := hn'
  rw [← hn'] at hn hx ⊢
  clear hn'
  go_enter Tryd.func82, Tryd.ntmps82
  go_wp2
  go_loopw [5, 6] (fun v i wr => ∃ k : Nat, x < k ∧ k ≤ n ∧ i = .int .i64 k ∧ wr.ownsRow (w.heap.size + 1) 3 1 v (pick (isKid xs x) k).length (i64s (pick (isKid xs x) k)) ∧ wr.cell? ⟨w.heap.size, 0, none⟩ = some (.slice A n c) ∧ Below w.heap.size w wr) (fun _ i _ => n - (intOf i).toNat)
  case atStart =>
    have hp : pick (isKid xs x) (x + 1) = [] := pick_low fun j hj => by simp [isKid]; omega
    refine ⟨x + 1, by omega, by omega, by go_num, ?_, by simp, by (repeat (first | with_reducible exact Below.refl _ _ | with_reducible assumption | with_reducible refine Below.alloc' ?_ ?_ _ | with_reducible refine Below.setCell' ?_ ?_ _ | with_reducible refine Below.drewN' ?_ _ | with_reducible refine Below.drew ?_ | with_reducible refine Below.transA ?_ (by assumption) ?_ | omega | (focus (simp; done)) | (focus (simp; omega))))⟩
    rw [hp]
    exact own_empty _ _ _ (by simp) (by simp)
  case round =>
    obtain ⟨k, hxk, hk, rfl, hown, hbx, hb1⟩ := hrel
    have hlen := pick_len (isKid xs x) k
    have hw := World.block_lt_of_cell? _ _ hbx
    have hw' : w.heap.size < wr.heap.size := hw
    clear hw
    by_cases hlt : k < n
    · obtain ⟨b, o, rfl, hc⟩ := (h.below hb1).at_ (j := k) (by rw [← HN.out]; exact hlt)
      by_cases hy : nth xs k = (x : Int)
      · have hyb : (nth xs k == (x : Int)) = true := by simpa using hy
        have hp := pick_yes (f := isKid xs x) (k := k) (by simp [isKid, hy, hxk])
        have HP : Hid (i64s (pick (isKid xs x) (k + 1)) = i64s (pick (isKid xs x) k) ++ [Value.int .i64 (k : Int)] ∧ (pick (isKid xs x) (k + 1)).length = (pick (isKid xs x) k).length + 1) := by
          rw [hp]; exact ⟨i64s_app _ _, by simp⟩
        clear hp hy
        generalize pick (isKid xs x) k = P at *
        go_wp2_with (at_builtin; refine wpList_append_own_at _ rfl _ _ 32 rfl (w.heap.size + 1) 3 i0 (.int .i64 0) 1 8 Tryd.underlying32 hi hz0 hz1 hz2 rfl (by decide) _ _ _ rfl (hown.alloc _) ⟨wr.heap.size, 0, none⟩ 1 1 [.int .i64 k] rfl rfl (cell_one_new _ _ _) (by simp [Value.oneCell']) (by unfold maxLen; omega) (by omega) (by simp; omega) ?_; intro v' w1 hown1 hgrow _ _)
        have hbx1 := grown_cell hgrow (p := ⟨w.heap.size, 0, none⟩) (by rw [World.cell?_alloc_lt _ _ _ hw']; exact hbx) (own_ne (g := w.heap.size) hown (by omega))
        have hb2 : Below w.heap.size w w1 := Below.grown (hb1.alloc (by omega) _) hgrow (by simp; omega) (fun g hg => by have := (hown.lt g hg).1; omega)
        rw [← HP.out.1, ← HP.out.2] at hown1
        clear hown hgrow hbx hb1 HP
        go_wp2
        go_roundw
        case rel => exact ⟨k + 1, by omega, by omega, by go_num, hown1, hbx1, hb2⟩
        case measure => simp [intOf]; omega
      · have hyb : (nth xs k == (x : Int)) = false := by simpa using hy
        have hp := pick_no (f := isKid xs x) (k := k) (by simp [isKid, hy])
        rw [← hp] at hown
        clear hp hy
        go_wp2
        go_roundw
        case rel => exact ⟨k + 1, by omega, by omega, by go_num, hown, hbx, hb1⟩
        case measure => simp [intOf]; omega
    · have hkn : k = n := by omega
      rw [hkn] at hown
      obtain ⟨A', c', rfl, hO⟩ := own_form hown
      clear hkn hown
      go_wp2
      go_ret
      exact ⟨A', c', rfl, hO.mono (by omega), hb1⟩
theorem pick_mem {f : Nat → Bool} {k j : Nat} (h : j < (pick f k).length) : ∃ y : Nat, nth (pick f k) j = y ∧ y < k ∧ f y = true := by
  have hm : (pick f k)[j] ∈ pick f k := List.getElem_mem h
  have hn : nth (pick f k) j = (pick f k)[j] := by simp [nth, List.getD, h]
  rw [hn]
  obtain ⟨y, hy, he⟩ := List.mem_map.1 hm
  have := List.mem_filter.1 hy
  exact ⟨y, he.symm, List.mem_range.1 this.1, this.2⟩
end Go.Proofs.YtfpokpgkkjibfaaDoor
