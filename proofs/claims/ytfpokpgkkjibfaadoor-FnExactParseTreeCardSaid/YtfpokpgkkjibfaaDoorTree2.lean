/- Contracts of the statements' helpers on lists of ints and on trees: comparing, marking. -/
import Derived.Test.YtfpokpgkkjibfaaDoorTree1
namespace Go.Proofs.YtfpokpgkkjibfaaDoor
open Go.ChangeShapes Go.WideShapes Go.ChangeAt Go.RowKit

theorem Row.new (w : World) (xs : List Int) : Row (w.alloc (.cells (i64s xs).toArray 3)) w.heap.size xs :=
  ⟨_, heap_alloc_new w _, [], by simp⟩
theorem Row.new' (w : World) (xs : List Int) (g : Nat) (hg : g = w.heap.size) : Row (w.alloc (.cells (i64s xs).toArray 3)) g xs := by
  subst hg; exact Row.new w xs
theorem Row.alloc {w : World} {g : Nat} {xs : List Int} (h : Row w g xs) (o : Obj) : Row (w.alloc o) g xs := h.of_block (Below.heap_alloc w o g h.lt)
theorem IntS.alloc {w : World} {A : Option Addr} {xs : List Int} (h : IntS w A xs) (o : Obj) : IntS (w.alloc o) A xs := h.below ((Below.refl _ _).alloc (Nat.le_refl _) o)
theorem IntS.drewN {w : World} {A : Option Addr} {xs : List Int} (h : IntS w A xs) (n : Nat) : IntS (w.drewN n) A xs := h

/-- A tree that the program has made: two rows of its own. -/
def TreeAt (w : World) (p q : Nat) (xs ys : List Int) : Prop := Row w p xs ∧ Row w q ys ∧ p < q
def TreeV (p q n m : Nat) : Value := .agg #[.slice (some ⟨p, 0, none⟩) n n, .slice (some ⟨q, 0, none⟩) m m]

set_option maxHeartbeats 1000000 in
theorem toTree_any (A B : Option Addr) (c e : Nat) (xs ys : List Int) (w : World) (h : IntS w A xs) (k : IntS w B ys) (hn : xs.length ≤ 1048576) (hm : ys.length ≤ 1048576) :
    Calls Tryd.prog 44 #[.agg #[.slice A xs.length c, .slice B ys.length e]] w fun e w' => e = .returned (.agg #[.slice (some ⟨w.heap.size + 1 + 1 + 1, 0, none⟩) xs.length xs.length, .slice (some ⟨w.heap.size + 1 + 1 + 1 + 1, 0, none⟩) ys.length ys.length]) ∧ Row w' (w.heap.size + 1 + 1 + 1) xs ∧ Row w' (w.heap.size + 1 + 1 + 1 + 1) ys ∧ Below w.heap.size w w' := by
  go_enter Tryd.func44, Tryd.ntmps44
  go_wp2_with fail
  refine (toIntS_exact A c xs _ ((((h.alloc _).alloc _).alloc _)) hn).mono ?_; rintro e w1 ⟨rfl, rfl⟩
  go_wp2_with fail
  refine (toIntS_exact B _ ys _ ?_ hm).mono ?_
  · exact (((k.alloc _).alloc _).alloc _).alloc _
  rintro e w1 ⟨rfl, rfl⟩
  go_wp2
  refine bodyPost_ret (v := .agg #[.slice (some ⟨w.heap.size + 1 + 1 + 1, 0, none⟩) xs.length xs.length, .slice (some ⟨w.heap.size + 1 + 1 + 1 + 1, 0, none⟩) ys.length ys.length]) (by simp (maxDischargeDepth := 9) [results, Tryd.results44, go_sem, *]) rfl ⟨rfl, ?_, ?_, ?_⟩
  · exact (Row.new' _ _ _ (by simp)).alloc _
  · exact Row.new' _ _ _ (by simp)
  · (repeat (first | with_reducible exact Below.refl _ _ | with_reducible assumption | with_reducible refine Below.alloc' ?_ ?_ _ | with_reducible refine Below.setCell' ?_ ?_ _ | with_reducible refine Below.drewN' ?_ _ | with_reducible refine Below.drew ?_ | with_reducible refine Below.transA ?_ (by assumption) ?_ | omega | (focus (simp; done)) | (focus (simp; omega))))

set_option maxHeartbeats 400000 in
theorem eqIntS_same (A B : Option Addr) (c e : Nat) (xs : List Int) (w : World) (h : IntS w A xs) (k : IntS w B xs) (hn : xs.length ≤ maxLen) :
    Calls Tryd.prog 68 #[.slice A xs.length c, .slice B xs.length e] w fun e w' => e = .returned (.bool true) ∧ ∃ n, w' = w.drewN n := by
  unfold maxLen at hn
  go_enter Tryd.func68, Tryd.ntmps68
  go_wp2
  go_loopw [5] (fun i wr => ∃ k : Nat, k ≤ xs.length ∧ i = .int .i64 k ∧ ∃ n, wr = w.drewN n) (fun i _ => xs.length - (intOf i).toNat)
  case atStart => exact ⟨0, Nat.zero_le _, rfl, 0, rfl⟩
  case round =>
    obtain ⟨j, hj, rfl, nq, rfl⟩ := hrel
    by_cases hlt : j < xs.length
    · obtain ⟨b, o, rfl, hc⟩ := h.at_ hlt
      obtain ⟨b', o', rfl, hc'⟩ := k.at_ hlt
      have i0 : (0 : Int) ≤ (j : Int) := by omega
      have i1 : (j : Int) < (xs.length : Int) := by omega
      clear h k
      go_wp2_with fail
      go_quiet (fail)
      go_wp2
      go_roundw
      case rel => exact ⟨j + 1, by omega, by go_num, _, rfl⟩
      case measure => simp [intOf]; omega
    · go_wp2
      go_ret
      exact ⟨rfl, nq, rfl⟩

/-- What a list holds when it has been marked from k on. -/
def marks (k : Int) (n : Nat) : List Int := (List.range n).map fun (i : Nat) => k + i
theorem marks_len (k : Int) (n : Nat) : (marks k n).length = n := by simp [marks]
theorem marks_nth (k : Int) (n j : Nat) (h : j < n) : nth (marks k n) j = k + j := by simp [marks, nth, List.getD, h]

set_option maxHeartbeats 400000 in
theorem heldIntS_any (A : Option Addr) (c n : Nat) (s : Int) (w : World) (h : IntS w A (marks s n)) (hn : n ≤ 2000000) (h0 : 0 ≤ s) (h1 : s ≤ 100000000) :
    Calls Tryd.prog 70 #[.slice A n c, .int .i64 s] w fun e w' => e = .returned (.int .i64 (s + n)) ∧ w = w' := by
  go_enter Tryd.func70, Tryd.ntmps70
  go_wp2
  go_loop [1, 5] (fun q i => ∃ k : Nat, k ≤ n ∧ i = .int .i64 k ∧ q = .int .i64 (s + k)) (fun _ i => n - (intOf i).toNat)
  case atStart => exact ⟨0, Nat.zero_le _, rfl, by simp⟩
  case round =>
    obtain ⟨j, hj, rfl, rfl⟩ := hrel
    by_cases hlt : j < n
    · obtain ⟨b, o, rfl, hc⟩ := h.at_ (j := j) (by rw [marks_len]; exact hlt)
      rw [marks_nth _ _ _ hlt] at hc
      clear h
      go_wp2
      go_round
      case rel => exact ⟨j + 1, by omega, by go_num, by go_num⟩
      case measure => simp [intOf]; omega
    · have hjn : j = n := by omega
      have hr : Hid ((s + (j : Int)) = s + n) := by show _ = _; rw [hjn]
      clear hjn
      go_wp2
      go_ret
      exact ⟨ret_int hr.out, rfl⟩

theorem set_block {w : World} {g : Nat} {cs : Array Value} {t : TypeId} (h : w.heap[g]? = some (.cells cs t (0, 0))) (i : Nat) (v : Value) : (w.setCell ⟨g, i, none⟩ v).heap[g]? = some (.cells (cs.setIfInBounds i v) t (0, 0)) := by
  simp [World.setCell, Array.getElem?_modify, h]
theorem grown_set {w wr : World} {g : Nat} (h : w.grownBy wr (some g)) (i : Nat) (v : Value) : w.grownBy (wr.setCell ⟨g, i, none⟩ v) (some g) :=
  ⟨h.os, h.tape, h.output, by simpa [World.setCell] using h.size, fun k hk hne => by
    rw [Below.heap_setCell _ _ _ _ (by intro e; exact hne (by rw [e]))]; exact h.block k hk hne⟩
/-- The block's first k cells are marked from s on. -/
def Marked (wr : World) (g : Nat) (s : Int) (k n : Nat) : Prop := ∃ cs : Array Value, wr.heap[g]? = some (.cells cs 3 (0, 0)) ∧ n ≤ cs.size ∧ ∀ j, j < k → cs[j]? = some (.int .i64 (s + (j : Int)))
theorem Marked.cell {wr : World} {g : Nat} {s : Int} {k n : Nat} (h : Marked wr g s k n) {j : Nat} (hj : j < n) : ∃ u, wr.cell? ⟨g, j, none⟩ = some u := by
  obtain ⟨cs, h, hn, _⟩ := h
  exact ⟨cs[j], by rw [cell_of_row _ _ _ _ _ _ h, Array.getElem?_eq_getElem (by omega)]⟩
theorem Marked.free {wr : World} {g : Nat} {s : Int} {k n : Nat} (h : Marked wr g s k n) (j : Nat) : wr.frozen? ⟨g, j, none⟩ = false := by
  obtain ⟨cs, h, hn, _⟩ := h
  unfold World.frozen?; rw [h]; simp
theorem Marked.next {wr : World} {g : Nat} {s : Int} {k n : Nat} (h : Marked wr g s k n) (hk : k < n) : Marked (wr.setCell ⟨g, k, none⟩ (.int .i64 (s + (k : Int)))) g s (k + 1) n := by
  obtain ⟨cs, h, hn, hc⟩ := h
  refine ⟨_, set_block h k _, by simpa using hn, fun j hj => ?_⟩
  rw [Array.getElem?_setIfInBounds]
  by_cases e : k = j
  · subst e; rw [if_pos rfl, if_pos (by omega)]
  · rw [if_neg e]; exact hc j (by omega)
theorem Marked.row {wr : World} {g : Nat} {s : Int} {n : Nat} (h : Marked wr g s n n) : Row wr g (marks s n) := by
  obtain ⟨cs, h, hn, hc⟩ := h
  refine ⟨cs, h, cs.toList.drop n, ?_⟩
  have : i64s (marks s n) = cs.toList.take n := by
    apply List.ext_getElem
    · simp [i64s, marks]; omega
    · intro j h1 h2
      simp [i64s, marks] at h1
      have h3 := hc j h1
      rw [Array.getElem?_eq_getElem (by omega)] at h3
      simp [i64s, marks]
      exact (Option.some.inj h3).symm
  rw [this, List.take_append_drop]
theorem Row.marked {w : World} {g : Nat} {xs : List Int} (h : Row w g xs) (s : Int) : Marked w g s 0 xs.length := by
  obtain ⟨cs, h, r, hr⟩ := h
  refine ⟨cs, h, ?_, fun j hj => absurd hj (by omega)⟩
  have := congrArg List.length hr
  simp [i64s] at this; omega

set_option maxHeartbeats 400000 in
theorem markIntS_row (g c : Nat) (xs : List Int) (s : Int) (w : World) (h : Row w g xs) (hn : xs.length ≤ 2000000) (h0 : 0 ≤ s) (h1 : s ≤ 100000000) :
    Calls Tryd.prog 69 #[.slice (some ⟨g, 0, none⟩) xs.length c, .int .i64 s] w fun e w' => e = .returned (.int .i64 (s + xs.length)) ∧ Row w' g (marks s xs.length) ∧ w.grownBy w' (some g) := by
  have hm := h.marked s
  clear h
  obtain ⟨n, hn'⟩ : ∃ n, n = xs.length := ⟨_, rfl⟩
  rw [← hn'] at hm hn ⊢
  clear hn' xs
  go_enter Tryd.func69, Tryd.ntmps69
  go_wp2
  go_loopw [1, 5] (fun q i wr => ∃ k : Nat, k ≤ n ∧ i = .int .i64 k ∧ q = .int .i64 (s + k) ∧ Marked wr g s k n ∧ w.grownBy wr (some g)) (fun _ i _ => n - (intOf i).toNat)
  case atStart => exact ⟨0, Nat.zero_le _, rfl, by simp, hm, World.grownBy.refl w _⟩
  case round =>
    obtain ⟨j, hj, rfl, rfl, hmk, hgr⟩ := hrel
    by_cases hlt : j < n
    · obtain ⟨u, hu⟩ := hmk.cell hlt
      have hf := hmk.free j
      have hnx := hmk.next hlt
      have hgn := grown_set hgr j (.int .i64 (s + (j : Int)))
      clear hmk hgr hm
      go_wp2
      go_roundw
      case rel => exact ⟨j + 1, by omega, by go_num, by go_num, hnx, hgn⟩
      case measure => simp [intOf]; omega
    · have hjn : j = n := by omega
      have hr : Hid ((s + (j : Int)) = s + n) := by show _ = _; rw [hjn]
      rw [hjn] at hmk
      have hrow := hmk.row
      clear hjn hmk hm
      go_wp2
      go_ret
      exact ⟨ret_int hr.out, hrow, hgr⟩
end Go.Proofs.YtfpokpgkkjibfaaDoor
