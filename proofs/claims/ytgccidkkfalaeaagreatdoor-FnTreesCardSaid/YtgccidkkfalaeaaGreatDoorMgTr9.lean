/- Lists of ints and trees in memory; contracts of the statements' helpers on them. -/
import Derived.Laws.MakeOwn
import Derived.Deep.RegionHeld3
import Derived.Test.YtgccidkkfalaeaaGreatDoorMgTr7
import Derived.Test.YtgccidkkfalaeaaGreatDoorMgTr5
namespace Go.Proofs.YtgccidkkfalaeaaGreatDoor
open Go.ChangeShapes Go.WideShapes Go.ChangeAt Go.RowKit

def i64s (xs : List Int) : List Value := xs.map (Value.int .i64)
/-- Block g begins with the list xs. -/
def Row (w : World) (g : Nat) (xs : List Int) : Prop := ∃ cs : Array Value, w.heap[g]? = some (.cells cs 3 (0, 0)) ∧ ∃ r, cs.toList = i64s xs ++ r
/-- A slice's place that the program itself has made: nil, or the head of a block from B on. -/
def OwnS (w : World) (B : Nat) (A : Option Addr) (xs : List Int) : Prop := (A = none ∧ xs = []) ∨ ∃ g, A = some ⟨g, 0, none⟩ ∧ B ≤ g ∧ Row w g xs

theorem Row.lt {w : World} {g : Nat} {xs : List Int} (h : Row w g xs) : g < w.heap.size := by
  obtain ⟨cs, h, _⟩ := h
  rcases Nat.lt_or_ge g w.heap.size with hlt | hge
  · exact hlt
  · rw [Array.getElem?_eq_none hge] at h; cases h
theorem Row.cell {w : World} {g : Nat} {xs : List Int} (h : Row w g xs) {j : Nat} (hj : j < xs.length) : w.cell? ⟨g, j, none⟩ = some (.int .i64 (nth xs j)) := by
  obtain ⟨cs, h, r, hr⟩ := h
  rw [cell_of_row _ _ _ _ _ _ h]
  have : cs[j]? = cs.toList[j]? := by simp
  rw [this, hr, List.getElem?_append_left (by simpa [i64s] using hj)]
  simp [i64s, nth, List.getD, hj]
theorem Row.frozen {w : World} {g : Nat} {xs : List Int} (h : Row w g xs) (j : Nat) : w.frozen? ⟨g, j, none⟩ = false := by
  obtain ⟨cs, h, r, hr⟩ := h
  unfold World.frozen?
  rw [h]; simp
theorem Row.of_block {w w' : World} {g : Nat} {xs : List Int} (h : Row w g xs) (he : w'.heap[g]? = w.heap[g]?) : Row w' g xs := by
  obtain ⟨cs, h, r⟩ := h
  exact ⟨cs, he.trans h, r⟩
theorem Row.below {w w' : World} {g : Nat} {xs : List Int} (h : Row w g xs) (hb : Below w.heap.size w w') : Row w' g xs := h.of_block (hb.block g h.lt)
theorem Row.grown {w w' : World} {g : Nat} {xs : List Int} {row : Option Nat} (h : Row w g xs) (hb : w.grownBy w' row) (hg : some g ≠ row) : Row w' g xs := h.of_block (hb.block g h.lt hg)
theorem OwnS.below {w w' : World} {B : Nat} {A : Option Addr} {xs : List Int} (h : OwnS w B A xs) (hb : Below w.heap.size w w') : OwnS w' B A xs := by
  rcases h with h | ⟨g, h1, h2, h3⟩
  · exact .inl h
  · exact .inr ⟨g, h1, h2, h3.below hb⟩
theorem OwnS.mono {w : World} {B B' : Nat} {A : Option Addr} {xs : List Int} (h : OwnS w B A xs) (hB : B' ≤ B) : OwnS w B' A xs := by
  rcases h with h | ⟨g, h1, h2, h3⟩
  · exact .inl h
  · exact .inr ⟨g, h1, by omega, h3⟩
theorem OwnS.ints {w : World} {B : Nat} {A : Option Addr} {xs : List Int} (h : OwnS w B A xs) : IntS w A xs := by
  rcases h with ⟨_, rfl⟩ | ⟨g, rfl, _, h3⟩
  · intro h; simp at h
  · intro _
    exact ⟨_, rfl, fun j hj => by
      have e : (⟨g, 0, none⟩ : Addr).add j = ⟨g, j, none⟩ := by
        unfold Addr.add; split <;> simp_all
      rw [e]; exact h3.cell hj⟩
theorem IntS.below {w w' : World} {A : Option Addr} {xs : List Int} (h : IntS w A xs) (hb : Below w.heap.size w w') : IntS w' A xs := by
  intro h0
  obtain ⟨ad, rfl, h1⟩ := h h0
  exact ⟨ad, rfl, fun j hj => keep_cell hb (h1 j hj)⟩
theorem IntS.keep {w w' : World} {A : Option Addr} {xs : List Int} (h : IntS w A xs) (hb : ∀ p v, w.cell? p = some v → w'.cell? p = some v) : IntS w' A xs := by
  intro h0
  obtain ⟨ad, rfl, h1⟩ := h h0
  exact ⟨ad, rfl, fun j hj => hb _ _ (h1 j hj)⟩
theorem IntS.at_ {w : World} {A : Option Addr} {xs : List Int} (h : IntS w A xs) {j : Nat} (hj : j < xs.length) : ∃ b o, A = some ⟨b, o, none⟩ ∧ w.cell? ⟨b, o + j, none⟩ = some (.int .i64 (nth xs j)) := by
  obtain ⟨⟨b, o, s⟩, rfl, h2⟩ := h (by omega)
  have hs : s = none := by
    have h0 := h2 0 (by omega)
    rcases s with _ | s
    · rfl
    · simp [Addr.add, World.cell?] at h0
      split at h0 <;> simp at h0
  subst hs
  have h1 := h2 j hj
  refine ⟨b, o, rfl, ?_⟩
  have e : (⟨b, o, none⟩ : Addr).add j = ⟨b, o + j, none⟩ := by
    unfold Addr.add; split <;> simp_all
  rw [← e]; exact h1
end Go.Proofs.YtgccidkkfalaeaaGreatDoor
/- Contracts of the statements' helpers on lists of ints and on trees: sizes and copies. -/
namespace Go.Proofs.YtgccidkkfalaeaaGreatDoor
open Go.ChangeShapes Go.WideShapes Go.ChangeAt Go.RowKit

/-- The first k of a list, and zeros up to its length. -/
def fillI (xs : List Int) (k : Nat) : Array Value := (i64s (xs.take k) ++ List.replicate (xs.length - k) (Value.int .i64 0)).toArray
theorem fillI_zero (xs : List Int) : fillI xs 0 = Array.replicate xs.length (Value.int .i64 0) := by simp [fillI, i64s]
theorem fillI_full (xs : List Int) : fillI xs xs.length = (i64s xs).toArray := by simp [fillI, i64s]
theorem fillI_size (xs : List Int) (k : Nat) (hk : k ≤ xs.length) : (fillI xs k).size = xs.length := by
  simp [fillI, i64s]; omega
theorem fillI_set (xs : List Int) (k : Nat) (hk : k < xs.length) : (fillI xs k).setIfInBounds k (.int .i64 (nth xs k)) = fillI xs (k + 1) := by
  apply Array.ext
  · rw [Array.size_setIfInBounds, fillI_size _ _ (by omega), fillI_size _ _ (by omega)]
  · intro i h1 h2
    rw [Array.size_setIfInBounds, fillI_size _ _ (by omega)] at h1
    rw [Array.getElem_setIfInBounds (by rw [fillI_size _ _ (by omega)]; omega)]
    split
    · rename_i h; subst h
      simp only [fillI, List.getElem_toArray]
      rw [List.getElem_append_left (by simp [i64s]; omega)]
      simp [i64s, nth, List.getD, List.getElem?_eq_getElem hk]
    · rename_i h
      simp only [fillI, List.getElem_toArray]
      by_cases hi : i < k
      · rw [List.getElem_append_left (by simp [i64s]; omega), List.getElem_append_left (by simp [i64s]; omega)]
        simp [i64s]
      · rw [List.getElem_append_right (by simp [i64s]; omega), List.getElem_append_right (by simp [i64s]; omega)]
        simp
theorem fillI_at (xs : List Int) (k : Nat) (hk : k < xs.length) : ∃ u, (fillI xs k)[k]? = some u := ⟨_, Array.getElem?_eq_getElem (by rw [fillI_size _ _ (by omega)]; exact hk)⟩
theorem madeI (n : Nat) : madeCells #[.int .i64 0] n = Array.replicate n (Value.int .i64 0) := by
  apply Array.ext
  · simp [madeCells]
  · intro i h1 h2
    have h0 : i % 1 = 0 := Nat.mod_one i
    simp [madeCells, h0]

theorem info_int : (Tryz.prog.info? 3).map (fun i => (i.zero, i.size, i.bytes)) = some (some (.int .i64 0), 1, 8) := by kernel_rfl
theorem run_makeI (n : Nat) (hn : n ≤ 1048576) (w : World) :
    (Instr.makeSlice 24 (.int .i64 (n : Int)) (.int .i64 (n : Int))).run Tryz.prog w = .ok (.slice (some ⟨w.heap.size, 0, none⟩) n n) (w.alloc (.cells (Array.replicate n (Value.int .i64 0)) 3)) := by
  obtain ⟨i0, hi, hz0, hz1, hz2⟩ := info_parts info_int
  have h := run_make (P := Tryz.prog) w 24 3 i0 (.int .i64 0) Tryz.underlying24 hi hz0 .i64 .i64 (n : Int) (n : Int) (by omega) (Int.le_refl _) (by rw [hz2]; omega) (by omega)
  rw [h, hz1, ← madeI]
  simp [Value.cells]

end Go.Proofs.YtgccidkkfalaeaaGreatDoor
/- Contracts of the statements' helpers on lists of ints and on trees: comparing, marking. -/
namespace Go.Proofs.YtgccidkkfalaeaaGreatDoor
open Go.ChangeShapes Go.WideShapes Go.ChangeAt Go.RowKit

theorem Row.new (w : World) (xs : List Int) : Row (w.alloc (.cells (i64s xs).toArray 3)) w.heap.size xs :=
  ⟨_, heap_alloc_new w _, [], by simp⟩
theorem Row.new' (w : World) (xs : List Int) (g : Nat) (hg : g = w.heap.size) : Row (w.alloc (.cells (i64s xs).toArray 3)) g xs := by
  subst hg; exact Row.new w xs
theorem Row.alloc {w : World} {g : Nat} {xs : List Int} (h : Row w g xs) (o : Obj) : Row (w.alloc o) g xs := h.of_block (Below.heap_alloc w o g h.lt)
theorem IntS.alloc {w : World} {A : Option Addr} {xs : List Int} (h : IntS w A xs) (o : Obj) : IntS (w.alloc o) A xs := h.below ((Below.refl _ _).alloc (Nat.le_refl _) o)
theorem IntS.drewN {w : World} {A : Option Addr} {xs : List Int} (h : IntS w A xs) (n : Nat) : IntS (w.drewN n) A xs := h

/-- A tree that the program has made: two rows of its own. -/
def TreeAt (w : World) (p q : Nat) (xs ys : List Int) : Prop := Row w p xs ∧ Row w q ys ∧ p < q
def TreeV (p q n m : Nat) : Value := .agg #[.slice (some ⟨p, 0, none⟩) n n, .slice (some ⟨q, 0, none⟩) m m]

/-- What a list holds when it has been marked from k on. -/
def marks (k : Int) (n : Nat) : List Int := (List.range n).map fun (i : Nat) => k + i
theorem marks_len (k : Int) (n : Nat) : (marks k n).length = n := by simp [marks]
theorem marks_nth (k : Int) (n j : Nat) (h : j < n) : nth (marks k n) j = k + j := by simp [marks, nth, List.getD, h]

theorem set_block {w : World} {g : Nat} {cs : Array Value} {t : TypeId} (h : w.heap[g]? = some (.cells cs t (0, 0))) (i : Nat) (v : Value) : (w.setCell ⟨g, i, none⟩ v).heap[g]? = some (.cells (cs.setIfInBounds i v) t (0, 0)) := by
  simp [World.setCell, Array.getElem?_modify, h]
theorem grown_set {w wr : World} {g : Nat} (h : w.grownBy wr (some g)) (i : Nat) (v : Value) : w.grownBy (wr.setCell ⟨g, i, none⟩ v) (some g) :=
  ⟨h.os, h.tape, h.output, by simpa [World.setCell] using h.size, fun k hk hne => by
    rw [Below.heap_setCell _ _ _ _ (by intro e; exact hne (by rw [e]))]; exact h.block k hk hne⟩
/-- The block's first k cells are marked from s on. -/
def Marked (wr : World) (g : Nat) (s : Int) (k n : Nat) : Prop := ∃ cs : Array Value, wr.heap[g]? = some (.cells cs 3 (0, 0)) ∧ n ≤ cs.size ∧ ∀ j, j < k → cs[j]? = some (.int .i64 (s + (j : Int)))
theorem Marked.cell {wr : World} {g : Nat} {s : Int} {k n : Nat} (h : Marked wr g s k n) {j : Nat} (hj : j < n) : ∃ u, wr.cell? ⟨g, j, none⟩ = some u := by
  obtain ⟨cs, h, hn, _⟩ := h
  exact ⟨cs[j], by rw [cell_of_row _ _ _ _ _ _ h, Array.getElem?_eq_getElem (by omega)]⟩
theorem Marked.free {wr : World} {g : Nat} {s : Int} {k n : Nat} (h : Marked wr g s k n) (j : Nat) : wr.frozen? ⟨g, j, none⟩ = false := by
  obtain ⟨cs, h, hn, _⟩ := h
  unfold World.frozen?; rw [h]; simp
theorem Marked.next {wr : World} {g : Nat} {s : Int} {k n : Nat} (h : Marked wr g s k n) (hk : k < n) : Marked (wr.setCell ⟨g, k, none⟩ (.int .i64 (s + (k : Int)))) g s (k + 1) n := by
  obtain ⟨cs, h, hn, hc⟩ := h
  refine ⟨_, set_block h k _, by simpa using hn, fun j hj => ?_⟩
  rw [Array.getElem?_setIfInBounds]
  by_cases e : k = j
  · subst e; rw [if_pos rfl, if_pos (by omega)]
  · rw [if_neg e]; exact hc j (by omega)
theorem Marked.row {wr : World} {g : Nat} {s : Int} {n : Nat} (h : Marked wr g s n n) : Row wr g (marks s n) := by
  obtain ⟨cs, h, hn, hc⟩ := h
  refine ⟨cs, h, cs.toList.drop n, ?_⟩
  have : i64s (marks s n) = cs.toList.take n := by
    apply List.ext_getElem
    · simp [i64s, marks]; omega
    · intro j h1 h2
      simp [i64s, marks] at h1
      have h3 := hc j h1
      rw [Array.getElem?_eq_getElem (by omega)] at h3
      simp [i64s, marks]
      exact (Option.some.inj h3).symm
  rw [this, List.take_append_drop]
theorem Row.marked {w : World} {g : Nat} {xs : List Int} (h : Row w g xs) (s : Int) : Marked w g s 0 xs.length := by
  obtain ⟨cs, h, r, hr⟩ := h
  refine ⟨cs, h, ?_, fun j hj => absurd hj (by omega)⟩
  have := congrArg List.length hr
  simp [i64s] at this; omega

end Go.Proofs.YtgccidkkfalaeaaGreatDoor
/- Contracts: the children of a node (the reference's), and what makes a tree. -/
namespace Go.Proofs.YtgccidkkfalaeaaGreatDoor
open Go.ChangeShapes Go.WideShapes Go.ChangeAt Go.RowKit

/-- A call that hands back a new list. -/
def RetI (w : World) (xs : List Int) (e : Ending) (w' : World) : Prop := ∃ A c, e = .returned (.slice A xs.length c) ∧ OwnS w' w.heap.size A xs ∧ Below w.heap.size w w'
theorem own_form {w : World} {B : Nat} {v : Value} {xs : List Int} {n : Nat} (h : w.ownsRow B 3 1 v n (i64s xs)) : ∃ A c, v = .slice A xs.length c ∧ OwnS w B A xs := by
  have hl : xs.length = n := by have := h.1; simpa [i64s] using this
  subst hl
  rcases h.2 with ⟨rfl, h0⟩ | ⟨g, cap, cur, rfl, hg, hh, h1, h2, h3, h4⟩
  · exact ⟨none, 0, by rw [h0], .inl ⟨rfl, List.eq_nil_of_length_eq_zero h0⟩⟩
  · refine ⟨some ⟨g, 0, none⟩, cap, rfl, .inr ⟨g, rfl, hg, cur, hh, cur.toList.drop (xs.length * 1), ?_⟩⟩
    rw [← h4, List.take_append_drop]

/-- The numbers below k that a test lets through, as ints. -/
def pick (f : Nat → Bool) (k : Nat) : List Int := ((List.range k).filter f).map fun (i : Nat) => (i : Int)
theorem pick_zero (f : Nat → Bool) : pick f 0 = [] := rfl
theorem pick_yes {f : Nat → Bool} {k : Nat} (h : f k = true) : pick f (k + 1) = pick f k ++ [(k : Int)] := by
  unfold pick; rw [List.range_succ, List.filter_append]; simp [h]
theorem pick_no {f : Nat → Bool} {k : Nat} (h : f k = false) : pick f (k + 1) = pick f k := by
  unfold pick; rw [List.range_succ, List.filter_append]; simp [h]
theorem pick_len (f : Nat → Bool) (k : Nat) : (pick f k).length ≤ k := by
  unfold pick; rw [List.length_map]; exact Nat.le_trans (List.length_filter_le _ _) (by simp)
theorem pick_low {f : Nat → Bool} {k : Nat} (h : ∀ j, j < k → f j = false) : pick f k = [] := by
  unfold pick
  rw [List.map_eq_nil_iff, List.filter_eq_nil_iff]
  intro j hj
  rw [h j (List.mem_range.1 hj)]; simp
theorem i64s_app (xs : List Int) (a : Int) : i64s (xs ++ [a]) = i64s xs ++ [Value.int .i64 a] := by simp [i64s]

theorem own_empty (W : World) (B g : Nat) (hg : g = W.heap.size) (hB : B ≤ g) : (W.alloc (.cells #[] 3)).ownsRow B 3 1 (.slice (some ⟨g, 0, none⟩) 0 0) 0 [] := by
  subst hg
  exact ⟨rfl, .inr ⟨W.heap.size, 0, #[], rfl, hB, heap_alloc_new W _, Nat.le_refl _, by simp [maxLen], rfl, rfl⟩⟩
theorem grown_cell {W w1 : World} {row : Option Nat} {p : Addr} {v : Value} (hg : W.grownBy w1 row) (h : W.cell? p = some v) (hr : row ≠ some p.block) : w1.cell? p = some v :=
  (World.cell?_of_block (hg.block p.block (World.block_lt_of_cell? W p h) (fun e => hr e.symm))).trans h
theorem own_ne {w : World} {B size n g : Nat} {e : TypeId} {v : Value} {xs : List Value} (h : w.ownsRow B e size v n xs) (hg : g < B) : v.ownBlock ≠ some g := fun e => by
  have := (h.lt g e).1; omega

def isKid (xs : List Int) (x : Nat) (y : Nat) : Bool := decide (x < y) && nth xs y == (x : Int)

set_option maxHeartbeats 1000000 in
set_option maxRecDepth 100000 in
theorem l2Kids_any (A B : Option Addr) (c m e x : Nat) (xs : List Int) (w : World) (h : IntS w A xs) (hn : xs.length ≤ 1000) (hx : x < xs.length) :
    Calls Tryz.prog 60 #[.agg #[.slice A xs.length c, .slice B m e], .int .i64 x] w (RetI w (pick (isKid xs x) xs.length)) := by
  obtain ⟨i0, hi, hz0, hz1, hz2⟩ := info_parts info_int
  obtain ⟨n, hn'⟩ : ∃ n, n = xs.length := ⟨_, rfl⟩
  have HN : Hid (n = xs.length) := hn'
  rw [← hn'] at hn hx ⊢
  clear hn'
  go_enter Tryz.func60, Tryz.ntmps60
  go_wp2
  go_loopw [5, 6] (fun v i wr => ∃ k : Nat, x < k ∧ k ≤ n ∧ i = .int .i64 k ∧ wr.ownsRow (w.heap.size + 1) 3 1 v (pick (isKid xs x) k).length (i64s (pick (isKid xs x) k)) ∧ wr.cell? ⟨w.heap.size, 0, none⟩ = some (.slice A n c) ∧ Below w.heap.size w wr) (fun _ i _ => n - (intOf i).toNat)
  case atStart =>
    have hp : pick (isKid xs x) (x + 1) = [] := pick_low fun j hj => by simp [isKid]; omega
    refine ⟨x + 1, by omega, by omega, by go_num, ?_, by simp, by (repeat (first | with_reducible exact Below.refl _ _ | with_reducible assumption | with_reducible refine Below.alloc' ?_ ?_ _ | with_reducible refine Below.setCell' ?_ ?_ _ | with_reducible refine Below.drewN' ?_ _ | with_reducible refine Below.drew ?_ | with_reducible refine Below.transA ?_ (by assumption) ?_ | omega | (focus (simp; done)) | (focus (simp; omega))))⟩
    rw [hp]
    exact own_empty _ _ _ (by simp) (by simp)
  case round =>
    obtain ⟨k, hxk, hk, rfl, hown, hbx, hb1⟩ := hrel
    have hlen := pick_len (isKid xs x) k
    have hw := World.block_lt_of_cell? _ _ hbx
    have hw' : w.heap.size < wr.heap.size := hw
    clear hw
    by_cases hlt : k < n
    · obtain ⟨b, o, rfl, hc⟩ := (h.below hb1).at_ (j := k) (by rw [← HN.out]; exact hlt)
      by_cases hy : nth xs k = (x : Int)
      · have hyb : (nth xs k == (x : Int)) = true := by simpa using hy
        have hp := pick_yes (f := isKid xs x) (k := k) (by simp [isKid, hy, hxk])
        have HP : Hid (i64s (pick (isKid xs x) (k + 1)) = i64s (pick (isKid xs x) k) ++ [Value.int .i64 (k : Int)] ∧ (pick (isKid xs x) (k + 1)).length = (pick (isKid xs x) k).length + 1) := by
          rw [hp]; exact ⟨i64s_app _ _, by simp⟩
        clear hp hy
        generalize pick (isKid xs x) k = P at *
        go_wp2_with (at_builtin; refine wpList_append_own_at _ rfl _ _ 24 rfl (w.heap.size + 1) 3 i0 (.int .i64 0) 1 8 Tryz.underlying24 hi hz0 hz1 hz2 rfl (by decide) _ _ _ rfl (hown.alloc _) ⟨wr.heap.size, 0, none⟩ 1 1 [.int .i64 k] rfl rfl (cell_one_new _ _ _) (by simp [Value.oneCell']) (by unfold maxLen; omega) (by omega) (by simp; omega) ?_; intro v' w1 hown1 hgrow _ _)
        have hbx1 := grown_cell hgrow (p := ⟨w.heap.size, 0, none⟩) (by rw [World.cell?_alloc_lt _ _ _ hw']; exact hbx) (own_ne (g := w.heap.size) hown (by omega))
        have hb2 : Below w.heap.size w w1 := Below.grown (hb1.alloc (by omega) _) hgrow (by simp; omega) (fun g hg => by have := (hown.lt g hg).1; omega)
        rw [← HP.out.1, ← HP.out.2] at hown1
        clear hown hgrow hbx hb1 HP
        go_wp2
        go_roundw
        case rel => exact ⟨k + 1, by omega, by omega, by go_num, hown1, hbx1, hb2⟩
        case measure => simp [intOf]; omega
      · have hyb : (nth xs k == (x : Int)) = false := by simpa using hy
        have hp := pick_no (f := isKid xs x) (k := k) (by simp [isKid, hy])
        rw [← hp] at hown
        clear hp hy
        go_wp2
        go_roundw
        case rel => exact ⟨k + 1, by omega, by omega, by go_num, hown, hbx, hb1⟩
        case measure => simp [intOf]; omega
    · have hkn : k = n := by omega
      rw [hkn] at hown
      obtain ⟨A', c', rfl, hO⟩ := own_form hown
      clear hkn hown
      go_wp2
      go_ret
      exact ⟨A', c', rfl, hO.mono (by omega), hb1⟩
theorem pick_mem {f : Nat → Bool} {k j : Nat} (h : j < (pick f k).length) : ∃ y : Nat, nth (pick f k) j = y ∧ y < k ∧ f y = true := by
  have hm : (pick f k)[j] ∈ pick f k := List.getElem_mem h
  have hn : nth (pick f k) j = (pick f k)[j] := by simp [nth, List.getD, h]
  rw [hn]
  obtain ⟨y, hy, he⟩ := List.mem_map.1 hm
  have := List.mem_filter.1 hy
  exact ⟨y, he.symm, List.mem_range.1 this.1, this.2⟩
end Go.Proofs.YtgccidkkfalaeaaGreatDoor
/- Contracts: the ends of a tree (the program's isEnd). -/
namespace Go.Proofs.YtgccidkkfalaeaaGreatDoor
open Go.ChangeShapes Go.WideShapes Go.ChangeAt Go.RowKit

/-- n bools, by a function. -/
def bArr (n : Nat) (f : Nat → Bool) : Array Value := ((List.range n).map fun i => Value.bool (f i)).toArray
theorem bArr_size (n : Nat) (f : Nat → Bool) : (bArr n f).size = n := by simp [bArr]
theorem bArr_at (n : Nat) (f : Nat → Bool) {i : Nat} (h : i < n) : (bArr n f)[i]? = some (.bool (f i)) := by simp [bArr, h]
theorem bArr_set (n : Nat) (f : Nat → Bool) (k : Nat) (b : Bool) : (bArr n f).setIfInBounds k (.bool b) = bArr n (fun i => if i = k then b else f i) := by
  apply Array.ext
  · simp [bArr]
  · intro i h1 h2
    rw [Array.getElem_setIfInBounds (by simpa [bArr] using h1)]
    simp only [bArr, List.getElem_toArray, List.getElem_map, List.getElem_range]
    by_cases e : k = i
    · subst e; simp
    · rw [if_neg e, if_neg (fun h => e h.symm)]
theorem bArr_congr (n : Nat) {f g : Nat → Bool} (h : ∀ i, i < n → f i = g i) : bArr n f = bArr n g := by
  unfold bArr
  congr 1
  exact List.map_congr_left fun i hi => by rw [h i (List.mem_range.1 hi)]
theorem info_bool : (Tryz.prog.info? 4).map (fun i => (i.zero, i.size, i.bytes)) = some (some (.bool false), 1, 1) := by kernel_rfl
theorem madeB (n : Nat) : madeCells #[.bool false] n = bArr n (fun _ => false) := by
  apply Array.ext
  · simp [madeCells, bArr]
  · intro i h1 h2
    have h0 : i % 1 = 0 := Nat.mod_one i
    simp [madeCells, bArr, h0]
theorem run_makeB (n : Nat) (hn : n ≤ 1048576) (w : World) :
    (Instr.makeSlice 56 (.int .i64 (n : Int)) (.int .i64 (n : Int))).run Tryz.prog w = .ok (.slice (some ⟨w.heap.size, 0, none⟩) n n) (w.alloc (.cells (bArr n (fun _ => false)) 4)) := by
  obtain ⟨i0, hi, hz0, hz1, hz2⟩ := info_parts info_bool
  have h := run_make (P := Tryz.prog) w 56 4 i0 (.bool false) Tryz.underlying56 hi hz0 .i64 .i64 (n : Int) (n : Int) (by omega) (Int.le_refl _) (by rw [hz2]; omega) (by omega)
  rw [h, hz1, ← madeB]
  simp [Value.cells]

/-- None of the first k parents is x. -/
def noKid (xs : List Int) (k : Nat) (x : Nat) : Bool := (List.range k).all fun y => nth xs y != (x : Int)
theorem noKid_succ (xs : List Int) (k x : Nat) : noKid xs (k + 1) x = (noKid xs k x && nth xs k != (x : Int)) := by
  unfold noKid; rw [List.range_succ, List.all_append]; simp

set_option maxHeartbeats 1000000 in
set_option maxRecDepth 100000 in
theorem isEnd_exact (A B : Option Addr) (c m e : Nat) (xs : List Int) (w : World) (h : IntS w A xs) (hn : xs.length ≤ 1000) (hp : Hid (∀ y, y < xs.length → nth xs y < xs.length)) :
    Calls Tryz.prog 40 #[.agg #[.slice A xs.length c, .slice B m e]] w fun e' w' => e' = .returned (.slice (some ⟨w.heap.size + 1, 0, none⟩) xs.length xs.length) ∧ w' = (w.alloc (.cells #[.slice A xs.length c, .slice B m e] 26)).alloc (.cells (bArr xs.length (noKid xs xs.length)) 4) := by
  obtain ⟨n, hn'⟩ : ∃ n, n = xs.length := ⟨_, rfl⟩
  have HN : Hid (n = xs.length) := hn'
  rw [← hn'] at hn hp ⊢
  clear hn'
  have hmk := run_makeB n (by omega)
  go_enter Tryz.func40, Tryz.ntmps40
  go_wp2
  go_loopw [4, 13] (fun _ i wr => ∃ k : Nat, k ≤ n ∧ i = .int .i64 k ∧ wr = (w.alloc (.cells #[.slice A n c, .slice B m e] 26)).alloc (.cells (bArr n (fun i => decide (i < k))) 4)) (fun _ i _ => n - (intOf i).toNat)
  case atStart => exact ⟨0, Nat.zero_le _, rfl, by simp⟩
  case round =>
    obtain ⟨k, hk, rfl, rfl⟩ := hrel
    by_cases hlt : k < n
    · have hat := bArr_at n (fun i => decide (i < k)) hlt
      have hst := bArr_set n (fun i => decide (i < k)) k true
      have hcg : bArr n (fun i => if i = k then true else decide (i < k)) = bArr n (fun i => decide (i < k + 1)) := bArr_congr n fun i _ => by
        by_cases e : i = k
        · simp [e]
        · simp [e]; omega
      rw [hcg] at hst
      clear hcg
      go_wp2
      go_roundw
      case rel => exact ⟨k + 1, by omega, by go_num, rfl⟩
      case measure => simp [intOf]; omega
    · have hkn : k = n := by omega
      subst hkn
      have hcg : bArr k (fun i => decide (i < k)) = bArr k (noKid xs 0) := bArr_congr k fun i hi => by simp [noKid, hi]
      rw [hcg]
      clear hcg hlt hk hmk
      go_wp2
      go_loopw [6, 23] (fun _ i wr => ∃ j : Nat, j ≤ k ∧ i = .int .i64 j ∧ wr = (w.alloc (.cells #[.slice A k c, .slice B m e] 26)).alloc (.cells (bArr k (noKid xs j)) 4)) (fun _ i _ => k - (intOf i).toNat)
      case atStart => exact ⟨0, Nat.zero_le _, rfl, rfl⟩
      case round =>
        obtain ⟨j, hj, rfl, rfl⟩ := hrel
        by_cases hlt : j < k
        · obtain ⟨b, o, rfl, hc⟩ := h.at_ (j := j) (by rw [← HN.out]; exact hlt)
          have hb : b < w.heap.size := World.block_lt_of_cell? w _ hc
          have hpj := hp.out j hlt
          by_cases hneg : nth xs j < 0
          · have hcg : bArr k (noKid xs j) = bArr k (noKid xs (j + 1)) := bArr_congr k fun i _ => by
              rw [noKid_succ]; simp; intro _; omega
            have HC := Lib.hid hcg
            clear hcg
            go_wp2
            go_roundw
            case rel => exact ⟨j + 1, by omega, by go_num, by rw [HC.out]⟩
            case measure => simp [intOf]; omega
          · obtain ⟨p, hpe⟩ := Int.eq_ofNat_of_zero_le (a := nth xs j) (by omega)
            have hat := bArr_at k (noKid xs j) (i := p) (by omega)
            have hst := bArr_set k (noKid xs j) p false
            have hcg : bArr k (fun i => if i = p then false else noKid xs j i) = bArr k (noKid xs (j + 1)) := bArr_congr k fun i _ => by
              rw [noKid_succ, hpe]
              by_cases e : i = p
              · simp [e]
              · simp [e]; intro _; omega
            rw [hcg] at hst
            rw [hpe] at hc hneg hpj
            clear hcg hpe
            go_wp2
            go_roundw
            case rel => exact ⟨j + 1, by omega, by go_num, rfl⟩
            case measure => simp [intOf]; omega
        · have hjk : j = k := by omega
          have hcg : Hid (bArr k (noKid xs j) = bArr k (noKid xs k)) := by show _ = _; rw [hjk]
          clear hjk
          go_wp2
          go_ret
          exact ⟨rfl, by rw [hcg.out]⟩
end Go.Proofs.YtgccidkkfalaeaaGreatDoor
/- Contracts: what makes a tree (the program's and the reference's). -/
namespace Go.Proofs.YtgccidkkfalaeaaGreatDoor
open Go.ChangeShapes Go.WideShapes Go.ChangeAt Go.RowKit

/-- The head of a tree: its size and its root. -/
def HeadOk (xs ys : List Int) : Prop := (1 ≤ xs.length ∧ xs.length ≤ 24) ∧ ys.length = xs.length ∧ nth xs 0 = -1
/-- Parent x is before x. -/
def upOk (xs : List Int) (x : Nat) : Bool := decide (0 ≤ nth xs x ∧ nth xs x ≤ (x : Int) - 1)
def UpOk (xs : List Int) (k : Nat) : Prop := ∀ x, 1 ≤ x → x < k → upOk xs x = true
/-- The weight of x fits: 1 to 20 at an end, else 0. -/
def wtOk (xs ys : List Int) (x : Nat) : Bool := if noKid xs xs.length x then decide (1 ≤ nth ys x ∧ nth ys x ≤ 20) else nth ys x == 0
def WtOk (xs ys : List Int) (k : Nat) : Prop := ∀ x, x < k → wtOk xs ys x = true
def Good (xs ys : List Int) : Prop := HeadOk xs ys ∧ UpOk xs xs.length ∧ WtOk xs ys xs.length
open Classical in
noncomputable def good (xs ys : List Int) : Bool := decide (Good xs ys)
theorem good_yes {xs ys : List Int} (h : Good xs ys) : good xs ys = true := by simp [good, h]
theorem good_no {xs ys : List Int} (h : ¬ Good xs ys) : good xs ys = false := by simp [good, h]
theorem good_iff {xs ys : List Int} : good xs ys = true ↔ Good xs ys := by simp [good]
theorem UpOk.lt {xs : List Int} (h : UpOk xs xs.length) (h0 : nth xs 0 = -1) : ∀ y, y < xs.length → nth xs y < xs.length := by
  intro y hy
  by_cases e : y = 0
  · subst e; omega
  · have := of_decide_eq_true (h y (by omega) hy); omega
theorem UpOk.succ {xs : List Int} {k : Nat} (h : UpOk xs k) (hk : upOk xs k = true) : UpOk xs (k + 1) := fun x h1 h2 => by
  by_cases e : x = k
  · subst e; exact hk
  · exact h x h1 (by omega)
theorem WtOk.succ {xs ys : List Int} {k : Nat} (h : WtOk xs ys k) (hk : wtOk xs ys k = true) : WtOk xs ys (k + 1) := fun x h2 => by
  by_cases e : x = k
  · subst e; exact hk
  · exact h x (by omega)

/-- The first part of IsTree: the head is not in order. -/
theorem isTree_head (A B : Option Addr) (c e : Nat) (xs ys : List Int) (w : World) (h : IntS w A xs) (_k : IntS w B ys) (_hx : Bd xs) (hn : xs.length ≤ 1048576) (_hm : ys.length ≤ 1048576) (hh : ¬ HeadOk xs ys) :
    Calls Tryz.prog 11 #[.agg #[.slice A xs.length c, .slice B ys.length e]] w fun e' w' => e' = .returned (.bool false) ∧ Below w.heap.size w w' := by
  by_cases h1 : 1 ≤ xs.length ∧ xs.length ≤ 24
  · by_cases h2 : ys.length = xs.length
    · have h3 : nth xs 0 ≠ -1 := fun h3 => hh ⟨h1, h2, h3⟩
      obtain ⟨b, o, rfl, hc⟩ := h.at_ (j := 0) (by omega)
      rw [Nat.add_zero] at hc
      have hb : b < w.heap.size := World.block_lt_of_cell? w _ hc
      have hd : (nth xs 0 != -1) = true := by simpa using h3
      have hp : 0 < xs.length := h1.1
      have hz : ((xs.length : Int) != (xs.length : Int)) = false := by simp
      rw [h2]
      clear h3 hh h _k _hx
      go_enter Tryz.func11, Tryz.ntmps11
      go_wp2_with (go_at_call 39; refine (within_yes _ _ _ _ (by omega) (by omega)).mono ?_; rintro e w' ⟨rfl, rfl⟩)
      go_ret
      exact ⟨rfl, by (repeat (first | with_reducible exact Below.refl _ _ | with_reducible assumption | with_reducible refine Below.alloc' ?_ ?_ _ | with_reducible refine Below.setCell' ?_ ?_ _ | with_reducible refine Below.drewN' ?_ _ | with_reducible refine Below.drew ?_ | with_reducible refine Below.transA ?_ (by assumption) ?_ | omega | (focus (simp; done)) | (focus (simp; omega))))⟩
    · have hd : ((ys.length : Int) != (xs.length : Int)) = true := by simp; omega
      clear hh h _k _hx
      go_enter Tryz.func11, Tryz.ntmps11
      go_wp2_with (go_at_call 39; refine (within_yes _ _ _ _ (by omega) (by omega)).mono ?_; rintro e w' ⟨rfl, rfl⟩)
      go_ret
      exact ⟨rfl, by (repeat (first | with_reducible exact Below.refl _ _ | with_reducible assumption | with_reducible refine Below.alloc' ?_ ?_ _ | with_reducible refine Below.setCell' ?_ ?_ _ | with_reducible refine Below.drewN' ?_ _ | with_reducible refine Below.drew ?_ | with_reducible refine Below.transA ?_ (by assumption) ?_ | omega | (focus (simp; done)) | (focus (simp; omega))))⟩
  · clear hh h _k _hx
    go_enter Tryz.func11, Tryz.ntmps11
    go_wp2_with (go_at_call 39; refine (within_no _ _ _ _ (by omega)).mono ?_; rintro e w' ⟨rfl, rfl⟩)
    go_ret
    exact ⟨rfl, by (repeat (first | with_reducible exact Below.refl _ _ | with_reducible assumption | with_reducible refine Below.alloc' ?_ ?_ _ | with_reducible refine Below.setCell' ?_ ?_ _ | with_reducible refine Below.drewN' ?_ _ | with_reducible refine Below.drew ?_ | with_reducible refine Below.transA ?_ (by assumption) ?_ | omega | (focus (simp; done)) | (focus (simp; omega))))⟩

set_option maxHeartbeats 2000000 in
set_option maxRecDepth 100000 in
theorem isTree_body (A B : Option Addr) (c e : Nat) (xs ys : List Int) (w : World) (h : IntS w A xs) (k : IntS w B ys) (hx : Bd xs) (hy : Bd ys) (hh : HeadOk xs ys) :
    Calls Tryz.prog 11 #[.agg #[.slice A xs.length c, .slice B ys.length e]] w fun e' w' => e' = .returned (.bool (good xs ys)) ∧ Below w.heap.size w w' := by
  obtain ⟨h1, h2, h3⟩ := id hh
  obtain ⟨b0, o0, hA, hc0⟩ := h.at_ (j := 0) (by omega)
  rw [Nat.add_zero, h3] at hc0
  subst hA
  have hb0 : b0 < w.heap.size := World.block_lt_of_cell? w _ hc0
  obtain ⟨n, hn'⟩ : ∃ n, n = xs.length := ⟨_, rfl⟩
  have HN : Hid (n = xs.length) := hn'
  rw [h2, ← hn']
  rw [← hn'] at h1
  obtain ⟨h10, h11⟩ := h1
  have hp : 0 < n := h10
  have HH := Lib.hid hh
  have HY : Hid (ys.length = n) := by rw [hn']; exact h2
  clear hh h2 h3 hn'
  generalize hg : good xs ys = r
  have HG := Lib.hid hg
  clear hg
  go_enter Tryz.func11, Tryz.ntmps11
  go_wp2_with (go_at_call 39; refine (within_yes _ _ _ _ (by omega) (by omega)).mono ?_; rintro e w' ⟨rfl, rfl⟩)
  go_loopw [4] (fun i wr => ∃ j : Nat, 1 ≤ j ∧ j ≤ n ∧ i = .int .i64 j ∧ UpOk xs j ∧ wr = w.alloc (.cells #[.slice (some ⟨b0, o0, none⟩) n c, .slice B n e] 26)) (fun i _ => n - (intOf i).toNat)
  case atStart => exact ⟨1, by omega, by omega, rfl, fun x h1 h2 => by omega, rfl⟩
  case round =>
    obtain ⟨j, hj1, hjn, rfl, hup, rfl⟩ := hrel
    by_cases hlt : j < n
    · obtain ⟨b, o, hA, hc⟩ := h.at_ (j := j) (by rw [← HN.out]; exact hlt)
      have hbx := hx j
      cases hA
      cases hu : upOk xs j
      · have hr : r = false := by rw [← HG.out]; exact good_no fun hG => by rw [hG.2.1 j hj1 (by rw [← HN.out]; exact hlt)] at hu; cases hu
        subst hr
        have hnu : ¬ (0 ≤ nth xs j ∧ nth xs j ≤ (j : Int) - 1) := of_decide_eq_false hu
        have hj2 : (0 : Int) ≤ (j : Int) - 1 := by omega
        clear hu hup
        go_wp2_with (go_at_call 39; refine (within_no _ _ _ _ (by omega)).mono ?_; rintro e w' ⟨rfl, rfl⟩)
        go_ret
        exact ⟨rfl, by (repeat (first | with_reducible exact Below.refl _ _ | with_reducible assumption | with_reducible refine Below.alloc' ?_ ?_ _ | with_reducible refine Below.setCell' ?_ ?_ _ | with_reducible refine Below.drewN' ?_ _ | with_reducible refine Below.drew ?_ | with_reducible refine Below.transA ?_ (by assumption) ?_ | omega | (focus (simp; done)) | (focus (simp; omega))))⟩
      · have hyu := of_decide_eq_true hu
        have hup' := hup.succ hu
        clear hu hup
        go_wp2_with (go_at_call 39; refine (within_yes _ _ _ _ (by omega) (by omega)).mono ?_; rintro e w' ⟨rfl, rfl⟩)
        go_roundw
        case rel => exact ⟨j + 1, by omega, by omega, by go_num, hup', by trivial⟩
        case measure => simp [intOf]; omega
    · have hjn' : j = n := by omega
      subst hjn'
      have HUp : UpOk xs xs.length := by rw [← HN.out]; exact hup
      have HE := fun W (hW : IntS W (some ⟨b0, o0, none⟩) xs) => isEnd_exact (some ⟨b0, o0, none⟩) B c j e xs W hW (by rw [← HN.out]; omega) (Lib.hid (HUp.lt HH.out.2.2))
      rw [← HN.out] at HE
      have HE' := Lib.hid HE
      clear HE hup
      go_wp2_with fail
      refine (HE'.out _ (h.alloc _)).mono ?_
      rintro e1 w1 ⟨rfl, rfl⟩
      go_wp2
      have HG2 : Hid (∀ q, q < j → wtOk xs ys q = if noKid xs j q then decide (1 ≤ nth ys q ∧ nth ys q ≤ 20) else nth ys q == 0) := fun q _ => by unfold wtOk; rw [HN.out]
      go_loopw [44] (fun i wr => ∃ q : Nat, q ≤ j ∧ i = .int .i64 q ∧ WtOk xs ys q ∧ wr = ((w.alloc (.cells #[.slice (some ⟨b0, o0, none⟩) j c, .slice B j e] 26)).alloc (.cells #[.slice (some ⟨b0, o0, none⟩) j c, .slice B j e] 26)).alloc (.cells (bArr j (noKid xs j)) 4)) (fun i _ => j - (intOf i).toNat)
      case atStart => exact ⟨0, by omega, rfl, fun x h2 => by omega, rfl⟩
      case round =>
        obtain ⟨q, hq, rfl, hwt, rfl⟩ := hrel
        by_cases hlt : q < j
        · obtain ⟨b, o, rfl, hc⟩ := k.at_ (j := q) (by rw [HY.out]; exact hlt)
          have hb : b < w.heap.size := World.block_lt_of_cell? w _ hc
          have hb1 : b < w.heap.size + 1 := by omega
          have hb2 : b < w.heap.size + 1 + 1 := by omega
          have hat := bArr_at j (noKid xs j) hlt
          have hby := hy q
          have hwq := HG2.out q hlt
          have hbad : wtOk xs ys q = false → r = false := fun hf => by
            rw [← HG.out]; exact good_no fun hG => by rw [hG.2.2 q (by rw [← HN.out]; exact hlt)] at hf; cases hf
          cases hk : noKid xs j q
          · rw [hk, if_neg (by simp)] at hwq
            rw [hk] at hat
            by_cases hz : nth ys q = 0
            · have hwt' := hwt.succ (k := q) (by rw [hwq]; simpa using hz)
              rw [hz] at hc
              clear hwt hwq hbad hk hz hby
              go_wp2
              go_roundw
              case rel => exact ⟨q + 1, by omega, by go_num, hwt', by trivial⟩
              case measure => simp [intOf]; omega
            · have hr : r = false := hbad (by rw [hwq]; simpa using hz)
              subst hr
              have hzb : (nth ys q != 0) = true := by simpa using hz
              clear hwt hwq hbad hk hz hby
              go_wp2
              go_ret
              exact ⟨rfl, by (repeat (first | with_reducible exact Below.refl _ _ | with_reducible assumption | with_reducible refine Below.alloc' ?_ ?_ _ | with_reducible refine Below.setCell' ?_ ?_ _ | with_reducible refine Below.drewN' ?_ _ | with_reducible refine Below.drew ?_ | with_reducible refine Below.transA ?_ (by assumption) ?_ | omega | (focus (simp; done)) | (focus (simp; omega))))⟩
          · rw [hk, if_pos rfl] at hwq
            rw [hk] at hat
            by_cases hz : 1 ≤ nth ys q ∧ nth ys q ≤ 20
            · have hwt' := hwt.succ (k := q) (by rw [hwq]; simpa using hz)
              clear hwt hwq hbad hk hby
              go_wp2_with (go_at_call 39; refine (within_yes _ _ _ _ (by omega) (by omega)).mono ?_; rintro e w' ⟨rfl, rfl⟩)
              go_roundw
              case rel => exact ⟨q + 1, by omega, by go_num, hwt', by trivial⟩
              case measure => simp [intOf]; omega
            · have hr : r = false := hbad (by rw [hwq]; exact decide_eq_false hz)
              subst hr
              clear hwt hwq hbad hk hby
              go_wp2_with (go_at_call 39; refine (within_no _ _ _ _ (by omega)).mono ?_; rintro e w' ⟨rfl, rfl⟩)
              go_ret
              exact ⟨rfl, by (repeat (first | with_reducible exact Below.refl _ _ | with_reducible assumption | with_reducible refine Below.alloc' ?_ ?_ _ | with_reducible refine Below.setCell' ?_ ?_ _ | with_reducible refine Below.drewN' ?_ _ | with_reducible refine Below.drew ?_ | with_reducible refine Below.transA ?_ (by assumption) ?_ | omega | (focus (simp; done)) | (focus (simp; omega))))⟩
        · have hqj : q = j := by omega
          subst hqj
          have hr : r = true := by
            rw [← HG.out]; exact good_yes ⟨HH.out, HUp, by rw [← HN.out]; exact hwt⟩
          subst hr
          clear hwt
          go_wp2
          go_ret
          exact ⟨rfl, by (repeat (first | with_reducible exact Below.refl _ _ | with_reducible assumption | with_reducible refine Below.alloc' ?_ ?_ _ | with_reducible refine Below.setCell' ?_ ?_ _ | with_reducible refine Below.drewN' ?_ _ | with_reducible refine Below.drew ?_ | with_reducible refine Below.transA ?_ (by assumption) ?_ | omega | (focus (simp; done)) | (focus (simp; omega))))⟩

theorem isTree_any (A B : Option Addr) (c e : Nat) (xs ys : List Int) (w : World) (h : IntS w A xs) (k : IntS w B ys) (hx : Bd xs) (hy : Bd ys) (hn : xs.length ≤ 1048576) (hm : ys.length ≤ 1048576) :
    Calls Tryz.prog 11 #[.agg #[.slice A xs.length c, .slice B ys.length e]] w fun e' w' => e' = .returned (.bool (good xs ys)) ∧ Below w.heap.size w w' := by
  by_cases hh : HeadOk xs ys
  · exact isTree_body A B c e xs ys w h k hx hy hh
  · rw [good_no fun hG => hh hG.1]
    exact isTree_head A B c e xs ys w h k hx hn hm hh
end Go.Proofs.YtgccidkkfalaeaaGreatDoor
/- Contracts: what makes a tree (the reference's). -/
namespace Go.Proofs.YtgccidkkfalaeaaGreatDoor
open Go.ChangeShapes Go.WideShapes Go.ChangeAt Go.RowKit

theorem kids_noKid {xs : List Int} (hu : UpOk xs xs.length) (h0 : nth xs 0 = -1) (q : Nat) : ((pick (isKid xs q) xs.length).length = 0) ↔ noKid xs xs.length q = true := by
  unfold pick noKid
  rw [List.length_map, List.length_eq_zero_iff, List.filter_eq_nil_iff, List.all_eq_true]
  constructor
  · intro h y hy
    have := h y hy
    simp [isKid] at this
    simp only [bne_iff_ne, ne_eq]
    intro e
    have hy' := List.mem_range.1 hy
    by_cases e0 : y = 0
    · subst e0; omega
    · have := of_decide_eq_true (hu y (by omega) hy')
      exact (by assumption : q < y → ¬ nth xs y = ↑q) (by omega) e
  · intro h y hy
    have := h y hy
    simp only [bne_iff_ne, ne_eq] at this
    simp [isKid, this]

set_option maxHeartbeats 1000000 in
theorem l2Good_head (A B : Option Addr) (c e : Nat) (xs ys : List Int) (w : World) (hn : xs.length ≤ 1048576) (_hm : ys.length ≤ 1048576) (hh : ¬ ((1 ≤ xs.length ∧ xs.length ≤ 24) ∧ ys.length = xs.length)) :
    Calls Tryz.prog 35 #[.agg #[.slice A xs.length c, .slice B ys.length e]] w fun e' w' => e' = .returned (.bool false) ∧ Below w.heap.size w w' := by
  by_cases h1 : 1 ≤ xs.length ∧ xs.length ≤ 24
  · have hd : ((ys.length : Int) != (xs.length : Int)) = true := by simp; omega
    clear hh
    go_enter Tryz.func35, Tryz.ntmps35
    go_wp2_with (go_at_call 65; refine (l1In_yes _ _ _ _ (by omega) (by omega)).mono ?_; rintro e w' ⟨rfl, rfl⟩)
    go_ret
    exact ⟨rfl, by (repeat (first | with_reducible exact Below.refl _ _ | with_reducible assumption | with_reducible refine Below.alloc' ?_ ?_ _ | with_reducible refine Below.setCell' ?_ ?_ _ | with_reducible refine Below.drewN' ?_ _ | with_reducible refine Below.drew ?_ | with_reducible refine Below.transA ?_ (by assumption) ?_ | omega | (focus (simp; done)) | (focus (simp; omega))))⟩
  · clear hh
    go_enter Tryz.func35, Tryz.ntmps35
    go_wp2_with (go_at_call 65; refine (l1In_no _ _ _ _ (by omega)).mono ?_; rintro e w' ⟨rfl, rfl⟩)
    go_ret
    exact ⟨rfl, by (repeat (first | with_reducible exact Below.refl _ _ | with_reducible assumption | with_reducible refine Below.alloc' ?_ ?_ _ | with_reducible refine Below.setCell' ?_ ?_ _ | with_reducible refine Below.drewN' ?_ _ | with_reducible refine Below.drew ?_ | with_reducible refine Below.transA ?_ (by assumption) ?_ | omega | (focus (simp; done)) | (focus (simp; omega))))⟩

set_option maxHeartbeats 4000000 in
set_option maxRecDepth 100000 in
theorem l2Good_body (A B : Option Addr) (c e : Nat) (xs ys : List Int) (w : World) (h : IntS w A xs) (k : IntS w B ys) (hx : Bd xs) (hy : Bd ys) (hh : (1 ≤ xs.length ∧ xs.length ≤ 24) ∧ ys.length = xs.length) :
    Calls Tryz.prog 35 #[.agg #[.slice A xs.length c, .slice B ys.length e]] w fun e' w' => e' = .returned (.bool (good xs ys)) ∧ Below w.heap.size w w' := by
  obtain ⟨h1, h2⟩ := id hh
  obtain ⟨n, hn'⟩ : ∃ n, n = xs.length := ⟨_, rfl⟩
  have HN : Hid (n = xs.length) := hn'
  rw [h2, ← hn']
  rw [← hn'] at h1
  obtain ⟨h10, h11⟩ := h1
  have HH := Lib.hid hh
  have HY : Hid (ys.length = n) := by rw [hn']; exact h2
  clear hh h2 hn'
  generalize hg : good xs ys = r
  have HG := Lib.hid hg
  clear hg
  go_enter Tryz.func35, Tryz.ntmps35
  go_wp2_with (go_at_call 65; refine (l1In_yes _ _ _ _ (by omega) (by omega)).mono ?_; rintro e w' ⟨rfl, rfl⟩)
  go_loopw [4] (fun i wr => ∃ j : Nat, j ≤ n ∧ i = .int .i64 j ∧ UpOk xs j ∧ Hid (0 < j → nth xs 0 = -1) ∧ wr = w.alloc (.cells #[.slice A n c, .slice B n e] 26)) (fun i _ => n - (intOf i).toNat)
  case atStart => exact ⟨0, by omega, rfl, fun x h1 h2 => by omega, fun h => by omega, rfl⟩
  case round =>
    obtain ⟨j, hjn, rfl, hup, H0, rfl⟩ := hrel
    by_cases hlt : j < n
    · obtain ⟨b, o, rfl, hc⟩ := h.at_ (j := j) (by rw [← HN.out]; exact hlt)
      have hb : b < w.heap.size := World.block_lt_of_cell? w _ hc
      have hbx := hx j
      by_cases hj0 : j = 0
      · subst hj0
        rw [Nat.add_zero] at hc
        by_cases hr0 : nth xs 0 = -1
        · rw [hr0] at hc
          have H0' : Hid (0 < 0 + 1 → nth xs 0 = -1) := fun _ => hr0
          have hup1 : UpOk xs (0 + 1) := fun x h1 h2 => by omega
          clear hup H0 hr0 hbx
          go_wp2
          go_roundw
          case rel => exact ⟨0 + 1, by omega, by go_num, hup1, H0', by trivial⟩
          case measure => simp [intOf]; omega
        · have hr : r = false := by rw [← HG.out]; exact good_no fun hG => hr0 hG.1.2.2
          subst hr
          have hd : (nth xs 0 != -1) = true := by simpa using hr0
          clear hr0 hup H0
          go_wp2
          go_ret
          exact ⟨rfl, by (repeat (first | with_reducible exact Below.refl _ _ | with_reducible assumption | with_reducible refine Below.alloc' ?_ ?_ _ | with_reducible refine Below.setCell' ?_ ?_ _ | with_reducible refine Below.drewN' ?_ _ | with_reducible refine Below.drew ?_ | with_reducible refine Below.transA ?_ (by assumption) ?_ | omega | (focus (simp; done)) | (focus (simp; omega))))⟩
      · have hjb : ((j : Int) == 0) = false := by simp; omega
        have hjp : (0 : Int) < (j : Int) := by omega
        cases hu : upOk xs j
        · have hr : r = false := by rw [← HG.out]; exact good_no fun hG => by rw [hG.2.1 j (by omega) (by rw [← HN.out]; exact hlt)] at hu; cases hu
          subst hr
          have hnu : ¬ (0 ≤ nth xs j ∧ nth xs j ≤ (j : Int) - 1) := of_decide_eq_false hu
          clear hu hup H0
          go_wp2_with (go_at_call 65; refine (l1In_no _ _ _ _ (by omega)).mono ?_; rintro e w' ⟨rfl, rfl⟩)
          go_ret
          exact ⟨rfl, by (repeat (first | with_reducible exact Below.refl _ _ | with_reducible assumption | with_reducible refine Below.alloc' ?_ ?_ _ | with_reducible refine Below.setCell' ?_ ?_ _ | with_reducible refine Below.drewN' ?_ _ | with_reducible refine Below.drew ?_ | with_reducible refine Below.transA ?_ (by assumption) ?_ | omega | (focus (simp; done)) | (focus (simp; omega))))⟩
        · have hyu := of_decide_eq_true hu
          have hup' := hup.succ hu
          have H0' : Hid (0 < j + 1 → nth xs 0 = -1) := fun _ => H0.out (by omega)
          clear hu hup H0
          go_wp2_with (go_at_call 65; refine (l1In_yes _ _ _ _ (by omega) (by omega)).mono ?_; rintro e w' ⟨rfl, rfl⟩)
          go_roundw
          case rel => exact ⟨j + 1, by omega, by go_num, hup', H0', by trivial⟩
          case measure => simp [intOf]; omega
    · have hjn' : j = n := by omega
      subst hjn'
      have HUp : UpOk xs xs.length := by rw [← HN.out]; exact hup
      have HR : Hid (nth xs 0 = -1) := H0.out (by omega)
      have HK := Lib.hid (fun q => kids_noKid HUp HR.out q)
      clear hup H0
      go_wp2
      go_loopw [5, 6] (fun i _ wr => ∃ q : Nat, q ≤ j ∧ i = .int .i64 q ∧ WtOk xs ys q ∧ wr.cell? ⟨w.heap.size, 0, none⟩ = some (.slice A j c) ∧ wr.cell? ⟨w.heap.size, 1, none⟩ = some (.slice B j e) ∧ Below w.heap.size w wr) (fun i _ _ => j - (intOf i).toNat)
      case atStart => exact ⟨0, by omega, rfl, fun x h2 => by omega, by simp, by simp, by (repeat (first | with_reducible exact Below.refl _ _ | with_reducible assumption | with_reducible refine Below.alloc' ?_ ?_ _ | with_reducible refine Below.setCell' ?_ ?_ _ | with_reducible refine Below.drewN' ?_ _ | with_reducible refine Below.drew ?_ | with_reducible refine Below.transA ?_ (by assumption) ?_ | omega | (focus (simp; done)) | (focus (simp; omega))))⟩
      case round =>
        obtain ⟨q, hq, rfl, hwt, hx0, hx1, hb1⟩ := hrel
        by_cases hlt : q < j
        · have HKc := fun W (hW : IntS W A xs) => l2Kids_any A B c j e q xs W hW (by rw [← HN.out]; omega) (by rw [← HN.out]; exact hlt)
          rw [← HN.out] at HKc
          have HKc' := Lib.hid HKc
          have hpl := HK.out q
          rw [← HN.out] at hpl
          have hwq : wtOk xs ys q = if noKid xs j q then decide (1 ≤ nth ys q ∧ nth ys q ≤ 20) else nth ys q == 0 := by unfold wtOk; rw [HN.out]
          have hbad : wtOk xs ys q = false → r = false := fun hf => by
            rw [← HG.out]; exact good_no fun hG => by rw [hG.2.2 q (by rw [← HN.out]; exact hlt)] at hf; cases hf
          have hby := hy q
          have hpn := pick_len (isKid xs q) j
          clear HKc
          generalize pick (isKid xs q) j = P at *
          go_wp2_with fail
          refine (HKc'.out _ (h.below hb1)).mono ?_
          rintro e1 w1 ⟨A1, c1, rfl, hO, hb2⟩
          have hx0' := keep_cell hb2 hx0
          have hx1' := keep_cell hb2 hx1
          have hb3 := keep_below hb2 hb1
          obtain ⟨b, o, rfl, hc⟩ := (k.below hb3).at_ (j := q) (by rw [HY.out]; exact hlt)
          clear hO hb2 hx0 hx1 hb1 HKc'
          cases hk : noKid xs j q
          · have hpz : ((P.length : Int) == 0) = false := by rw [hk] at hpl; simp at hpl ⊢; omega
            rw [hk, if_neg (by simp)] at hwq
            by_cases hz : nth ys q = 0
            · have hwt' := hwt.succ (k := q) (by rw [hwq]; simpa using hz)
              rw [hz] at hc
              clear hwt hwq hbad hk hz hby hpl
              go_wp2
              go_roundw
              case rel => exact ⟨q + 1, by omega, by go_num, hwt', hx0', hx1', hb3⟩
              case measure => simp [intOf]; omega
            · have hr : r = false := hbad (by rw [hwq]; simpa using hz)
              subst hr
              have hzb : (nth ys q != 0) = true := by simpa using hz
              clear hwt hwq hbad hk hz hby hpl
              go_wp2
              go_ret
              exact ⟨rfl, hb3⟩
          · have hpz : ((P.length : Int) == 0) = true := by rw [hk] at hpl; simp at hpl ⊢; omega
            rw [hk, if_pos rfl] at hwq
            by_cases hz : 1 ≤ nth ys q ∧ nth ys q ≤ 20
            · have hwt' := hwt.succ (k := q) (by rw [hwq]; simpa using hz)
              clear hwt hwq hbad hk hby hpl
              go_wp2_with (go_at_call 65; refine (l1In_yes _ _ _ _ (by omega) (by omega)).mono ?_; rintro e w' ⟨rfl, rfl⟩)
              go_roundw
              case rel => exact ⟨q + 1, by omega, by go_num, hwt', hx0', hx1', hb3⟩
              case measure => simp [intOf]; omega
            · have hr : r = false := hbad (by rw [hwq]; exact decide_eq_false hz)
              subst hr
              clear hwt hwq hbad hk hby hpl
              go_wp2_with (go_at_call 65; refine (l1In_no _ _ _ _ (by omega)).mono ?_; rintro e w' ⟨rfl, rfl⟩)
              go_ret
              exact ⟨rfl, hb3⟩
        · have hqj : q = j := by omega
          subst hqj
          have hr : r = true := by
            rw [← HG.out]; exact good_yes ⟨⟨HH.out.1, HH.out.2, HR.out⟩, HUp, by rw [← HN.out]; exact hwt⟩
          subst hr
          clear hwt
          go_wp2
          go_ret
          exact ⟨rfl, hb1⟩

theorem l2Good_any (A B : Option Addr) (c e : Nat) (xs ys : List Int) (w : World) (h : IntS w A xs) (k : IntS w B ys) (hx : Bd xs) (hy : Bd ys) (hn : xs.length ≤ 1048576) (hm : ys.length ≤ 1048576) :
    Calls Tryz.prog 35 #[.agg #[.slice A xs.length c, .slice B ys.length e]] w fun e' w' => e' = .returned (.bool (good xs ys)) ∧ Below w.heap.size w w' := by
  by_cases hh : (1 ≤ xs.length ∧ xs.length ≤ 24) ∧ ys.length = xs.length
  · exact l2Good_body A B c e xs ys w h k hx hy hh
  · rw [good_no fun hG => hh ⟨hG.1.1, hG.1.2.1⟩]
    exact l2Good_head A B c e xs ys w hn hm hh
end Go.Proofs.YtgccidkkfalaeaaGreatDoor
/- Contracts: IsTree of the reference; comparing trees. -/
namespace Go.Proofs.YtgccidkkfalaeaaGreatDoor
open Go.ChangeShapes Go.WideShapes Go.ChangeAt Go.RowKit

theorem IntS.drew {w : World} {A : Option Addr} {xs : List Int} (h : IntS w A xs) : IntS w.drew A xs := h
theorem Row.ints {w : World} {g : Nat} {xs : List Int} (h : Row w g xs) : IntS w (some ⟨g, 0, none⟩) xs := OwnS.ints (B := 0) (.inr ⟨g, rfl, Nat.zero_le _, h⟩)
theorem below_szr {w w1 : World} {n : Nat} (h : Below w.heap.size w w1) (hn : n < w.heap.size) : n < w1.heap.size := Nat.lt_of_lt_of_le hn h.size
theorem good_len {xs ys : List Int} (h : good xs ys = true) : 1 ≤ xs.length ∧ xs.length ≤ 24 ∧ ys.length = xs.length := by
  have := (good_iff.1 h).1
  exact ⟨this.1.1, this.1.2, this.2.1⟩

end Go.Proofs.YtgccidkkfalaeaaGreatDoor
/- Marking a tree: what is kept. -/
namespace Go.Proofs.YtgccidkkfalaeaaGreatDoor
open Go.ChangeShapes Go.WideShapes Go.ChangeAt Go.RowKit

/-- All old blocks but p and q are as they were. -/
structure KeptBut (w w' : World) (p q : Nat) : Prop where
  os : w'.os = w.os
  tape : w'.tape = w.tape
  output : w'.output = w.output
  size : w.heap.size ≤ w'.heap.size
  block : ∀ k, k < w.heap.size → k ≠ p → k ≠ q → w'.heap[k]? = w.heap[k]?
section
variable {w w' : World} {p q : Nat}
theorem KeptBut.cell (h : KeptBut w w' p q) {a : Addr} {v : Value} (hc : w.cell? a = some v) (hp : a.block ≠ p) (hq : a.block ≠ q) : w'.cell? a = some v :=
  (World.cell?_of_block (h.block a.block (World.block_lt_of_cell? w a hc) hp hq)).trans hc
theorem KeptBut.row (h : KeptBut w w' p q) {g : Nat} {xs : List Int} (hr : Row w g xs) (hp : g ≠ p) (hq : g ≠ q) : Row w' g xs := hr.of_block (h.block g hr.lt hp hq)
theorem KeptBut.below (h : KeptBut w w' p q) {u : World} (hb : Below u.heap.size u w) (hp : u.heap.size ≤ p) (hq : u.heap.size ≤ q) : Below u.heap.size u w' :=
  hb.trans ⟨h.os, h.tape, h.output, h.size, fun k hk => h.block k (Nat.lt_of_lt_of_le hk hb.size) (by omega) (by omega)⟩
theorem KeptBut.own (h : KeptBut w w' p q) {B : Nat} {A : Option Addr} {xs : List Int} (ho : OwnS w B A xs) (hp : p < B) (hq : q < B) : OwnS w' B A xs := by
  rcases ho with ho | ⟨g, h1, h2, h3⟩
  · exact .inl ho
  · exact .inr ⟨g, h1, h2, h.row h3 (by omega) (by omega)⟩
end
theorem keptBut_of {w w1 w2 : World} {p q : Nat} (h1 : w.grownBy w1 (some p)) (h2 : w1.grownBy w2 (some q)) : KeptBut w w2 p q :=
  ⟨h2.os.trans h1.os, h2.tape.trans h1.tape, h2.output.trans h1.output, Nat.le_trans h1.size h2.size, fun k hk hp hq =>
    (h2.block k (Nat.lt_of_lt_of_le hk h1.size) (fun e => hq (by injection e))).trans (h1.block k hk (fun e => hp (by injection e)))⟩
theorem KeptBut.pre {w w1 w2 : World} {p q : Nat} (hb : Below w.heap.size w w1) (h : KeptBut w1 w2 p q) : KeptBut w w2 p q :=
  ⟨h.os.trans hb.os, h.tape.trans hb.tape, h.output.trans hb.output, Nat.le_trans hb.size h.size, fun k hk hp hq =>
    (h.block k (Nat.lt_of_lt_of_le hk hb.size) hp hq).trans (hb.block k hk)⟩

/-- A call that hands back a new list and whether there is one. -/
def RetIB (w : World) (xs : List Int) (r : Bool) (e : Ending) (w' : World) : Prop := ∃ A c, e = .returned (.tuple #[.slice A xs.length c, .bool r]) ∧ OwnS w' w.heap.size A xs ∧ Below w.heap.size w w'

/-- A slice's place that the program itself has made: nil, or the head of a block below U. -/
def OwnU (w : World) (U : Nat) (A : Option Addr) (xs : List Int) : Prop := (A = none ∧ xs = []) ∨ ∃ g, A = some ⟨g, 0, none⟩ ∧ g < U ∧ Row w g xs
theorem OwnS.upper {w : World} {B : Nat} {A : Option Addr} {xs : List Int} (h : OwnS w B A xs) : OwnU w w.heap.size A xs := by
  rcases h with h | ⟨g, h1, _, h3⟩
  · exact .inl h
  · exact .inr ⟨g, h1, h3.lt, h3⟩
theorem OwnU.below {w w' : World} {U : Nat} {A : Option Addr} {xs : List Int} (h : OwnU w U A xs) (hb : Below w.heap.size w w') : OwnU w' U A xs := by
  rcases h with h | ⟨g, h1, h2, h3⟩
  · exact .inl h
  · exact .inr ⟨g, h1, h2, h3.below hb⟩
theorem OwnU.ints {w : World} {U : Nat} {A : Option Addr} {xs : List Int} (h : OwnU w U A xs) : IntS w A xs := by
  rcases h with ⟨_, rfl⟩ | ⟨g, rfl, _, h3⟩
  · intro h; simp at h
  · exact h3.ints
theorem KeptBut.ownU {w w' : World} {p q U : Nat} (h : KeptBut w w' p q) {A : Option Addr} {xs : List Int} (ho : OwnU w U A xs) (hp : U ≤ p) (hq : U ≤ q) : OwnU w' U A xs := by
  rcases ho with ho | ⟨g, h1, h2, h3⟩
  · exact .inl ho
  · exact .inr ⟨g, h1, h2, h.row h3 (by omega) (by omega)⟩
theorem kept_of_grown {w w' : World} {g : Nat} (h : w.grownBy w' (some g)) : KeptBut w w' g g :=
  ⟨h.os, h.tape, h.output, h.size, fun k hk hp _ => h.block k hk (fun e => hp (by injection e))⟩
theorem below_alloc {W w1 : World} {o : Obj} (h : Below (W.alloc o).heap.size (W.alloc o) w1) : Below W.heap.size W w1 :=
  ((Below.refl _ _).alloc (Nat.le_refl _) o).trans (h.mono (by simp))
theorem keep_below_alloc {w W : World} (h : Below w.heap.size w W) (o : Obj) : Below w.heap.size w (W.alloc o) := h.alloc h.size o
theorem below_of_alloc {W w1 : World} {o : Obj} (h : w1 = W.alloc o) : Below W.heap.size W w1 := by rw [h]; exact (Below.refl _ _).alloc (Nat.le_refl _) o
theorem below_of_drewN {W w1 : World} {n : Nat} (h : w1 = W.drewN n) : Below W.heap.size W w1 := by rw [h]; exact Below.drewN' (Below.refl _ _) n
end Go.Proofs.YtgccidkkfalaeaaGreatDoor
/- Contracts: nodes, children, processes. -/
namespace Go.Proofs.YtgccidkkfalaeaaGreatDoor
open Go.ChangeShapes Go.WideShapes Go.ChangeAt Go.RowKit

/-- Contracts of IsTree with the answer given. -/
theorem isTree_r {xs ys : List Int} {r : Bool} (hr : good xs ys = r) (A B : Option Addr) (c e : Nat) (w : World) (h : IntS w A xs) (k : IntS w B ys) (hx : Bd xs) (hy : Bd ys) (hn : xs.length ≤ 1048576) (hm : ys.length ≤ 1048576) :
    Calls Tryz.prog 11 #[.agg #[.slice A xs.length c, .slice B ys.length e]] w fun e' w' => e' = .returned (.bool r) ∧ Below w.heap.size w w' := by
  rw [← hr]; exact isTree_any A B c e xs ys w h k hx hy hn hm
theorem l2Good_r {xs ys : List Int} {r : Bool} (hr : good xs ys = r) (A B : Option Addr) (c e : Nat) (w : World) (h : IntS w A xs) (k : IntS w B ys) (hx : Bd xs) (hy : Bd ys) (hn : xs.length ≤ 1048576) (hm : ys.length ≤ 1048576) :
    Calls Tryz.prog 35 #[.agg #[.slice A xs.length c, .slice B ys.length e]] w fun e' w' => e' = .returned (.bool r) ∧ Below w.heap.size w w' := by
  rw [← hr]; exact l2Good_any A B c e xs ys w h k hx hy hn hm

/-- All of a list lie between two numbers. -/
def allIn (zs : List Int) (lo hi : Int) : Bool := (List.range zs.length).all fun j => decide (lo ≤ nth zs j ∧ nth zs j ≤ hi)
theorem allIn_no {zs : List Int} {lo hi : Int} {j : Nat} (hj : j < zs.length) (h : ¬ (lo ≤ nth zs j ∧ nth zs j ≤ hi)) : allIn zs lo hi = false := by
  rw [Bool.eq_false_iff]
  intro ha
  have := List.all_eq_true.1 ha j (List.mem_range.2 hj)
  exact h (of_decide_eq_true this)
theorem allIn_yes {zs : List Int} {lo hi : Int} (h : ∀ j, j < zs.length → lo ≤ nth zs j ∧ nth zs j ≤ hi) : allIn zs lo hi = true :=
  List.all_eq_true.2 fun j hj => decide_eq_true (h j (List.mem_range.1 hj))
theorem allIn_iff {zs : List Int} {lo hi : Int} : allIn zs lo hi = true ↔ ∀ j, j < zs.length → lo ≤ nth zs j ∧ nth zs j ≤ hi :=
  ⟨fun h j hj => of_decide_eq_true (List.all_eq_true.1 h j (List.mem_range.2 hj)), allIn_yes⟩

/-- A process of a tree with n nodes. -/
def isProc (n : Nat) (zs : List Int) : Bool := decide (zs.length = n) && allIn zs (-999) 999
end Go.Proofs.YtgccidkkfalaeaaGreatDoor
/- Contracts: IsProcess and ChildrenOf. -/
namespace Go.Proofs.YtgccidkkfalaeaaGreatDoor
open Go.ChangeShapes Go.WideShapes Go.ChangeAt Go.RowKit

/-- x is a node of a tree with n nodes. -/
def isNd (n : Nat) (x : Int) : Bool := decide (0 ≤ x ∧ x ≤ (n : Int) - 1)
theorem l1In_nd (n : Nat) (x : Int) (w : World) : Calls Tryz.prog 65 #[.int .i64 x, .int .i64 0, .int .i64 ((n : Int) - 1)] w fun e w' => e = .returned (.bool (isNd n x)) ∧ w = w' := l1In_any _ _ _ _
theorem within_nd (n : Nat) (x : Int) (w : World) : Calls Tryz.prog 39 #[.int .i64 x, .int .i64 0, .int .i64 ((n : Int) - 1)] w fun e w' => e = .returned (.bool (isNd n x)) ∧ w = w' := within_any _ _ _ _
set_option maxHeartbeats 400000 in
theorem l2Node_any (A B : Option Addr) (c e : Nat) (xs ys : List Int) (x : Int) (w : World) (h : IntS w A xs) (k : IntS w B ys) (hx : Bd xs) (hy : Bd ys) (hn : xs.length ≤ 1048576) (hm : ys.length ≤ 1048576) :
    Calls Tryz.prog 57 #[.agg #[.slice A xs.length c, .slice B ys.length e], .int .i64 x] w fun e1 w' => e1 = .returned (.bool (good xs ys && isNd xs.length x)) ∧ Below w.heap.size w w' := by
  have HG := Lib.hid (fun W (h : IntS W A xs) (k : IntS W B ys) => l2Good_any A B c e xs ys W h k hx hy hn hm)
  clear hx hy
  generalize good xs ys = g at *
  cases g
  · go_enter Tryz.func57, Tryz.ntmps57
    go_wp2_with fail
    refine (HG.out _ (h.alloc _) (k.alloc _)).mono ?_
    rintro e1 w1 ⟨rfl, hb1⟩
    go_wp2
    go_ret
    exact ⟨rfl, by (repeat (first | with_reducible exact Below.refl _ _ | with_reducible assumption | with_reducible refine Below.alloc' ?_ ?_ _ | with_reducible refine Below.setCell' ?_ ?_ _ | with_reducible refine Below.drewN' ?_ _ | with_reducible refine Below.drew ?_ | with_reducible refine Below.transA ?_ (by assumption) ?_ | omega | (focus (simp; done)) | (focus (simp; omega))))⟩
  · go_enter Tryz.func57, Tryz.ntmps57
    go_wp2_with fail
    refine (HG.out _ (h.alloc _) (k.alloc _)).mono ?_
    rintro e1 w1 ⟨rfl, hb1⟩
    (obtain ⟨hc1, hf1, hz1⟩ := bcell hb1; have hy1 := hb1.size; (try simp at hz1); (try simp at hy1); (try simp at hc1); (try simp at hf1))
    go_wp2_with (go_at_call 65; refine (l1In_nd _ _ _).mono ?_; rintro e w' ⟨rfl, rfl⟩)
    go_ret
    exact ⟨by simp, by (repeat (first | with_reducible exact Below.refl _ _ | with_reducible assumption | with_reducible refine Below.alloc' ?_ ?_ _ | with_reducible refine Below.setCell' ?_ ?_ _ | with_reducible refine Below.drewN' ?_ _ | with_reducible refine Below.drew ?_ | with_reducible refine Below.transA ?_ (by assumption) ?_ | omega | (focus (simp; done)) | (focus (simp; omega))))⟩
theorem isNode_any (A B : Option Addr) (c m e n : Nat) (x : Int) (w : World) (hn : n ≤ 1048576) :
    Calls Tryz.prog 55 #[.agg #[.slice A n c, .slice B m e], .int .i64 x] w fun e1 w' => e1 = .returned (.bool (isNd n x)) ∧ Below w.heap.size w w' := by
  go_enter Tryz.func55, Tryz.ntmps55
  go_wp2_with (go_at_call 39; refine (within_nd _ _ _).mono ?_; rintro e w' ⟨rfl, rfl⟩)
  go_ret
  exact ⟨rfl, by (repeat (first | with_reducible exact Below.refl _ _ | with_reducible assumption | with_reducible refine Below.alloc' ?_ ?_ _ | with_reducible refine Below.setCell' ?_ ?_ _ | with_reducible refine Below.drewN' ?_ _ | with_reducible refine Below.drew ?_ | with_reducible refine Below.transA ?_ (by assumption) ?_ | omega | (focus (simp; done)) | (focus (simp; omega))))⟩

def isKidI (xs : List Int) (x : Int) (y : Nat) : Bool := nth xs y == x
set_option maxHeartbeats 1000000 in
set_option maxRecDepth 100000 in
theorem children_any (A B : Option Addr) (c m e : Nat) (x : Int) (xs : List Int) (w : World) (h : IntS w A xs) (hn : xs.length ≤ 1000) :
    Calls Tryz.prog 59 #[.agg #[.slice A xs.length c, .slice B m e], .int .i64 x] w (RetI w (pick (isKidI xs x) xs.length)) := by
  obtain ⟨i0, hi, hz0, hz1, hz2⟩ := info_parts info_int
  obtain ⟨n, hn'⟩ : ∃ n, n = xs.length := ⟨_, rfl⟩
  have HN : Hid (n = xs.length) := hn'
  rw [← hn'] at hn ⊢
  clear hn'
  go_enter Tryz.func59, Tryz.ntmps59
  go_wp2
  go_loopw [5, 6, 7, 12] (fun v _ _ i wr => ∃ k : Nat, k ≤ n ∧ i = .int .i64 k ∧ wr.ownsRow (w.heap.size + 1) 3 1 v (pick (isKidI xs x) k).length (i64s (pick (isKidI xs x) k)) ∧ Below w.heap.size w wr) (fun _ _ _ i _ => n - (intOf i).toNat)
  case atStart =>
    refine ⟨0, by omega, rfl, ?_, by (repeat (first | with_reducible exact Below.refl _ _ | with_reducible assumption | with_reducible refine Below.alloc' ?_ ?_ _ | with_reducible refine Below.setCell' ?_ ?_ _ | with_reducible refine Below.drewN' ?_ _ | with_reducible refine Below.drew ?_ | with_reducible refine Below.transA ?_ (by assumption) ?_ | omega | (focus (simp; done)) | (focus (simp; omega))))⟩
    rw [pick_zero]
    exact own_empty _ _ _ (by simp) (by simp)
  case round =>
    obtain ⟨k, hk, rfl, hown, hb1⟩ := hrel
    have hlen := pick_len (isKidI xs x) k
    have hws := hb1.size
    by_cases hlt : k < n
    · obtain ⟨b, o, rfl, hc⟩ := (h.below hb1).at_ (j := k) (by rw [← HN.out]; exact hlt)
      by_cases hy : nth xs k = x
      · have hp := pick_yes (f := isKidI xs x) (k := k) (by simp [isKidI, hy])
        have HP : Hid (i64s (pick (isKidI xs x) (k + 1)) = i64s (pick (isKidI xs x) k) ++ [Value.int .i64 (k : Int)] ∧ (pick (isKidI xs x) (k + 1)).length = (pick (isKidI xs x) k).length + 1) := by
          rw [hp]; exact ⟨i64s_app _ _, by simp⟩
        have hyb : (nth xs k == x) = true := by simpa using hy
        clear hp hy
        generalize pick (isKidI xs x) k = P at *
        go_wp2_with (at_builtin; refine wpList_append_own_at _ rfl _ _ 24 rfl (w.heap.size + 1) 3 i0 (.int .i64 0) 1 8 Tryz.underlying24 hi hz0 hz1 hz2 rfl (by decide) _ _ _ rfl (hown.alloc _) ⟨wr.heap.size, 0, none⟩ 1 1 [.int .i64 k] rfl rfl (cell_one_new _ _ _) (by simp [Value.oneCell']) (by unfold maxLen; omega) (by omega) ?c5 ?_; rotate_left; intro v' w1 hown1 hgrow _ _)
        case c5 => simp only [World.size_alloc]; omega
        have hb2 : Below w.heap.size w w1 := Below.grown (hb1.alloc (by omega) _) hgrow (by simp; omega) (fun g hg => by have := (hown.lt g hg).1; omega)
        rw [← HP.out.1, ← HP.out.2] at hown1
        clear hown hgrow hb1 HP
        go_wp2
        go_roundw
        case rel => exact ⟨k + 1, by omega, by go_num, hown1, hb2⟩
        case measure => simp [intOf]; omega
      · have hyb : (nth xs k == x) = false := by simpa using hy
        have hp := pick_no (f := isKidI xs x) (k := k) (by simp [isKidI, hy])
        rw [← hp] at hown
        clear hp hy
        go_wp2
        go_roundw
        case rel => exact ⟨k + 1, by omega, by go_num, hown, hb1⟩
        case measure => simp [intOf]; omega
    · have hkn : k = n := by omega
      rw [hkn] at hown
      obtain ⟨A', c', rfl, hO⟩ := own_form hown
      clear hkn hown
      go_wp2
      go_ret
      exact ⟨A', c', rfl, hO.mono (by omega), hb1⟩

noncomputable def chOk (xs ys : List Int) (x : Int) : Bool := good xs ys && isNd xs.length x
noncomputable def chR (xs ys : List Int) (x : Int) : List Int := if chOk xs ys x then pick (isKidI xs x) xs.length else []
theorem chR_len (xs ys : List Int) (x : Int) (hn : xs.length ≤ 1048576) : (chR xs ys x).length ≤ 2000000 := by
  unfold chR; split
  · have := pick_len (isKidI xs x) xs.length; omega
  · simp
theorem pick_congr {f g : Nat → Bool} {k : Nat} (h : ∀ j, j < k → f j = g j) : pick f k = pick g k := by
  unfold pick
  rw [List.filter_congr fun j hj => h j (List.mem_range.1 hj)]
theorem kid_same {xs ys : List Int} (hg : good xs ys = true) (x : Nat) : pick (isKid xs x) xs.length = pick (isKidI xs x) xs.length := by
  refine pick_congr fun y hy => ?_
  have hG := good_iff.1 hg
  unfold isKid isKidI
  by_cases e : nth xs y = (x : Int)
  · have : x < y := by
      by_cases e0 : y = 0
      · subst e0; have := hG.1.2.2; omega
      · have := of_decide_eq_true (hG.2.1 y (by omega) hy); omega
    simp [this]
  · simp [e]
theorem nd_nat {n : Nat} {x : Int} (h : isNd n x = true) : ∃ k : Nat, x = k ∧ k < n := by
  have := of_decide_eq_true h
  exact ⟨x.toNat, by omega, by omega⟩

set_option maxHeartbeats 400000 in
theorem specChildrenOf_any (A B : Option Addr) (c e : Nat) (xs ys : List Int) (x : Int) (w : World) (h : IntS w A xs) (k : IntS w B ys) (hx : Bd xs) (hy : Bd ys) (_hd : -9223372036854775808 ≤ x ∧ x ≤ 9223372036854775807) (hn : xs.length ≤ 1048576) (hm : ys.length ≤ 1048576) :
    Calls Tryz.prog 28 #[.agg #[.slice A xs.length c, .slice B ys.length e], .int .i64 x] w (RetIB w (chR xs ys x) (chOk xs ys x)) := by
  have HN := Lib.hid (fun W (h : IntS W A xs) (k : IntS W B ys) => l2Node_any A B c e xs ys x W h k hx hy hn hm)
  change Hid (∀ W (h : IntS W A xs) (k : IntS W B ys), Calls _ _ _ W fun e1 w' => e1 = .returned (.bool (chOk xs ys x)) ∧ _) at HN
  clear hx hy
  obtain ⟨g, hg⟩ : ∃ g, chOk xs ys x = g := ⟨_, rfl⟩
  cases g
  · have hR : chR xs ys x = [] := by unfold chR; rw [hg]; rfl
    rw [hR, hg]
    rw [hg] at HN
    clear hg hR
    go_enter Tryz.func28, Tryz.ntmps28
    go_wp2_with fail
    refine (HN.out _ (h.alloc _) (k.alloc _)).mono ?_
    rintro e1 w1 ⟨rfl, hb1⟩
    have hb2 := below_alloc hb1
    go_wp2
    go_ret2
    exact ⟨_, _, rfl, .inr ⟨_, rfl, hb2.size, ⟨#[], heap_alloc_new _ _, [], rfl⟩⟩, keep_below_alloc hb2 _⟩
  · have hR : chR xs ys x = pick (isKidI xs x) xs.length := by unfold chR; rw [hg]; rfl
    have hok := hg
    unfold chOk at hok
    simp only [Bool.and_eq_true] at hok
    obtain ⟨q, rfl, hq⟩ := nd_nat hok.2
    have hgl := good_len hok.1
    have HK := Lib.hid (fun W (h : IntS W A xs) => l2Kids_any A B c ys.length e q xs W h (by omega) hq)
    rw [hR, ← kid_same hok.1 q, hg]
    rw [hg] at HN
    clear hg hR hok hgl
    go_enter Tryz.func28, Tryz.ntmps28
    go_wp2_with fail
    refine (HN.out _ (h.alloc _) (k.alloc _)).mono ?_
    rintro e1 w1 ⟨rfl, hb1⟩
    have hb2 := below_alloc hb1
    have hx0 := keep_cell hb1 (cell_new _ _ _ 0 _ rfl)
    have hx1 := keep_cell hb1 (cell_new _ _ _ 1 _ rfl)
    simp at hx0 hx1
    go_wp2_with fail
    refine (HK.out _ (h.below hb2)).mono ?_
    rintro e1 w2 ⟨A', c', rfl, ho, hb3⟩
    go_wp2
    go_ret2
    exact ⟨_, _, rfl, ho.mono hb2.size, keep_below hb3 hb2⟩
set_option maxHeartbeats 400000 in
theorem implChildrenOf_any (A B : Option Addr) (c e : Nat) (xs ys : List Int) (x : Int) (w : World) (h : IntS w A xs) (k : IntS w B ys) (hx : Bd xs) (hy : Bd ys) (_hd : -9223372036854775808 ≤ x ∧ x ≤ 9223372036854775807) (hn : xs.length ≤ 1048576) (hm : ys.length ≤ 1048576) :
    Calls Tryz.prog 27 #[.agg #[.slice A xs.length c, .slice B ys.length e], .int .i64 x] w (RetIB w (chR xs ys x) (chOk xs ys x)) := by
  cases hg : good xs ys
  · have hR : chR xs ys x = [] := by unfold chR chOk; rw [hg]; rfl
    have hO : chOk xs ys x = false := by unfold chOk; rw [hg]; rfl
    have HG := Lib.hid (fun W (h : IntS W A xs) (k : IntS W B ys) => isTree_r hg A B c e W h k hx hy hn hm)
    rw [hR, hO]
    clear hx hy hg hR hO
    go_enter Tryz.func27, Tryz.ntmps27
    go_wp2_with fail
    refine (HG.out _ (h.alloc _) (k.alloc _)).mono ?_
    rintro e1 w1 ⟨rfl, hb1⟩
    go_wp2
    go_ret2
    exact ⟨none, 0, rfl, .inl ⟨rfl, rfl⟩, below_alloc hb1⟩
  · have HG := Lib.hid (fun W (h : IntS W A xs) (k : IntS W B ys) => isTree_r hg A B c e W h k hx hy hn hm)
    have HN := Lib.hid (fun W => isNode_any A B c ys.length e xs.length x W hn)
    have hgl := good_len hg
    obtain ⟨r, hr⟩ : ∃ r, isNd xs.length x = r := ⟨_, rfl⟩
    have hO : chOk xs ys x = r := by unfold chOk; rw [hg, hr]; rfl
    have hR : chR xs ys x = if r then pick (isKidI xs x) xs.length else [] := by unfold chR; rw [hO]
    rw [hR, hO]
    rw [hr] at HN
    have HK := Lib.hid (fun W (h : IntS W A xs) => children_any A B c ys.length e x xs W h (by omega))
    clear hx hy hg hR hO hr hgl
    cases r
    · go_enter Tryz.func27, Tryz.ntmps27
      go_wp2_with fail
      refine (HG.out _ (h.alloc _) (k.alloc _)).mono ?_
      rintro e1 w1 ⟨rfl, hb1⟩
      have hb2 := below_alloc hb1
      have hx0 := keep_cell hb1 (cell_new _ _ _ 0 _ rfl)
      have hx1 := keep_cell hb1 (cell_new _ _ _ 1 _ rfl)
      simp at hx0 hx1
      go_wp2_with fail
      refine (HN.out _).mono ?_
      rintro e1 w2 ⟨rfl, hb3⟩
      go_wp2
      go_ret2
      exact ⟨none, 0, rfl, .inl ⟨rfl, rfl⟩, keep_below hb3 hb2⟩
    · go_enter Tryz.func27, Tryz.ntmps27
      go_wp2_with fail
      refine (HG.out _ (h.alloc _) (k.alloc _)).mono ?_
      rintro e1 w1 ⟨rfl, hb1⟩
      have hb2 := below_alloc hb1
      have hx0 := keep_cell hb1 (cell_new _ _ _ 0 _ rfl)
      have hx1 := keep_cell hb1 (cell_new _ _ _ 1 _ rfl)
      simp at hx0 hx1
      go_wp2_with fail
      refine (HN.out _).mono ?_
      rintro e1 w2 ⟨rfl, hb3⟩
      have hx0 := keep_cell hb3 hx0
      have hx1 := keep_cell hb3 hx1
      have hb4 := keep_below hb3 hb2
      go_wp2_with fail
      refine (HK.out _ (h.below hb4)).mono ?_
      rintro e1 w3 ⟨A', c', rfl, ho, hb5⟩
      go_wp2
      go_ret2
      exact ⟨_, _, rfl, ho.mono hb4.size, keep_below hb5 hb4⟩
end Go.Proofs.YtgccidkkfalaeaaGreatDoor
/- Blocks that hold exactly a list of ints, written in a loop. -/
namespace Go.Proofs.YtgccidkkfalaeaaGreatDoor
open Go.ChangeShapes Go.WideShapes Go.ChangeAt Go.RowKit

/-- Block g is exactly the list L. -/
def RowX (w : World) (g : Nat) (L : List Int) : Prop := w.heap[g]? = some (.cells (i64s L).toArray 3 (0, 0))
section
variable {w w' : World} {g : Nat} {L : List Int}
theorem RowX.lt (h : RowX w g L) : g < w.heap.size := by
  unfold RowX at h
  rcases Nat.lt_or_ge g w.heap.size with hlt | hge
  · exact hlt
  · rw [Array.getElem?_eq_none hge] at h; cases h
theorem RowX.row (h : RowX w g L) : Row w g L := ⟨_, h, [], by simp⟩
theorem RowX.cell (h : RowX w g L) {j : Nat} (hj : j < L.length) : w.cell? ⟨g, j, none⟩ = some (.int .i64 (nth L j)) := h.row.cell hj
theorem RowX.free (h : RowX w g L) (j : Nat) : w.frozen? ⟨g, j, none⟩ = false := h.row.frozen j
theorem RowX.below (h : RowX w g L) (hb : Below w.heap.size w w') : RowX w' g L := (hb.block g h.lt).trans h
theorem RowX.set (h : RowX w g L) (k : Nat) (v : Int) : RowX (w.setCell ⟨g, k, none⟩ (.int .i64 v)) g (L.set k v) := by
  have := set_block h k (.int .i64 v)
  unfold RowX
  rw [this]
  congr 2
  simp [i64s, List.map_set]
theorem RowX.new (w : World) (L : List Int) (h : g = w.heap.size) : RowX (w.alloc (.cells (i64s L).toArray 3)) g L := by
  subst h; exact heap_alloc_new w _
theorem RowX.zero (w : World) (n : Nat) (h : g = w.heap.size) : RowX (w.alloc (.cells (Array.replicate n (Value.int .i64 0)) 3)) g (List.replicate n 0) := by
  have e : (Array.replicate n (Value.int .i64 0)) = (i64s (List.replicate n 0)).toArray := by simp [i64s]
  rw [e]; exact RowX.new w _ h
theorem RowX.drewN (h : RowX w g L) (n : Nat) : RowX (w.drewN n) g L := h
theorem RowX.drew (h : RowX w g L) : RowX w.drew g L := h
theorem RowX.alloc (h : RowX w g L) (o : Obj) : RowX (w.alloc o) g L := h.below ((Below.refl _ _).alloc (Nat.le_refl _) o)
/-- What is not in block g stays when g is written. -/
theorem cell_far {a : Addr} {v u : Value} (h : w.cell? a = some v) (hne : a.block ≠ g) (k : Nat) : (w.setCell ⟨g, k, none⟩ u).cell? a = some v :=
  (World.cell?_of_block (Below.heap_setCell _ _ _ _ hne)).trans h
theorem below_far {u : World} {v : Value} (h : Below u.heap.size u w) (hg : u.heap.size ≤ g) (k : Nat) : Below u.heap.size u (w.setCell ⟨g, k, none⟩ v) := h.setCell hg v
theorem ints_far {A : Option Addr} {xs : List Int} {u : World} (h : IntS u A xs) (hb : Below u.heap.size u w) : IntS w A xs := h.below hb
end
theorem nth_set (L : List Int) (k j : Nat) (v : Int) (hk : k < L.length) : nth (L.set k v) j = if j = k then v else nth L j := by
  unfold nth List.getD
  rw [List.getElem?_set]
  by_cases e : k = j
  · subst e; simp [hk]
  · simp [e, Ne.symm e]
theorem nth_zero (n j : Nat) : nth (List.replicate n 0) j = 0 := by
  unfold nth List.getD
  rw [List.getElem?_replicate]; split <;> rfl
theorem nth_app_lt {L M : List Int} {j : Nat} (h : j < L.length) : nth (L ++ M) j = nth L j := by
  unfold nth List.getD; rw [List.getElem?_append_left h]
theorem nth_app_eq {L : List Int} {a : Int} : nth (L ++ [a]) L.length = a := by
  unfold nth List.getD; rw [List.getElem?_append_right (Nat.le_refl _)]; simp
theorem own_below {w w' : World} {B size n : Nat} {e : TypeId} {v : Value} {xs : List Value} (h : w.ownsRow B e size v n xs) (hb : Below w.heap.size w w') : w'.ownsRow B e size v n xs :=
  h.kept (row := none) ⟨hb.os, hb.tape, hb.output, hb.size, fun k hk _ => hb.block k hk⟩ (by cases hv : v.ownBlock <;> simp)
end Go.Proofs.YtgccidkkfalaeaaGreatDoor
/- Contracts: the depths of a tree. -/
namespace Go.Proofs.YtgccidkkfalaeaaGreatDoor
open Go.ChangeShapes Go.WideShapes Go.ChangeAt Go.RowKit

theorem own_cell {w : World} {B n : Nat} {v : Value} {L : List Int} (h : w.ownsRow B 3 1 v n (i64s L)) {j : Nat} (hj : j < L.length) : ∃ g cap, v = .slice (some ⟨g, 0, none⟩) n cap ∧ B ≤ g ∧ w.cell? ⟨g, j, none⟩ = some (.int .i64 (nth L j)) := by
  have hl : L.length = n := by have := h.1; simpa [i64s] using this
  obtain ⟨g, cap, rfl, hB, _⟩ := h.form (by omega)
  refine ⟨g, cap, rfl, hB, ?_⟩
  rw [h.cellAt j (by omega)]
  simp [i64s, nth, List.getD, hj]

/-- The first k depths. -/
def dep (xs : List Int) : Nat → List Int
  | 0 => []
  | 1 => [0]
  | k + 1 => dep xs k ++ [nth (dep xs k) (nth xs k).toNat + 1]
theorem dep_succ (xs : List Int) {k : Nat} (hk : 1 ≤ k) : dep xs (k + 1) = dep xs k ++ [nth (dep xs k) (nth xs k).toNat + 1] := by
  cases k with
  | zero => omega
  | succ k => rfl
theorem dep_len (xs : List Int) (k : Nat) : (dep xs k).length = k := by
  induction k with
  | zero => rfl
  | succ k ih =>
    cases k with
    | zero => rfl
    | succ k => rw [dep_succ xs (by omega)]; simp [ih]
theorem nth_out {L : List Int} {j : Nat} (h : L.length ≤ j) : nth L j = 0 := by
  unfold nth List.getD; rw [List.getElem?_eq_none h]; rfl
theorem dep_bd (xs : List Int) (k j : Nat) : 0 ≤ nth (dep xs k) j ∧ nth (dep xs k) j ≤ k := by
  induction k generalizing j with
  | zero => simp [dep, nth]
  | succ k ih =>
    cases k with
    | zero =>
      have h0 : nth (dep xs (0 + 1)) j = 0 := by
        show nth [0] j = 0
        unfold nth List.getD; cases j <;> simp
      omega
    | succ k =>
      rw [dep_succ xs (by omega)]
      rcases Nat.lt_trichotomy j (k + 1) with h | h | h
      · rw [nth_app_lt (by rw [dep_len]; exact h)]; have := ih j; omega
      · subst h
        have e : (dep xs (k + 1)).length = k + 1 := dep_len _ _
        have := nth_app_eq (L := dep xs (k + 1)) (a := nth (dep xs (k + 1)) (nth xs (k + 1)).toNat + 1)
        rw [e] at this
        rw [this]; have := ih (nth xs (k + 1)).toNat; omega
      · rw [nth_out (by simp [dep_len]; omega)]; omega

theorem up_nat {xs : List Int} (hu : UpOk xs xs.length) {j : Nat} (h1 : 1 ≤ j) (hj : j < xs.length) : ∃ p : Nat, nth xs j = p ∧ p < j := by
  have := of_decide_eq_true (hu j h1 hj)
  exact ⟨(nth xs j).toNat, by omega, by omega⟩

set_option maxHeartbeats 1000000 in
set_option maxRecDepth 100000 in
theorem l2Depths_any (A B : Option Addr) (c m e : Nat) (xs : List Int) (w : World) (h : IntS w A xs) (hn1 : 1 ≤ xs.length) (hn : xs.length ≤ 1000) (hu : UpOk xs xs.length) :
    Calls Tryz.prog 42 #[.agg #[.slice A xs.length c, .slice B m e]] w (RetI w (dep xs xs.length)) := by
  obtain ⟨i0, hi, hz0, hz1, hz2⟩ := info_parts info_int
  have HU := Lib.hid (fun j (h1 : 1 ≤ j) (hj : j < xs.length) => up_nat hu h1 hj)
  obtain ⟨n, hn'⟩ : ∃ n, n = xs.length := ⟨_, rfl⟩
  have HN : Hid (n = xs.length) := hn'
  rw [← hn'] at hn hn1 HU ⊢
  clear hn' hu
  go_enter Tryz.func42, Tryz.ntmps42
  go_wp2
  go_loopw [3, 4] (fun v i wr => ∃ k : Nat, 1 ≤ k ∧ k ≤ n ∧ i = .int .i64 k ∧ wr.ownsRow (w.heap.size + 1) 3 1 v k (i64s (dep xs k)) ∧ wr.cell? ⟨w.heap.size, 0, none⟩ = some (.slice A n c) ∧ Below w.heap.size w wr) (fun _ i _ => n - (intOf i).toNat)
  case atStart =>
    refine ⟨1, by omega, by omega, rfl, ?_, by simp, by (repeat (first | with_reducible exact Below.refl _ _ | with_reducible assumption | with_reducible refine Below.alloc' ?_ ?_ _ | with_reducible refine Below.setCell' ?_ ?_ _ | with_reducible refine Below.drewN' ?_ _ | with_reducible refine Below.drew ?_ | with_reducible refine Below.transA ?_ (by assumption) ?_ | omega | (focus (simp; done)) | (focus (simp; omega))))⟩
    exact ⟨rfl, .inr ⟨w.heap.size + 1, 1, _, rfl, Nat.le_refl _, by have := heap_alloc_new (w.alloc (.cells #[.slice A n c, .slice B m e] 26)) (.cells #[.int .i64 0] 3); simpa using this, Nat.le_refl _, by simp [maxLen], rfl, rfl⟩⟩
  case round =>
    obtain ⟨k, hk1, hk, rfl, hown, hbx, hb1⟩ := hrel
    have hw' : w.heap.size < wr.heap.size := World.block_lt_of_cell? _ _ hbx
    by_cases hlt : k < n
    · obtain ⟨b, o, rfl, hc⟩ := (h.below hb1).at_ (j := k) (by rw [← HN.out]; exact hlt)
      obtain ⟨p, hp, hpk⟩ := HU.out k hk1 hlt
      obtain ⟨g, cap, rfl, hgB, hcp⟩ := own_cell hown (j := p) (by rw [dep_len]; exact hpk)
      rw [hp] at hc
      have hbd := dep_bd xs k p
      obtain ⟨d, hd⟩ : ∃ d, nth (dep xs k) p = d := ⟨_, rfl⟩
      have HP : Hid (i64s (dep xs (k + 1)) = i64s (dep xs k) ++ [Value.int .i64 (d + 1)]) := by
        show _ = _; rw [dep_succ xs hk1, i64s_app, hp, ← hd]; rfl
      rw [hd] at hcp hbd
      clear hp hd
      generalize dep xs k = L at *
      go_wp2_with (at_builtin; refine wpList_append_own_at _ rfl _ _ 24 rfl (w.heap.size + 1) 3 i0 (.int .i64 0) 1 8 Tryz.underlying24 hi hz0 hz1 hz2 rfl (by decide) _ _ _ rfl (hown.alloc _) ⟨wr.heap.size, 0, none⟩ 1 1 [.int .i64 (d + 1)] rfl rfl (cell_one_new _ _ _) (by simp [Value.oneCell']) (by unfold maxLen; omega) (by omega) (by simp; omega) ?_; intro v' w1 hown1 hgrow _ _)
      have hbx1 := grown_cell hgrow (p := ⟨w.heap.size, 0, none⟩) (by rw [World.cell?_alloc_lt _ _ _ hw']; exact hbx) (own_ne (g := w.heap.size) hown (by omega))
      have hb2 : Below w.heap.size w w1 := Below.grown (hb1.alloc (by omega) _) hgrow (by simp; omega) (fun g hg => by have := (hown.lt g hg).1; omega)
      rw [← HP.out] at hown1
      clear hown hgrow hbx hb1 HP
      go_wp2
      go_roundw
      case rel => exact ⟨k + 1, by omega, by omega, by go_num, hown1, hbx1, hb2⟩
      case measure => simp [intOf]; omega
    · have hkn : k = n := by omega
      rw [hkn] at hown
      obtain ⟨A', c', rfl, hO⟩ := own_form hown
      have hll : Hid ((dep xs n).length = n) := dep_len _ _
      clear hkn hown
      go_wp2
      go_ret
      exact ⟨A', c', rfl, hO.mono (by omega), hb1⟩

/-- The first k depths, and zeros. -/
def depZ (xs : List Int) (n k : Nat) : List Int := dep xs k ++ List.replicate (n - k) 0
theorem depZ_set (xs : List Int) (n k : Nat) (hk1 : 1 ≤ k) (hk : k < n) : (depZ xs n k).set k (nth (dep xs k) (nth xs k).toNat + 1) = depZ xs n (k + 1) := by
  unfold depZ
  rw [dep_succ xs hk1]
  have e : n - k = (n - (k + 1)) + 1 := by omega
  rw [e, List.replicate_succ, List.set_append_right _ _ (by rw [dep_len]; exact Nat.le_refl _), dep_len]
  simp
theorem depZ_nth (xs : List Int) (n k j : Nat) (hj : j < k) : nth (depZ xs n k) j = nth (dep xs k) j := nth_app_lt (by rw [dep_len]; exact hj)
theorem depZ_len (xs : List Int) (n k : Nat) (hk : k ≤ n) : (depZ xs n k).length = n := by simp [depZ, dep_len]; omega
theorem depZ_one (xs : List Int) (n : Nat) (h : 1 ≤ n) : depZ xs n 1 = List.replicate n 0 := by
  unfold depZ
  show [0] ++ _ = _
  have e : n = (n - 1) + 1 := by omega
  conv => rhs; rw [e, List.replicate_succ]
  rfl
theorem depZ_all (xs : List Int) (n : Nat) : depZ xs n n = dep xs n := by simp [depZ]

set_option maxHeartbeats 1000000 in
set_option maxRecDepth 100000 in
theorem depths_any (A B : Option Addr) (c m e : Nat) (xs : List Int) (w : World) (h : IntS w A xs) (hn1 : 1 ≤ xs.length) (hn : xs.length ≤ 1000) (hu : UpOk xs xs.length) :
    Calls Tryz.prog 41 #[.agg #[.slice A xs.length c, .slice B m e]] w (RetI w (dep xs xs.length)) := by
  have HU := Lib.hid (fun j (h1 : 1 ≤ j) (hj : j < xs.length) => up_nat hu h1 hj)
  obtain ⟨n, hn'⟩ : ∃ n, n = xs.length := ⟨_, rfl⟩
  have HN : Hid (n = xs.length) := hn'
  rw [← hn'] at hn hn1 HU ⊢
  have hmk := run_makeI n (by omega)
  clear hn' hu
  go_enter Tryz.func41, Tryz.ntmps41
  go_wp2
  go_loopw [4] (fun i wr => ∃ k : Nat, 1 ≤ k ∧ k ≤ n ∧ i = .int .i64 k ∧ RowX wr (w.heap.size + 1) (depZ xs n k) ∧ wr.cell? ⟨w.heap.size, 0, none⟩ = some (.slice A n c) ∧ Below w.heap.size w wr) (fun i _ => n - (intOf i).toNat)
  case atStart =>
    refine ⟨1, by omega, by omega, rfl, ?_, by simp, by (repeat (first | with_reducible exact Below.refl _ _ | with_reducible assumption | with_reducible refine Below.alloc' ?_ ?_ _ | with_reducible refine Below.setCell' ?_ ?_ _ | with_reducible refine Below.drewN' ?_ _ | with_reducible refine Below.drew ?_ | with_reducible refine Below.transA ?_ (by assumption) ?_ | omega | (focus (simp; done)) | (focus (simp; omega))))⟩
    rw [depZ_one xs n hn1]; exact RowX.zero _ _ (by simp)
  case round =>
    obtain ⟨k, hk1, hk, rfl, hrx, hbx, hb1⟩ := hrel
    by_cases hlt : k < n
    · obtain ⟨b, o, rfl, hc⟩ := (h.below hb1).at_ (j := k) (by rw [← HN.out]; exact hlt)
      obtain ⟨p, hp, hpk⟩ := HU.out k hk1 hlt
      have hcp := hrx.cell (j := p) (by rw [depZ_len _ _ _ hk]; omega)
      have hck := hrx.cell (j := k) (by rw [depZ_len _ _ _ hk]; exact hlt)
      have hfk := hrx.free k
      rw [depZ_nth _ _ _ _ hpk] at hcp
      rw [hp] at hc
      have hbd := dep_bd xs k p
      obtain ⟨d, hd⟩ : ∃ d, nth (dep xs k) p = d := ⟨_, rfl⟩
      have hset := hrx.set k (d + 1)
      rw [show (depZ xs n k).set k (d + 1) = depZ xs n (k + 1) from by rw [← depZ_set xs n k hk1 hlt, hp, ← hd]; rfl] at hset
      rw [hd] at hcp hbd
      have hbx' := cell_far (u := .int .i64 (d + 1)) hbx (g := w.heap.size + 1) (by simp) k
      have hb2 := below_far (v := .int .i64 (d + 1)) hb1 (g := w.heap.size + 1) (by omega) k
      have HB := Lib.hid hbx'
      have HS := Lib.hid hset
      clear hp hd hbx' hset hrx
      go_wp2
      go_roundw
      case rel => exact ⟨k + 1, by omega, by omega, by go_num, HS.out, HB.out, hb2⟩
      case measure => simp [intOf]; omega
    · have hkn : k = n := by omega
      subst hkn
      rw [depZ_all] at hrx
      have hll : Hid ((dep xs k).length = k) := dep_len _ _
      go_wp2
      go_ret
      refine ⟨some ⟨w.heap.size + 1, 0, none⟩, k, by rw [hll.out]; rfl, .inr ⟨_, rfl, by omega, hrx.row⟩, hb1⟩

noncomputable def depR (xs ys : List Int) : List Int := if good xs ys then dep xs xs.length else []
theorem depR_len (xs ys : List Int) (hn : xs.length ≤ 1048576) : (depR xs ys).length ≤ 2000000 := by
  unfold depR; split
  · rw [dep_len]; omega
  · simp
set_option maxHeartbeats 400000 in
theorem specDepthsOf_any (A B : Option Addr) (c e : Nat) (xs ys : List Int) (w : World) (h : IntS w A xs) (k : IntS w B ys) (hx : Bd xs) (hy : Bd ys) (hn : xs.length ≤ 1048576) (hm : ys.length ≤ 1048576) :
    Calls Tryz.prog 13 #[.agg #[.slice A xs.length c, .slice B ys.length e]] w (RetIB w (depR xs ys) (good xs ys)) := by
  cases hg : good xs ys
  · have hR : depR xs ys = [] := by unfold depR; rw [hg]; rfl
    have HG := Lib.hid (fun W (h : IntS W A xs) (k : IntS W B ys) => l2Good_r hg A B c e W h k hx hy hn hm)
    rw [hR]
    clear hx hy hg hR
    go_enter Tryz.func13, Tryz.ntmps13
    go_wp2_with fail
    refine (HG.out _ (h.alloc _) (k.alloc _)).mono ?_
    rintro e1 w1 ⟨rfl, hb1⟩
    have hb2 := below_alloc hb1
    go_wp2
    go_ret2
    exact ⟨_, _, rfl, .inr ⟨_, rfl, hb2.size, ⟨#[], heap_alloc_new _ _, [], rfl⟩⟩, keep_below_alloc hb2 _⟩
  · have hR : depR xs ys = dep xs xs.length := by unfold depR; rw [hg]; rfl
    have HG := Lib.hid (fun W (h : IntS W A xs) (k : IntS W B ys) => l2Good_r hg A B c e W h k hx hy hn hm)
    have hgl := good_len hg
    have HK := Lib.hid (fun W (h : IntS W A xs) => l2Depths_any A B c ys.length e xs W h hgl.1 (by omega) (good_iff.1 hg).2.1)
    rw [hR]
    clear hx hy hg hR hgl
    go_enter Tryz.func13, Tryz.ntmps13
    go_wp2_with fail
    refine (HG.out _ (h.alloc _) (k.alloc _)).mono ?_
    rintro e1 w1 ⟨rfl, hb1⟩
    have hx0 := keep_cell hb1 (cell_new _ _ _ 0 _ rfl)
    have hx1 := keep_cell hb1 (cell_new _ _ _ 1 _ rfl)
    simp at hx0 hx1
    have hb2 := below_alloc hb1
    go_wp2_with fail
    refine (HK.out _ (h.below hb2)).mono ?_
    rintro e1 w2 ⟨A', c', rfl, ho, hb3⟩
    go_wp2
    go_ret2
    exact ⟨_, _, rfl, ho.mono hb2.size, keep_below hb3 hb2⟩
set_option maxHeartbeats 400000 in
theorem implDepthsOf_any (A B : Option Addr) (c e : Nat) (xs ys : List Int) (w : World) (h : IntS w A xs) (k : IntS w B ys) (hx : Bd xs) (hy : Bd ys) (hn : xs.length ≤ 1048576) (hm : ys.length ≤ 1048576) :
    Calls Tryz.prog 12 #[.agg #[.slice A xs.length c, .slice B ys.length e]] w (RetIB w (depR xs ys) (good xs ys)) := by
  cases hg : good xs ys
  · have hR : depR xs ys = [] := by unfold depR; rw [hg]; rfl
    have HG := Lib.hid (fun W (h : IntS W A xs) (k : IntS W B ys) => isTree_r hg A B c e W h k hx hy hn hm)
    rw [hR]
    clear hx hy hg hR
    go_enter Tryz.func12, Tryz.ntmps12
    go_wp2_with fail
    refine (HG.out _ (h.alloc _) (k.alloc _)).mono ?_
    rintro e1 w1 ⟨rfl, hb1⟩
    have hb2 := below_alloc hb1
    go_wp2
    go_ret2
    exact ⟨none, 0, rfl, .inl ⟨rfl, rfl⟩, hb2⟩
  · have hR : depR xs ys = dep xs xs.length := by unfold depR; rw [hg]; rfl
    have HG := Lib.hid (fun W (h : IntS W A xs) (k : IntS W B ys) => isTree_r hg A B c e W h k hx hy hn hm)
    have hgl := good_len hg
    have HK := Lib.hid (fun W (h : IntS W A xs) => depths_any A B c ys.length e xs W h hgl.1 (by omega) (good_iff.1 hg).2.1)
    rw [hR]
    clear hx hy hg hR hgl
    go_enter Tryz.func12, Tryz.ntmps12
    go_wp2_with fail
    refine (HG.out _ (h.alloc _) (k.alloc _)).mono ?_
    rintro e1 w1 ⟨rfl, hb1⟩
    have hx0 := keep_cell hb1 (cell_new _ _ _ 0 _ rfl)
    have hx1 := keep_cell hb1 (cell_new _ _ _ 1 _ rfl)
    simp at hx0 hx1
    have hb2 := below_alloc hb1
    go_wp2_with fail
    refine (HK.out _ (h.below hb2)).mono ?_
    rintro e1 w2 ⟨A', c', rfl, ho, hb3⟩
    go_wp2
    go_ret2
    exact ⟨_, _, rfl, ho.mono hb2.size, keep_below hb3 hb2⟩
end Go.Proofs.YtgccidkkfalaeaaGreatDoor
/- A tree that a call hands back, its lists apart; the law's marks in it. -/
namespace Go.Proofs.YtgccidkkfalaeaaGreatDoor
open Go.ChangeShapes Go.WideShapes Go.ChangeAt Go.RowKit

def prPick : Bool → List Int → List Int
  | true, L => L
  | false, _ => []
/-- A call that hands back a new tree, its lists apart in memory, and whether it is one. -/
def RetTB (w : World) (L M : List Int) (r : Bool) (e : Ending) (w' : World) : Prop := ∃ A c A' c', e = .returned (.tuple #[.agg #[.slice A L.length c, .slice A' M.length c'], .bool r]) ∧ OwnS w' w.heap.size A L ∧ OwnS w' w.heap.size A' M ∧ (∀ g g' : Nat, A = some ⟨g, 0, none⟩ → A' = some ⟨g', 0, none⟩ → g ≠ g') ∧ Below w.heap.size w w'
/-- Block g is exactly a tree's two lists. -/
def BlkT (w : World) (g : Nat) (a b : Value) : Prop := w.heap[g]? = some (.cells #[a, b] 26 (0, 0))
section
variable {w w' : World} {g : Nat} {a b : Value}
theorem BlkT.lt (h : BlkT w g a b) : g < w.heap.size := by
  unfold BlkT at h
  rcases Nat.lt_or_ge g w.heap.size with hlt | hge
  · exact hlt
  · rw [Array.getElem?_eq_none hge] at h; cases h
theorem BlkT.below (h : BlkT w g a b) (hb : Below w.heap.size w w') : BlkT w' g a b := (hb.block g h.lt).trans h
theorem BlkT.alloc (h : BlkT w g a b) (o : Obj) : BlkT (w.alloc o) g a b := h.below ((Below.refl _ _).alloc (Nat.le_refl _) o)
theorem BlkT.grown {row : Option Nat} (h : BlkT w g a b) (hb : w.grownBy w' row) (hg : row ≠ some g) : BlkT w' g a b := (hb.block g h.lt (fun e => hg e.symm)).trans h
theorem BlkT.new (w : World) (a b : Value) (hg : g = w.heap.size) : BlkT (w.alloc (.cells #[a, b] 26)) g a b := by
  subst hg; exact heap_alloc_new w _
theorem BlkT.c0 (h : BlkT w g a b) : w.cell? ⟨g, 0, none⟩ = some a := by unfold BlkT at h; rw [cell_of_row _ _ _ _ _ _ h]; rfl
theorem BlkT.c1 (h : BlkT w g a b) : w.cell? ⟨g, 1, none⟩ = some b := by unfold BlkT at h; rw [cell_of_row _ _ _ _ _ _ h]; rfl
theorem BlkT.free (h : BlkT w g a b) (j : Nat) : w.frozen? ⟨g, j, none⟩ = false := frozen_of_row _ _ _ _ _ h
theorem BlkT.set0 (h : BlkT w g a b) (u : Value) : BlkT (w.setCell ⟨g, 0, none⟩ u) g u b := by
  have := set_block h 0 u; unfold BlkT; rw [this]; rfl
theorem BlkT.set1 (h : BlkT w g a b) (u : Value) : BlkT (w.setCell ⟨g, 1, none⟩ u) g a u := by
  have := set_block h 1 u; unfold BlkT; rw [this]; rfl
theorem BlkT.far (h : BlkT w g a b) {q : Nat} (hq : g ≠ q) (k : Nat) (v : Value) : BlkT (w.setCell ⟨q, k, none⟩ v) g a b := (Below.heap_setCell _ _ _ _ hq).trans h
end
end Go.Proofs.YtgccidkkfalaeaaGreatDoor
/- The law's marks in a tree that a call hands back. -/
namespace Go.Proofs.YtgccidkkfalaeaaGreatDoor
open Go.ChangeShapes Go.WideShapes Go.ChangeAt Go.RowKit

/-- All old blocks but the one that A heads are as they were. -/
structure KeptA (w w' : World) (A : Option Addr) : Prop where
  os : w'.os = w.os
  tape : w'.tape = w.tape
  output : w'.output = w.output
  size : w.heap.size ≤ w'.heap.size
  block : ∀ g, g < w.heap.size → A ≠ some ⟨g, 0, none⟩ → w'.heap[g]? = w.heap[g]?
section
variable {w w' : World} {A : Option Addr}
theorem KeptA.own (h : KeptA w w' A) {B : Nat} {A' : Option Addr} {ys : List Int} (ho : OwnS w B A' ys) (hne : ∀ g g' : Nat, A = some ⟨g, 0, none⟩ → A' = some ⟨g', 0, none⟩ → g ≠ g') : OwnS w' B A' ys := by
  rcases ho with ho | ⟨g, h1, h2, h3⟩
  · exact .inl ho
  · exact .inr ⟨g, h1, h2, h3.of_block (h.block g h3.lt fun e => hne g g e h1 rfl)⟩
theorem KeptA.cell (h : KeptA w w' A) {p : Addr} {v : Value} (hc : w.cell? p = some v) (hne : A ≠ some ⟨p.block, 0, none⟩) : w'.cell? p = some v :=
  (World.cell?_of_block (h.block p.block (World.block_lt_of_cell? w p hc) hne)).trans hc
theorem KeptA.below (h : KeptA w w' A) {u : World} (hb : Below u.heap.size u w) (hne : ∀ g, g < u.heap.size → A ≠ some ⟨g, 0, none⟩) : Below u.heap.size u w' :=
  hb.trans ⟨h.os, h.tape, h.output, h.size, fun k hk => h.block k (Nat.lt_of_lt_of_le hk hb.size) (hne k hk)⟩
theorem own_farA {B g : Nat} {xs : List Int} (h : OwnS w B A xs) (hg : g < B) : A ≠ some ⟨g, 0, none⟩ := by
  rcases h with ⟨rfl, _⟩ | ⟨g', rfl, h2, _⟩
  · simp
  · intro e; injection e with e; injection e with e; omega
end
theorem own_ltA {w : World} {A : Option Addr} {B g : Nat} {xs : List Int} (h : OwnS w B A xs) (hg : w.heap.size ≤ g) : A ≠ some ⟨g, 0, none⟩ := by
  rcases h with ⟨rfl, _⟩ | ⟨g', rfl, _, hr⟩
  · simp
  · intro e; injection e with e; injection e with e; have := hr.lt; omega
theorem own_apartA {w w1 : World} {A A' : Option Addr} {B B' : Nat} {xs ys : List Int} (h : OwnS w B A xs) (k : OwnS w1 B' A' ys) (hB : w1.heap.size ≤ B) : ∀ g g' : Nat, A = some ⟨g, 0, none⟩ → A' = some ⟨g', 0, none⟩ → g ≠ g' := by
  intro g g' e1 e2 e
  rcases h with ⟨rfl, _⟩ | ⟨h, rfl, hh, _⟩
  · cases e1
  · cases e1
    exact own_ltA k (Nat.le_trans hB (by omega)) e2
theorem own_kept_up {w w' : World} {p q B U : Nat} {A : Option Addr} {xs : List Int} (h : OwnS w B A xs) (hu : OwnU w U A xs) (hk : KeptBut w w' p q) (hp : U ≤ p) (hq : U ≤ q) : OwnS w' B A xs := by
  rcases h with h | ⟨g, h1, h2, h3⟩
  · exact .inl h
  · rcases hu with ⟨h4, _⟩ | ⟨g', h4, h5, _⟩
    · rw [h4] at h1; cases h1
    · rw [h4] at h1; injection h1 with h1; injection h1 with h1
      subst h1
      exact .inr ⟨g', h4, h2, h3.of_block (hk.block g' h3.lt (by omega) (by omega))⟩
theorem KeptA.blk {w w1 w2 : World} {A A' : Option Addr} (h : KeptA w w1 A) (k : KeptA w1 w2 A') {g : Nat} {a b : Value} (hb : BlkT w g a b) (h1 : A ≠ some ⟨g, 0, none⟩) (h2 : A' ≠ some ⟨g, 0, none⟩) : BlkT w2 g a b :=
  ((k.block g (Nat.lt_of_lt_of_le hb.lt h.size) h2).trans (h.block g hb.lt h1)).trans hb
theorem KeptA.both {w w1 w2 : World} {A A' : Option Addr} (h : KeptA w w1 A) (k : KeptA w1 w2 A') {g : Nat} (hg : g < w.heap.size) (h1 : A ≠ some ⟨g, 0, none⟩) (h2 : A' ≠ some ⟨g, 0, none⟩) : w2.heap[g]? = w.heap[g]? :=
  (k.block g (Nat.lt_of_lt_of_le hg h.size) h2).trans (h.block g hg h1)
end Go.Proofs.YtgccidkkfalaeaaGreatDoor
/- Blocks that hold exactly a row of bools. -/
namespace Go.Proofs.YtgccidkkfalaeaaGreatDoor
open Go.ChangeShapes Go.WideShapes Go.ChangeAt Go.RowKit

/-- Block g is exactly the n bools of f. -/
def RowB (w : World) (g n : Nat) (f : Nat → Bool) : Prop := w.heap[g]? = some (.cells (bArr n f) 4 (0, 0))
section
variable {w w' : World} {g n : Nat} {f : Nat → Bool}
theorem RowB.lt (h : RowB w g n f) : g < w.heap.size := by
  unfold RowB at h
  rcases Nat.lt_or_ge g w.heap.size with hlt | hge
  · exact hlt
  · rw [Array.getElem?_eq_none hge] at h; cases h
theorem RowB.below (h : RowB w g n f) (hb : Below w.heap.size w w') : RowB w' g n f := (hb.block g h.lt).trans h
theorem RowB.new (w : World) (f : Nat → Bool) (n : Nat) (hg : g = w.heap.size) : RowB (w.alloc (.cells (bArr n f) 4)) g n f := by
  subst hg; exact heap_alloc_new w _
theorem RowB.alloc (h : RowB w g n f) (o : Obj) : RowB (w.alloc o) g n f := h.below ((Below.refl _ _).alloc (Nat.le_refl _) o)
theorem RowB.cell (h : RowB w g n f) {j : Nat} (hj : j < n) : w.cell? ⟨g, j, none⟩ = some (.bool (f j)) := by
  have hl := h.lt
  unfold RowB at h
  rw [cell_of_row _ _ _ _ _ _ h, bArr_at n f hj]
theorem RowB.ne (h : RowB w g n f) {B m : Nat} {v : Value} {L : List Value} (ho : w.ownsRow B 3 1 v m L) : v.ownBlock ≠ some g := by
  rcases ho.2 with ⟨rfl, _⟩ | ⟨b, cap, cs, rfl, _, hb, _⟩
  · simp [Value.ownBlock]
  · intro e
    have e' : b = g := by simpa [Value.ownBlock] using e
    subst e'
    unfold RowB at h
    rw [h] at hb
    injection hb with hb
    injection hb with _ ht _
    exact absurd ht (by decide)
theorem RowB.grown {row : Option Nat} (h : RowB w g n f) (hb : w.grownBy w' row) (hg : row ≠ some g) : RowB w' g n f := (hb.block g h.lt (fun e => hg e.symm)).trans h
end
theorem OwnS.pos {w : World} {B : Nat} {A : Option Addr} {xs : List Int} (h : OwnS w B A xs) (hn : 1 ≤ xs.length) : ∃ g, A = some ⟨g, 0, none⟩ ∧ B ≤ g ∧ Row w g xs := by
  rcases h with ⟨_, e⟩ | h
  · rw [e] at hn; simp at hn
  · exact h
theorem isEnd_any (A B : Option Addr) (c m e : Nat) (xs : List Int) (w : World) (h : IntS w A xs) (hn : xs.length ≤ 1000) (hp : Hid (∀ y, y < xs.length → nth xs y < xs.length)) :
    Calls Tryz.prog 40 #[.agg #[.slice A xs.length c, .slice B m e]] w fun e' w' => ∃ g, e' = .returned (.slice (some ⟨g, 0, none⟩) xs.length xs.length) ∧ RowB w' g xs.length (noKid xs xs.length) ∧ w.heap.size ≤ g ∧ Below w.heap.size w w' := by
  refine (isEnd_exact A B c m e xs w h hn hp).mono ?_
  rintro e1 w1 ⟨rfl, rfl⟩
  exact ⟨_, rfl, RowB.new _ _ _ (by simp), by omega, by (repeat (first | with_reducible exact Below.refl _ _ | with_reducible assumption | with_reducible refine Below.alloc' ?_ ?_ _ | with_reducible refine Below.setCell' ?_ ?_ _ | with_reducible refine Below.drewN' ?_ _ | with_reducible refine Below.drew ?_ | with_reducible refine Below.transA ?_ (by assumption) ?_ | omega | (focus (simp; done)) | (focus (simp; omega))))⟩
end Go.Proofs.YtgccidkkfalaeaaGreatDoor
/- Contracts: the ends of a tree. -/
namespace Go.Proofs.YtgccidkkfalaeaaGreatDoor
open Go.ChangeShapes Go.WideShapes Go.ChangeAt Go.RowKit

/-- The ends. -/
def endsL (xs : List Int) : List Int := pick (noKid xs xs.length) xs.length

set_option maxHeartbeats 1000000 in
set_option maxRecDepth 100000 in
theorem l2Ends_any (A B : Option Addr) (c m e : Nat) (xs : List Int) (w : World) (h : IntS w A xs) (hn : xs.length ≤ 1000) (hu : UpOk xs xs.length) (h0 : nth xs 0 = -1) :
    Calls Tryz.prog 44 #[.agg #[.slice A xs.length c, .slice B m e]] w (RetI w (endsL xs)) := by
  obtain ⟨i0, hi, hz0, hz1, hz2⟩ := info_parts info_int
  have HK := Lib.hid (fun W (x : Nat) (hxl : x < xs.length) (h : IntS W A xs) => l2Kids_any A B c m e x xs W h (by omega) hxl)
  have HE := Lib.hid (fun q => kids_noKid hu h0 q)
  unfold endsL
  obtain ⟨n, hn'⟩ : ∃ n, n = xs.length := ⟨_, rfl⟩
  have HN : Hid (n = xs.length) := hn'
  rw [← hn'] at hn HK HE ⊢
  clear hn' hu h0
  go_enter Tryz.func44, Tryz.ntmps44
  go_wp2
  go_loopw [3, 4] (fun v i wr => ∃ k : Nat, k ≤ n ∧ i = .int .i64 k ∧ wr.ownsRow (w.heap.size + 1) 3 1 v (pick (noKid xs n) k).length (i64s (pick (noKid xs n) k)) ∧ wr.cell? ⟨w.heap.size, 0, none⟩ = some (.slice A n c) ∧ wr.cell? ⟨w.heap.size, 1, none⟩ = some (.slice B m e) ∧ Below w.heap.size w wr) (fun _ i _ => n - (intOf i).toNat)
  case atStart =>
    refine ⟨0, by omega, rfl, ?_, by simp, by simp, by (repeat (first | with_reducible exact Below.refl _ _ | with_reducible assumption | with_reducible refine Below.alloc' ?_ ?_ _ | with_reducible refine Below.setCell' ?_ ?_ _ | with_reducible refine Below.drewN' ?_ _ | with_reducible refine Below.drew ?_ | with_reducible refine Below.transA ?_ (by assumption) ?_ | omega | (focus (simp; done)) | (focus (simp; omega))))⟩
    rw [pick_zero]
    exact own_empty _ _ _ (by simp) (by simp)
  case round =>
    obtain ⟨k, hk, rfl, hown, hbx, hby, hb1⟩ := hrel
    have hlen := pick_len (noKid xs n) k
    by_cases hlt : k < n
    · have hke := HE.out k
      go_wp2_with fail
      refine (HK.out _ k hlt (h.below hb1)).mono ?_
      rintro e1 w2 ⟨A1, c1, rfl, ho, hb2⟩
      replace hown := own_below hown hb2
      replace hbx := keep_cell hb2 hbx
      replace hby := keep_cell hb2 hby
      replace hb1 := keep_below hb2 hb1
      clear ho hb2
      have hw' : w.heap.size < w2.heap.size := World.block_lt_of_cell? _ _ hbx
      have hpn := pick_len (isKid xs k) n
      generalize pick (isKid xs k) n = K at *
      cases hy : noKid xs n k
      · have hz : ((K.length : Int) == 0) = false := by rw [hy] at hke; simp at hke ⊢; omega
        have hp := pick_no hy
        rw [← hp] at hown
        clear hp hy hke
        go_wp2
        go_roundw
        case rel => exact ⟨k + 1, by omega, by go_num, hown, hbx, hby, hb1⟩
        case measure => simp only [intOf]; omega
      · have hz : ((K.length : Int) == 0) = true := by rw [hy] at hke; simp at hke ⊢; omega
        have hp := pick_yes hy
        have HP : Hid (i64s (pick (noKid xs n) (k + 1)) = i64s (pick (noKid xs n) k) ++ [Value.int .i64 (k : Int)] ∧ (pick (noKid xs n) (k + 1)).length = (pick (noKid xs n) k).length + 1) := by
          rw [hp]; exact ⟨i64s_app _ _, by simp⟩
        clear hp hy hke
        generalize pick (noKid xs n) k = P at *
        go_wp2_with (at_builtin; refine wpList_append_own_at _ rfl _ _ 24 rfl (w.heap.size + 1) 3 i0 (.int .i64 0) 1 8 Tryz.underlying24 hi hz0 hz1 hz2 rfl (by decide) _ _ _ rfl (hown.alloc _) ⟨w2.heap.size, 0, none⟩ 1 1 [.int .i64 k] rfl rfl (cell_one_new _ _ _) (by simp [Value.oneCell']) (by unfold maxLen; omega) (by omega) (by simp; omega) ?_; intro v' w1 hown1 hgrow _ _)
        have hbx1 := grown_cell hgrow (p := ⟨w.heap.size, 0, none⟩) (by rw [World.cell?_alloc_lt _ _ _ hw']; exact hbx) (own_ne (g := w.heap.size) hown (by omega))
        have hby1 := grown_cell hgrow (p := ⟨w.heap.size, 1, none⟩) (by rw [World.cell?_alloc_lt _ _ _ hw']; exact hby) (own_ne (g := w.heap.size) hown (by omega))
        have hb3 : Below w.heap.size w w1 := Below.grown (hb1.alloc (by omega) _) hgrow (by simp; omega) (fun g hg => by have := (hown.lt g hg).1; omega)
        rw [← HP.out.1, ← HP.out.2] at hown1
        clear hown hgrow hbx hby hb1 HP
        go_wp2
        go_roundw
        case rel => exact ⟨k + 1, by omega, by go_num, hown1, hbx1, hby1, hb3⟩
        case measure => simp only [intOf]; omega
    · have hkn : k = n := by omega
      rw [hkn] at hown
      obtain ⟨A', c', rfl, hO⟩ := own_form hown
      clear hkn hown
      go_wp2
      go_ret
      exact ⟨A', c', rfl, hO.mono (by omega), hb1⟩

set_option maxHeartbeats 1000000 in
set_option maxRecDepth 100000 in
theorem ends_any (A B : Option Addr) (c m e : Nat) (xs : List Int) (w : World) (h : IntS w A xs) (hn : xs.length ≤ 1000) (hu : UpOk xs xs.length) (h0 : nth xs 0 = -1) :
    Calls Tryz.prog 43 #[.agg #[.slice A xs.length c, .slice B m e]] w (RetI w (endsL xs)) := by
  obtain ⟨i0, hi, hz0, hz1, hz2⟩ := info_parts info_int
  have HE := Lib.hid (fun W (h : IntS W A xs) => isEnd_any A B c m e xs W h hn (Lib.hid (hu.lt h0)))
  unfold endsL
  obtain ⟨n, hn'⟩ : ∃ n, n = xs.length := ⟨_, rfl⟩
  rw [← hn'] at hn HE ⊢
  clear hn' hu h0
  go_enter Tryz.func43, Tryz.ntmps43
  go_wp2_with fail
  refine (HE.out _ ((h.alloc _).alloc _)).mono ?_
  rintro e1 w1 ⟨g, rfl, hrb, hg, hb1⟩
  have hown0 := own_below (own_empty (w.alloc (.cells #[.slice A n c, .slice B m e] 26)) (w.heap.size + 1) (w.heap.size + 1) (by simp) (by simp)) hb1
  replace hb1 : Below w.heap.size w w1 := below_alloc (below_alloc hb1)
  replace hg : w.heap.size + 1 ≤ g := by simp at hg; omega
  generalize noKid xs n = f at *
  go_wp2
  go_loopw [3, 4, 5, 10] (fun v _ _ i wr => ∃ k : Nat, k ≤ n ∧ i = .int .i64 k ∧ wr.ownsRow (w.heap.size + 1) 3 1 v (pick f k).length (i64s (pick f k)) ∧ RowB wr g n f ∧ Below w.heap.size w wr) (fun _ _ _ i _ => n - (intOf i).toNat)
  case atStart => exact ⟨0, by omega, rfl, hown0, hrb, hb1⟩
  case round =>
    clear hown0 hrb hb1
    obtain ⟨k, hk, rfl, hown, hrb, hb1⟩ := hrel
    have hgl := hrb.lt
    have hlen := pick_len f k
    by_cases hlt : k < n
    · have hc := hrb.cell hlt
      cases hy : f k
      · rw [hy] at hc
        have hp := pick_no hy
        rw [← hp] at hown
        clear hp hy
        go_wp2
        go_roundw
        case rel => exact ⟨k + 1, by omega, by go_num, hown, hrb, hb1⟩
        case measure => simp only [intOf]; omega
      · rw [hy] at hc
        have hp := pick_yes hy
        have HP : Hid (i64s (pick f (k + 1)) = i64s (pick f k) ++ [Value.int .i64 (k : Int)] ∧ (pick f (k + 1)).length = (pick f k).length + 1) := by
          rw [hp]; exact ⟨i64s_app _ _, by simp⟩
        clear hp hy
        generalize pick f k = P at *
        go_wp2_with (at_builtin; (refine wpList_append_own_at _ rfl _ _ 24 rfl (w.heap.size + 1) 3 i0 (.int .i64 0) 1 8 Tryz.underlying24 hi hz0 hz1 hz2 rfl (by decide) _ _ _ rfl (hown.alloc _) ⟨wr.heap.size, 0, none⟩ 1 1 [.int .i64 (k)] rfl rfl (cell_one_new _ _ _) (by simp [Value.oneCell']) (by unfold maxLen; omega) (by omega) (by simp; omega) ?_); intro v' w1 hown1 hgrow _ hat)
        have hrb1 := (hrb.alloc (.cells #[.int .i64 k] 3)).grown hgrow (hrb.ne hown)
        have hb3 : Below w.heap.size w w1 := Below.grown (hb1.alloc hb1.size _) hgrow (by simp; have := hb1.size; omega) (fun g hg => by have := (hown.lt g hg).1; omega)
        rw [← HP.out.1, ← HP.out.2] at hown1
        clear hown hgrow hrb hb1 HP
        go_wp2
        go_roundw
        case rel => exact ⟨k + 1, by omega, by go_num, hown1, hrb1, hb3⟩
        case measure => simp only [intOf]; omega
    · have hkn : k = n := by omega
      rw [hkn] at hown
      obtain ⟨A', c', rfl, hO⟩ := own_form hown
      clear hkn hown
      go_wp2
      go_ret
      exact ⟨A', c', rfl, hO.mono (by omega), hb1⟩
end Go.Proofs.YtgccidkkfalaeaaGreatDoor
/- Contracts: the cut of a tree at a time. -/
namespace Go.Proofs.YtgccidkkfalaeaaGreatDoor
open Go.ChangeShapes Go.WideShapes Go.ChangeAt Go.RowKit

/-- Node x is in the cut at time d. -/
def inCut (xs ys : List Int) (d : Int) (x : Nat) : Bool := nth (dep xs xs.length) x == d || (decide (nth (dep xs xs.length) x < d) && decide (0 < nth ys x))
def cutL (xs ys : List Int) (d : Int) : List Int := pick (inCut xs ys d) xs.length
theorem wt_end {xs ys : List Int} (h : good xs ys = true) {x : Nat} (hx : x < xs.length) : decide (0 < nth ys x) = noKid xs xs.length x := by
  have := (good_iff.1 h).2.2 x hx
  unfold wtOk at this
  split at this
  · rename_i hk; have := of_decide_eq_true this; rw [hk]; simp; omega
  · rename_i hk; have h0 : nth ys x = 0 := by simpa using this
    rw [h0]; simp at hk ⊢; exact hk

set_option maxHeartbeats 1000000 in
set_option maxRecDepth 100000 in
theorem l2CutAt_any {xs ys : List Int} (hg : good xs ys = true) (A B : Option Addr) (c e : Nat) (d : Int) (w : World) (h : IntS w A xs) (k : IntS w B ys) :
    Calls Tryz.prog 36 #[.agg #[.slice A xs.length c, .slice B ys.length e], .int .i64 d] w (RetI w (cutL xs ys d)) := by
  obtain ⟨i0, hi, hz0, hz1, hz2⟩ := info_parts info_int
  have hgl := good_len hg
  have HD := Lib.hid (fun W (h : IntS W A xs) => l2Depths_any A B c ys.length e xs W h hgl.1 (by omega) (good_iff.1 hg).2.1)
  have HF := Lib.hid (fun x => show inCut xs ys d x = (nth (dep xs xs.length) x == d || (decide (nth (dep xs xs.length) x < d) && decide (0 < nth ys x))) from rfl)
  have HL : Hid ((dep xs xs.length).length = xs.length) := dep_len _ _
  unfold cutL
  generalize inCut xs ys d = f at *
  generalize dep xs xs.length = D at *
  obtain ⟨n, hn'⟩ : ∃ n, n = xs.length := ⟨_, rfl⟩
  have HN : Hid (n = ys.length) := by show _ = _; rw [hn']; exact hgl.2.2.symm
  obtain ⟨hn1, hn, hyl⟩ := hgl
  rw [hyl] at HD ⊢
  rw [← hn'] at hn hn1 HD HL ⊢
  clear hn' hg hyl
  go_enter Tryz.func36, Tryz.ntmps36
  go_wp2_with fail
  refine (HD.out _ ((h.alloc _).alloc _)).mono ?_
  rintro e1 w1 ⟨A1, c1, he1, ho, hb1⟩
  rw [HL.out] at he1
  subst he1
  have hown0 := own_below (own_empty (w.alloc (.cells #[.slice A n c, .slice B n e] 26)) (w.heap.size + 1) (w.heap.size + 1) (by simp) (by simp)) hb1
  have hx1 : w1.cell? ⟨w.heap.size, 1, none⟩ = some (.slice B n e) := keep_cell hb1 (by simp)
  replace ho := ho.pos (by rw [HL.out]; exact hn1)
  replace hb1 := below_alloc (below_alloc hb1)
  obtain ⟨g, rfl, hg, hrow⟩ := ho
  replace hg : w.heap.size + 1 < g := by simp at hg; omega
  have hgl := hrow.lt
  go_wp2
  go_loopw [5, 7] (fun v i wr => ∃ j : Nat, j ≤ n ∧ i = .int .i64 j ∧ wr.ownsRow (w.heap.size + 1) 3 1 v (pick f j).length (i64s (pick f j)) ∧ v.ownBlock ≠ some g ∧ Row wr g D ∧ wr.cell? ⟨w.heap.size, 1, none⟩ = some (.slice B n e) ∧ Below w.heap.size w wr) (fun _ i _ => n - (intOf i).toNat)
  case atStart => exact ⟨0, by omega, rfl, hown0, by simp [Value.ownBlock]; omega, hrow, hx1, hb1⟩
  case round =>
    clear hown0 hrow hb1 hx1 hgl HD
    obtain ⟨j, hj, rfl, hown, hne, hrow, hx1, hb1⟩ := hrel
    have hgl := hrow.lt
    have hlen := pick_len f j
    by_cases hlt : j < n
    · have hc := hrow.cell (j := j) (by rw [HL.out]; exact hlt)
      obtain ⟨b, o, rfl, hc2⟩ := (k.below hb1).at_ (j := j) (by rw [← HN.out]; exact hlt)
      have hf := HF.out j
      generalize nth D j = a at *
      generalize nth ys j = y at *
      cases hy : f j
      · have hp := pick_no hy
        rw [← hp] at hown
        rw [hy] at hf
        clear hp hy
        have hq : (a == d) = false := (Bool.or_eq_false_iff.1 hf.symm).1
        rw [hq] at hf
        by_cases hl : a < d
        · have hl' : decide (a < d) = true := by simpa using hl
          have hy0 : decide (0 < y) = false := by rw [hl'] at hf; simpa using hf.symm
          clear hf hl
          go_wp2
          go_roundw
          case rel => exact ⟨j + 1, by omega, by go_num, hown, hne, hrow, hx1, hb1⟩
          case measure => simp only [intOf]; omega
        · have hl' : decide (a < d) = false := by simpa using hl
          clear hf hl
          go_wp2
          go_roundw
          case rel => exact ⟨j + 1, by omega, by go_num, hown, hne, hrow, hx1, hb1⟩
          case measure => simp only [intOf]; omega
      · have hp := pick_yes hy
        have HP : Hid (i64s (pick f (j + 1)) = i64s (pick f j) ++ [Value.int .i64 (j : Int)] ∧ (pick f (j + 1)).length = (pick f j).length + 1) := by
          rw [hp]; exact ⟨i64s_app _ _, by simp⟩
        rw [hy] at hf
        clear hp hy
        generalize pick f j = P at *
        have hgo : (a == d) = true ∨ (a == d) = false ∧ decide (a < d) = true ∧ decide (0 < y) = true := by
          rcases Bool.or_eq_true_iff.1 hf.symm with h1 | h1
          · exact .inl h1
          · cases hq : (a == d)
            · exact .inr ⟨rfl, Bool.and_eq_true_iff.1 h1⟩
            · exact .inl rfl
        clear hf
        rcases hgo with hq | ⟨hq, hl', hy0⟩
        all_goals
          go_wp2_with (at_builtin; (refine wpList_append_own_at _ rfl _ _ 24 rfl (w.heap.size + 1) 3 i0 (.int .i64 0) 1 8 Tryz.underlying24 hi hz0 hz1 hz2 rfl (by decide) _ _ _ rfl (hown.alloc _) ⟨wr.heap.size, 0, none⟩ 1 1 [.int .i64 (j)] rfl rfl (cell_one_new _ _ _) (by simp [Value.oneCell']) (by unfold maxLen; omega) (by omega) (by simp; omega) ?_); intro v' w1 hown1 hgrow _ hat)
          have hrow1 := (hrow.alloc (.cells #[.int .i64 j] 3)).grown hgrow (fun e => hne e.symm)
          have hx2 := grown_cell hgrow (p := ⟨w.heap.size, 1, none⟩) (by rw [World.cell?_alloc_lt _ _ _ (World.block_lt_of_cell? _ _ hx1)]; exact hx1) (own_ne (g := w.heap.size) hown (by omega))
          have hb3 : Below w.heap.size w w1 := Below.grown (hb1.alloc hb1.size _) hgrow (by simp; have := hb1.size; omega) (fun g hg => by have := (hown.lt g hg).1; omega)
          have hne1 : v'.ownBlock ≠ some g := by
            rcases hat with e | e
            · rw [e]; exact hne
            · rw [e]; simp; omega
          rw [← HP.out.1, ← HP.out.2] at hown1
          clear hown hgrow hrow hb1 HP hx1 hne
          go_wp2
          go_roundw
          case rel => exact ⟨j + 1, by omega, by go_num, hown1, hne1, hrow1, hx2, hb3⟩
          case measure => simp only [intOf]; omega
    · have hkn : j = n := by omega
      rw [hkn] at hown
      obtain ⟨A', c', rfl, hO⟩ := own_form hown
      clear hkn hown
      go_wp2
      go_ret
      exact ⟨A', c', rfl, hO.mono (by omega), hb1⟩
set_option maxHeartbeats 1000000 in
set_option maxRecDepth 100000 in
theorem cut_any {xs ys : List Int} (hg : good xs ys = true) (A B : Option Addr) (c e : Nat) (d : Int) (w : World) (h : IntS w A xs) :
    Calls Tryz.prog 34 #[.agg #[.slice A xs.length c, .slice B ys.length e], .int .i64 d] w (RetI w (cutL xs ys d)) := by
  obtain ⟨i0, hi, hz0, hz1, hz2⟩ := info_parts info_int
  have hgl := good_len hg
  have HD := Lib.hid (fun W (h : IntS W A xs) => depths_any A B c ys.length e xs W h hgl.1 (by omega) (good_iff.1 hg).2.1)
  have HE := Lib.hid (fun W (h : IntS W A xs) => isEnd_any A B c ys.length e xs W h (by omega) (Lib.hid ((good_iff.1 hg).2.1.lt (good_iff.1 hg).1.2.2)))
  have HF := Lib.hid (fun x (hx : x < xs.length) => show inCut xs ys d x = (nth (dep xs xs.length) x == d || (decide (nth (dep xs xs.length) x < d) && noKid xs xs.length x)) from by rw [← wt_end hg hx]; rfl)
  have HL : Hid ((dep xs xs.length).length = xs.length) := dep_len _ _
  unfold cutL
  generalize inCut xs ys d = f at *
  generalize dep xs xs.length = D at *
  generalize noKid xs xs.length = E at *
  obtain ⟨n, hn'⟩ : ∃ n, n = xs.length := ⟨_, rfl⟩
  obtain ⟨hn1, hn, hyl⟩ := hgl
  rw [hyl] at HD HE ⊢
  rw [← hn'] at hn hn1 HD HE HF HL ⊢
  clear hn' hg hyl
  go_enter Tryz.func34, Tryz.ntmps34
  go_wp2_with fail
  refine (HD.out _ ((h.alloc _).alloc _)).mono ?_
  rintro e1 w1 ⟨A1, c1, he1, ho, hb1⟩
  rw [HL.out] at he1
  subst he1
  have hown0 := own_below (own_empty (w.alloc (.cells #[.slice A n c, .slice B n e] 26)) (w.heap.size + 1) (w.heap.size + 1) (by simp) (by simp)) hb1
  have hx0 : w1.cell? ⟨w.heap.size, 0, none⟩ = some (.slice A n c) := keep_cell hb1 (by simp)
  have hx1 : w1.cell? ⟨w.heap.size, 1, none⟩ = some (.slice B n e) := keep_cell hb1 (by simp)
  replace ho := ho.pos (by rw [HL.out]; exact hn1)
  replace hb1 := below_alloc (below_alloc hb1)
  obtain ⟨g, rfl, hg, hrow⟩ := ho
  replace hg : w.heap.size + 1 < g := by simp at hg; omega
  go_wp2_with fail
  refine (HE.out _ (h.below hb1)).mono ?_
  rintro e1 w2 ⟨ge, rfl, hrb, hge, hb2⟩
  replace hown0 := own_below hown0 hb2
  replace hge : w.heap.size + 1 < ge := by have := hrow.lt; omega
  replace hrow := hrow.below hb2
  replace hb1 := keep_below hb2 hb1
  have hgl := hrow.lt
  clear hx0 hx1 hb2
  go_wp2
  go_loopw [5, 7, 8, 15] (fun v _ _ i wr => ∃ j : Nat, j ≤ n ∧ i = .int .i64 j ∧ wr.ownsRow (w.heap.size + 1) 3 1 v (pick f j).length (i64s (pick f j)) ∧ v.ownBlock ≠ some g ∧ Row wr g D ∧ RowB wr ge n E ∧ Below w.heap.size w wr) (fun _ _ _ i _ => n - (intOf i).toNat)
  case atStart => exact ⟨0, by omega, rfl, hown0, by simp [Value.ownBlock]; omega, hrow, hrb, hb1⟩
  case round =>
    clear hown0 hrow hb1 hgl HD hrb
    obtain ⟨j, hj, rfl, hown, hne, hrow, hrb, hb1⟩ := hrel
    have hgl := hrow.lt
    have hlen := pick_len f j
    by_cases hlt : j < n
    · have hc := hrow.cell (j := j) (by rw [HL.out]; exact hlt)
      have hc2 := hrb.cell hlt
      have hf := HF.out j hlt
      generalize nth D j = a at *
      generalize E j = y at *
      cases hy : f j
      · have hp := pick_no hy
        rw [← hp] at hown
        rw [hy] at hf
        clear hp hy
        have hq : (a == d) = false := (Bool.or_eq_false_iff.1 hf.symm).1
        rw [hq] at hf
        cases y
        · clear hf
          go_wp2
          go_roundw
          case rel => exact ⟨j + 1, by omega, by go_num, hown, hne, hrow, hrb, hb1⟩
          case measure => simp only [intOf]; omega
        · have hl' : decide (a < d) = false := by simpa using hf.symm
          clear hf
          go_wp2
          go_roundw
          case rel => exact ⟨j + 1, by omega, by go_num, hown, hne, hrow, hrb, hb1⟩
          case measure => simp only [intOf]; omega
      · have hp := pick_yes hy
        have HP : Hid (i64s (pick f (j + 1)) = i64s (pick f j) ++ [Value.int .i64 (j : Int)] ∧ (pick f (j + 1)).length = (pick f j).length + 1) := by
          rw [hp]; exact ⟨i64s_app _ _, by simp⟩
        rw [hy] at hf
        clear hp hy
        generalize pick f j = P at *
        have hgo : (a == d) = true ∨ (a == d) = false ∧ decide (a < d) = true ∧ y = true := by
          rcases Bool.or_eq_true_iff.1 hf.symm with h1 | h1
          · exact .inl h1
          · cases hq : (a == d)
            · exact .inr ⟨rfl, Bool.and_eq_true_iff.1 h1⟩
            · exact .inl rfl
        clear hf
        rcases hgo with hq | ⟨hq, hl', rfl⟩
        all_goals
          go_wp2_with (at_builtin; (refine wpList_append_own_at _ rfl _ _ 24 rfl (w.heap.size + 1) 3 i0 (.int .i64 0) 1 8 Tryz.underlying24 hi hz0 hz1 hz2 rfl (by decide) _ _ _ rfl (hown.alloc _) ⟨wr.heap.size, 0, none⟩ 1 1 [.int .i64 (j)] rfl rfl (cell_one_new _ _ _) (by simp [Value.oneCell']) (by unfold maxLen; omega) (by omega) (by simp; omega) ?_); intro v' w1 hown1 hgrow _ hat)
          have hrow1 := (hrow.alloc (.cells #[.int .i64 j] 3)).grown hgrow (fun e => hne e.symm)
          have hrb1 := (hrb.alloc (.cells #[.int .i64 j] 3)).grown hgrow (hrb.ne hown)
          have hb3 : Below w.heap.size w w1 := Below.grown (hb1.alloc hb1.size _) hgrow (by simp; have := hb1.size; omega) (fun g hg => by have := (hown.lt g hg).1; omega)
          have hne1 : v'.ownBlock ≠ some g := by
            rcases hat with e | e
            · rw [e]; exact hne
            · rw [e]; simp; omega
          rw [← HP.out.1, ← HP.out.2] at hown1
          clear hown hgrow hrow hb1 HP hne hrb
          go_wp2
          go_roundw
          case rel => exact ⟨j + 1, by omega, by go_num, hown1, hne1, hrow1, hrb1, hb3⟩
          case measure => simp only [intOf]; omega
    · have hkn : j = n := by omega
      rw [hkn] at hown
      obtain ⟨A', c', rfl, hO⟩ := own_form hown
      clear hkn hown
      go_wp2
      go_ret
      exact ⟨A', c', rfl, hO.mono (by omega), hb1⟩
end Go.Proofs.YtgccidkkfalaeaaGreatDoor
/- Contracts of CutAt, printed by wraps.py. -/
namespace Go.Proofs.YtgccidkkfalaeaaGreatDoor
open Go.ChangeShapes Go.WideShapes Go.ChangeAt Go.RowKit

noncomputable def cutROk (xs ys : List Int) (x : Int) : Bool := good xs ys && decide (0 ≤ x)
noncomputable def cutR (xs ys : List Int) (x : Int) : List Int := if cutROk xs ys x then cutL xs ys x else []
theorem cutR_len (xs ys : List Int) (x : Int) (hn : xs.length ≤ 1048576) : (cutR xs ys x).length ≤ 2000000 := by
  unfold cutR; split
  · have := pick_len (inCut xs ys x) xs.length; unfold cutL; omega
  · simp

set_option maxHeartbeats 400000 in
theorem specCutAt_any (A B : Option Addr) (c e : Nat) (xs ys : List Int) (x : Int) (w : World) (h : IntS w A xs) (k : IntS w B ys) (hx : Bd xs) (hy : Bd ys) (_hd : -9223372036854775808 ≤ x ∧ x ≤ 9223372036854775807) (hn : xs.length ≤ 1048576) (hm : ys.length ≤ 1048576) :
    Calls Tryz.prog 7 #[.agg #[.slice A xs.length c, .slice B ys.length e], .int .i64 x] w (RetIB w (cutR xs ys x) (cutROk xs ys x)) := by
  obtain ⟨r, hr⟩ : ∃ r, decide (0 ≤ x) = r := ⟨_, rfl⟩
  cases hg : good xs ys
  case false =>
    have hO : cutROk xs ys x = false := by unfold cutROk; rw [hg]; rfl
    have hR : cutR xs ys x = [] := by unfold cutR; rw [hO]; rfl
    have HG := Lib.hid (fun W (h : IntS W A xs) (k : IntS W B ys) => l2Good_r hg A B c e W h k hx hy hn hm)
    rw [hR, hO]
    clear hx hy hg hR hO hr
    go_enter Tryz.func7, Tryz.ntmps7
    go_wp2_with fail
    refine (HG.out _ (h.alloc _) (k.alloc _)).mono ?_
    rintro e1 w1 ⟨rfl, hb1⟩
    have hb2 := below_alloc hb1
    go_wp2
    go_ret2
    exact ⟨_, _, rfl, .inr ⟨_, rfl, hb2.size, ⟨#[], heap_alloc_new _ _, [], rfl⟩⟩, keep_below_alloc hb2 _⟩
  case true =>
    have hO : cutROk xs ys x = r := by unfold cutROk; rw [hg, hr]; rfl
    have hR : cutR xs ys x = if r then cutL xs ys x else [] := by unfold cutR; rw [hO]
    have HG := Lib.hid (fun W (h : IntS W A xs) (k : IntS W B ys) => l2Good_r hg A B c e W h k hx hy hn hm)
    rw [hR, hO]
    have HK := Lib.hid (fun W (h : IntS W A xs) (k : IntS W B ys) => l2CutAt_any hg A B c e x W h k)
    clear hx hy hR hO hg
    cases r
    case false =>
      have hneg : x < 0 := by simpa using hr
      have hdn : decide (x < 0) = true := by simpa using hneg
      clear hr HK
      go_enter Tryz.func7, Tryz.ntmps7
      go_wp2_with fail
      refine (HG.out _ (h.alloc _) (k.alloc _)).mono ?_
      rintro e1 w1 ⟨rfl, hb1⟩
      have hb2 := below_alloc hb1
      go_wp2
      go_ret2
      exact ⟨_, _, rfl, .inr ⟨_, rfl, hb2.size, ⟨#[], heap_alloc_new _ _, [], rfl⟩⟩, keep_below_alloc hb2 _⟩
    have hneg : ¬ x < 0 := by simpa using hr
    have hdn : decide (x < 0) = false := by simpa using hneg
    clear hr
    rw [if_pos rfl]
    go_enter Tryz.func7, Tryz.ntmps7
    go_wp2_with fail
    refine (HG.out _ (h.alloc _) (k.alloc _)).mono ?_
    rintro e1 w1 ⟨rfl, hb1⟩
    have hb2 := below_alloc hb1
    have hx0 := keep_cell hb1 (cell_new _ _ _ 0 _ rfl)
    have hx1 := keep_cell hb1 (cell_new _ _ _ 1 _ rfl)
    simp at hx0 hx1
    go_wp2_with fail
    refine (HK.out _ (h.below hb2) (k.below hb2)).mono ?_
    rintro e1 w9 ⟨A', c', rfl, ho, hb9⟩
    go_wp2
    go_ret2
    exact ⟨_, _, rfl, ho.mono hb2.size, keep_below hb9 hb2⟩

set_option maxHeartbeats 400000 in
theorem implCutAt_any (A B : Option Addr) (c e : Nat) (xs ys : List Int) (x : Int) (w : World) (h : IntS w A xs) (k : IntS w B ys) (hx : Bd xs) (hy : Bd ys) (_hd : -9223372036854775808 ≤ x ∧ x ≤ 9223372036854775807) (hn : xs.length ≤ 1048576) (hm : ys.length ≤ 1048576) :
    Calls Tryz.prog 6 #[.agg #[.slice A xs.length c, .slice B ys.length e], .int .i64 x] w (RetIB w (cutR xs ys x) (cutROk xs ys x)) := by
  obtain ⟨r, hr⟩ : ∃ r, decide (0 ≤ x) = r := ⟨_, rfl⟩
  cases hg : good xs ys
  case false =>
    have hO : cutROk xs ys x = false := by unfold cutROk; rw [hg]; rfl
    have hR : cutR xs ys x = [] := by unfold cutR; rw [hO]; rfl
    have HG := Lib.hid (fun W (h : IntS W A xs) (k : IntS W B ys) => isTree_r hg A B c e W h k hx hy hn hm)
    rw [hR, hO]
    clear hx hy hg hR hO hr
    go_enter Tryz.func6, Tryz.ntmps6
    go_wp2_with fail
    refine (HG.out _ (h.alloc _) (k.alloc _)).mono ?_
    rintro e1 w1 ⟨rfl, hb1⟩
    have hb2 := below_alloc hb1
    go_wp2
    go_ret2
    exact ⟨none, 0, rfl, .inl ⟨rfl, rfl⟩, hb2⟩
  case true =>
    have hO : cutROk xs ys x = r := by unfold cutROk; rw [hg, hr]; rfl
    have hR : cutR xs ys x = if r then cutL xs ys x else [] := by unfold cutR; rw [hO]
    have HG := Lib.hid (fun W (h : IntS W A xs) (k : IntS W B ys) => isTree_r hg A B c e W h k hx hy hn hm)
    rw [hR, hO]
    have HK := Lib.hid (fun W (h : IntS W A xs) (k : IntS W B ys) => cut_any hg A B c e x W h)
    clear hx hy hR hO hg
    cases r
    case false =>
      have hneg : x < 0 := by simpa using hr
      have hdn : decide (x < 0) = true := by simpa using hneg
      clear hr HK
      go_enter Tryz.func6, Tryz.ntmps6
      go_wp2_with fail
      refine (HG.out _ (h.alloc _) (k.alloc _)).mono ?_
      rintro e1 w1 ⟨rfl, hb1⟩
      have hb2 := below_alloc hb1
      go_wp2
      go_ret2
      exact ⟨none, 0, rfl, .inl ⟨rfl, rfl⟩, hb2⟩
    have hneg : ¬ x < 0 := by simpa using hr
    have hdn : decide (x < 0) = false := by simpa using hneg
    clear hr
    rw [if_pos rfl]
    go_enter Tryz.func6, Tryz.ntmps6
    go_wp2_with fail
    refine (HG.out _ (h.alloc _) (k.alloc _)).mono ?_
    rintro e1 w1 ⟨rfl, hb1⟩
    have hb2 := below_alloc hb1
    have hx0 := keep_cell hb1 (cell_new _ _ _ 0 _ rfl)
    have hx1 := keep_cell hb1 (cell_new _ _ _ 1 _ rfl)
    simp at hx0 hx1
    go_wp2_with fail
    refine (HK.out _ (h.below hb2) (k.below hb2)).mono ?_
    rintro e1 w9 ⟨A', c', rfl, ho, hb9⟩
    go_wp2
    go_ret2
    exact ⟨_, _, rfl, ho.mono hb2.size, keep_below hb9 hb2⟩
end Go.Proofs.YtgccidkkfalaeaaGreatDoor
/- Contracts of EndsOf, printed by wraps.py. -/
namespace Go.Proofs.YtgccidkkfalaeaaGreatDoor
open Go.ChangeShapes Go.WideShapes Go.ChangeAt Go.RowKit

noncomputable def endR (xs ys : List Int) : List Int := if good xs ys then endsL xs else []
theorem endR_len (xs ys : List Int) (hn : xs.length ≤ 1048576) : (endR xs ys).length ≤ 2000000 := by
  unfold endR; split
  · have := pick_len (noKid xs xs.length) xs.length; unfold endsL; omega
  · simp

set_option maxHeartbeats 400000 in
theorem specEndsOf_any (A B : Option Addr) (c e : Nat) (xs ys : List Int) (w : World) (h : IntS w A xs) (k : IntS w B ys) (hx : Bd xs) (hy : Bd ys) (hn : xs.length ≤ 1048576) (hm : ys.length ≤ 1048576) :
    Calls Tryz.prog 15 #[.agg #[.slice A xs.length c, .slice B ys.length e]] w (RetIB w (endR xs ys) (good xs ys)) := by
  cases hg : good xs ys
  · have hR : endR xs ys = [] := by unfold endR; rw [hg]; rfl
    have HG := Lib.hid (fun W (h : IntS W A xs) (k : IntS W B ys) => l2Good_r hg A B c e W h k hx hy hn hm)
    rw [hR]
    clear hx hy hg hR
    go_enter Tryz.func15, Tryz.ntmps15
    go_wp2_with fail
    refine (HG.out _ (h.alloc _) (k.alloc _)).mono ?_
    rintro e1 w1 ⟨rfl, hb1⟩
    have hb2 := below_alloc hb1
    go_wp2
    go_ret2
    exact ⟨_, _, rfl, .inr ⟨_, rfl, hb2.size, ⟨#[], heap_alloc_new _ _, [], rfl⟩⟩, keep_below_alloc hb2 _⟩
  · have hR : endR xs ys = endsL xs := by unfold endR; rw [hg]; rfl
    have HG := Lib.hid (fun W (h : IntS W A xs) (k : IntS W B ys) => l2Good_r hg A B c e W h k hx hy hn hm)
    have hgl := good_len hg
    have HK := Lib.hid (fun W (h : IntS W A xs) (k : IntS W B ys) => l2Ends_any A B c ys.length e xs W h (by omega) (good_iff.1 hg).2.1 (good_iff.1 hg).1.2.2)
    rw [hR]
    clear hx hy hg hR hgl
    go_enter Tryz.func15, Tryz.ntmps15
    go_wp2_with fail
    refine (HG.out _ (h.alloc _) (k.alloc _)).mono ?_
    rintro e1 w1 ⟨rfl, hb1⟩
    have hx0 := keep_cell hb1 (cell_new _ _ _ 0 _ rfl)
    have hx1 := keep_cell hb1 (cell_new _ _ _ 1 _ rfl)
    simp at hx0 hx1
    have hb2 := below_alloc hb1
    go_wp2_with fail
    refine (HK.out _ (h.below hb2) (k.below hb2)).mono ?_
    rintro e1 w2 ⟨A', c', rfl, ho, hb3⟩
    go_wp2
    go_ret2
    exact ⟨_, _, rfl, ho.mono hb2.size, keep_below hb3 hb2⟩

set_option maxHeartbeats 400000 in
theorem implEndsOf_any (A B : Option Addr) (c e : Nat) (xs ys : List Int) (w : World) (h : IntS w A xs) (k : IntS w B ys) (hx : Bd xs) (hy : Bd ys) (hn : xs.length ≤ 1048576) (hm : ys.length ≤ 1048576) :
    Calls Tryz.prog 14 #[.agg #[.slice A xs.length c, .slice B ys.length e]] w (RetIB w (endR xs ys) (good xs ys)) := by
  cases hg : good xs ys
  · have hR : endR xs ys = [] := by unfold endR; rw [hg]; rfl
    have HG := Lib.hid (fun W (h : IntS W A xs) (k : IntS W B ys) => isTree_r hg A B c e W h k hx hy hn hm)
    rw [hR]
    clear hx hy hg hR
    go_enter Tryz.func14, Tryz.ntmps14
    go_wp2_with fail
    refine (HG.out _ (h.alloc _) (k.alloc _)).mono ?_
    rintro e1 w1 ⟨rfl, hb1⟩
    have hb2 := below_alloc hb1
    go_wp2
    go_ret2
    exact ⟨none, 0, rfl, .inl ⟨rfl, rfl⟩, hb2⟩
  · have hR : endR xs ys = endsL xs := by unfold endR; rw [hg]; rfl
    have HG := Lib.hid (fun W (h : IntS W A xs) (k : IntS W B ys) => isTree_r hg A B c e W h k hx hy hn hm)
    have hgl := good_len hg
    have HK := Lib.hid (fun W (h : IntS W A xs) (k : IntS W B ys) => ends_any A B c ys.length e xs W h (by omega) (good_iff.1 hg).2.1 (good_iff.1 hg).1.2.2)
    rw [hR]
    clear hx hy hg hR hgl
    go_enter Tryz.func14, Tryz.ntmps14
    go_wp2_with fail
    refine (HG.out _ (h.alloc _) (k.alloc _)).mono ?_
    rintro e1 w1 ⟨rfl, hb1⟩
    have hx0 := keep_cell hb1 (cell_new _ _ _ 0 _ rfl)
    have hx1 := keep_cell hb1 (cell_new _ _ _ 1 _ rfl)
    simp at hx0 hx1
    have hb2 := below_alloc hb1
    go_wp2_with fail
    refine (HK.out _ (h.below hb2) (k.below hb2)).mono ?_
    rintro e1 w2 ⟨A', c', rfl, ho, hb3⟩
    go_wp2
    go_ret2
    exact ⟨_, _, rfl, ho.mono hb2.size, keep_below hb3 hb2⟩
end Go.Proofs.YtgccidkkfalaeaaGreatDoor
/- Plain: numbers gathered from the nodes up to the root. -/
namespace Go.Proofs.YtgccidkkfalaeaaGreatDoor
open Go.ChangeShapes Go.WideShapes Go.ChangeAt Go.RowKit

/-- Nodes k, .., 1, each added to its parent. -/
def gat (xs : List Int) : List Int → Nat → List Int
  | L, 0 => L
  | L, k + 1 => gat xs (L.set (nth xs (k + 1)).toNat (nth L (nth xs (k + 1)).toNat + nth L (k + 1))) k
theorem gat_len (xs L : List Int) (k : Nat) : (gat xs L k).length = L.length := by
  induction k generalizing L with
  | zero => rfl
  | succ k ih => rw [gat, ih]; simp
def asum (L : List Int) : Nat → Nat
  | 0 => 0
  | k + 1 => asum L k + (nth L k).natAbs
def isum (L : List Int) : Nat → Int
  | 0 => 0
  | k + 1 => isum L k + nth L k
theorem asum_set {L : List Int} {p : Nat} (v : Int) (hp : p < L.length) (k : Nat) (h : p < k) : asum (L.set p v) k + (nth L p).natAbs = asum L k + v.natAbs := by
  induction k with
  | zero => omega
  | succ k ih =>
    have hs : ∀ j, j ≤ p → asum (L.set p v) j = asum L j := by
      intro j hj
      induction j with
      | zero => rfl
      | succ j jh => rw [asum, asum, jh (by omega), nth_set _ _ _ _ hp]; simp; omega
    rw [asum, asum, nth_set _ _ _ _ hp]
    by_cases e : k = p
    · subst e; rw [hs _ (Nat.le_refl _)]; simp; omega
    · have := ih (by omega); simp [e]; omega
theorem isum_set {L : List Int} {p : Nat} (v : Int) (hp : p < L.length) (k : Nat) (h : p < k) : isum (L.set p v) k + nth L p = isum L k + v := by
  induction k with
  | zero => omega
  | succ k ih =>
    have hs : ∀ j, j ≤ p → isum (L.set p v) j = isum L j := by
      intro j hj
      induction j with
      | zero => rfl
      | succ j jh => rw [isum, isum, jh (by omega), nth_set _ _ _ _ hp]; simp; omega
    rw [isum, isum, nth_set _ _ _ _ hp]
    by_cases e : k = p
    · subst e; rw [hs _ (Nat.le_refl _)]; simp; omega
    · have := ih (by omega); simp [e]; omega
theorem nth_asum (L : List Int) (k j : Nat) (h : j < k) : (nth L j).natAbs ≤ asum L k := by
  induction k with
  | zero => omega
  | succ k ih =>
    rw [asum]
    by_cases e : j = k
    · subst e; omega
    · have := ih (by omega); omega
/-- Bounds while the nodes above k are done. -/
def OkL (T : Nat) (L : List Int) (k : Nat) : Prop := (∀ j, (nth L j).natAbs ≤ T) ∧ asum L (k + 1) ≤ T
theorem OkL.start {L : List Int} {k : Nat} (h : L.length ≤ k + 1) : OkL (asum L (k + 1)) L k := by
  refine ⟨fun j => ?_, Nat.le_refl _⟩
  by_cases e : j < k + 1
  · exact nth_asum L _ j e
  · rw [nth_out (by omega)]; simp
theorem OkL.step {T : Nat} {L : List Int} {k p : Nat} (h : OkL T L (k + 1)) (hp : p ≤ k) (hl : k + 1 < L.length) : OkL T (L.set p (nth L p + nth L (k + 1))) k := by
  have h1 := asum_set (nth L p + nth L (k + 1)) (show p < L.length by omega) (k + 1) (by omega)
  have h2 : asum L (k + 2) ≤ T := h.2
  rw [asum] at h2
  have h3 : (nth L p + nth L (k + 1)).natAbs ≤ (nth L p).natAbs + (nth L (k + 1)).natAbs := Int.natAbs_add_le _ _
  have h4 : asum (L.set p (nth L p + nth L (k + 1))) (k + 1) ≤ T := by omega
  refine ⟨fun j => ?_, h4⟩
  rw [nth_set _ _ _ _ (by omega)]
  by_cases e : j = p
  · have h5 := nth_asum L (k + 1) p (by omega)
    rw [if_pos e]; omega
  · rw [if_neg e]; exact h.1 j
theorem gat_ok {xs : List Int} {T : Nat} (k : Nat) (hu : ∀ j, 1 ≤ j → j ≤ k → ∃ p : Nat, nth xs j = p ∧ p < j) : ∀ {L : List Int}, k < L.length → OkL T L k → ∀ j, (nth (gat xs L k) j).natAbs ≤ T := by
  induction k with
  | zero => intro L _ h j; exact h.1 j
  | succ k ih =>
    intro L hl h j
    obtain ⟨p, hp, hpk⟩ := hu (k + 1) (by omega) (Nat.le_refl _)
    rw [gat, hp]
    exact ih (fun j h1 h2 => hu j h1 (by omega)) (by simp; omega) (h.step (by omega) hl) j
theorem gat_root {xs : List Int} (k : Nat) (hu : ∀ j, 1 ≤ j → j ≤ k → ∃ p : Nat, nth xs j = p ∧ p < j) : ∀ {L : List Int}, k < L.length → nth (gat xs L k) 0 = isum L (k + 1) := by
  induction k with
  | zero => intro L _; simp [gat, isum]
  | succ k ih =>
    intro L hl
    obtain ⟨p, hp, hpk⟩ := hu (k + 1) (by omega) (Nat.le_refl _)
    rw [gat, hp]
    show nth (gat xs (L.set p (nth L p + nth L (k + 1))) k) 0 = _
    rw [ih (fun j h1 h2 => hu j h1 (by omega)) (by simp; omega)]
    have := isum_set (nth L p + nth L (k + 1)) (show p < L.length by omega) (k + 1) (by omega)
    rw [show isum L (k + 1 + 1) = isum L (k + 1) + nth L (k + 1) from rfl]
    omega
theorem gat_pos {xs : List Int} (k : Nat) : ∀ {L : List Int}, (∀ j, 0 ≤ nth L j) → ∀ j, nth L j ≤ nth (gat xs L k) j := by
  induction k with
  | zero => intro L _ j; exact Int.le_refl _
  | succ k ih =>
    intro L h j
    rw [gat]
    have hst : ∀ j, nth L j ≤ nth (L.set (nth xs (k + 1)).toNat (nth L (nth xs (k + 1)).toNat + nth L (k + 1))) j := fun j => by
      by_cases hp : (nth xs (k + 1)).toNat < L.length
      · rw [nth_set _ _ _ _ hp]
        by_cases e : j = (nth xs (k + 1)).toNat
        · rw [if_pos e, e]; have := h (k + 1); omega
        · rw [if_neg e]; exact Int.le_refl _
      · rw [List.set_eq_of_length_le (by omega)]; exact Int.le_refl _
    exact Int.le_trans (hst j) (ih (fun j => Int.le_trans (h j) (hst j)) j)
theorem asum_le {L : List Int} {M : Nat} (h : ∀ j, (nth L j).natAbs ≤ M) (k : Nat) : asum L k ≤ k * M := by
  induction k with
  | zero => simp [asum]
  | succ k ih => rw [asum, Nat.add_mul]; have := h k; omega
end Go.Proofs.YtgccidkkfalaeaaGreatDoor
/- A tree under construction: a block with two own lists, each apart from the other and from the block. -/
namespace Go.Proofs.YtgccidkkfalaeaaGreatDoor
open Go.ChangeShapes Go.WideShapes Go.ChangeAt Go.RowKit

structure Two (w : World) (B gT : Nat) (va vb : Value) (n m : Nat) (xs ys : List Int) : Prop where
  blk : BlkT w gT va vb
  own0 : w.ownsRow B 3 1 va n (i64s xs)
  own1 : w.ownsRow B 3 1 vb m (i64s ys)
  ne0 : va.ownBlock ≠ some gT
  ne1 : vb.ownBlock ≠ some gT
  ap : ∀ g, va.ownBlock = some g → vb.ownBlock ≠ some g
theorem own_keptv {w w' : World} {B size n : Nat} {e : TypeId} {v : Value} {xs : List Value} {row : Option Nat} (h : w.ownsRow B e size v n xs) (hg : w.grownBy w' row) (hr : ∀ g, v.ownBlock = some g → row ≠ some g) : w'.ownsRow B e size v n xs :=
  h.kept hg (by
    cases hv : v.ownBlock with
    | none => exact .inl rfl
    | some g => exact .inr fun e => hr g hv e.symm)
theorem own_slice {w : World} {B size n : Nat} {e : TypeId} {v : Value} {xs : List Value} (h : w.ownsRow B e size v n xs) : ∃ A c, v = .slice A n c := by
  rcases h.2 with ⟨rfl, h0⟩ | ⟨g, cap, cur, rfl, _⟩
  · exact ⟨none, 0, by rw [h0]⟩
  · exact ⟨_, _, rfl⟩
theorem grown_set1 (w : World) (g j : Nat) (v : Value) : w.grownBy (w.setCell ⟨g, j, none⟩ v) (some g) :=
  ⟨rfl, rfl, rfl, by simp [World.setCell], fun k _ hne => Below.heap_setCell _ _ _ _ (fun e => hne (by rw [e]))⟩
section
variable {w w1 : World} {B gT n m : Nat} {va vb v' : Value} {xs ys zs : List Int}
theorem Two.below (h : Two w B gT va vb n m xs ys) (hb : Below w.heap.size w w1) : Two w1 B gT va vb n m xs ys :=
  ⟨h.blk.below hb, own_below h.own0 hb, own_below h.own1 hb, h.ne0, h.ne1, h.ap⟩
theorem Two.new0 {o : Obj} (h : Two w B gT va vb n m xs ys) (hat : v'.ownBlock = va.ownBlock ∨ v'.ownBlock = some (w.alloc o).heap.size) : v'.ownBlock ≠ some gT ∧ ∀ g, v'.ownBlock = some g → vb.ownBlock ≠ some g := by
  have hlt := h.blk.lt
  rcases hat with e | e
  · exact ⟨by rw [e]; exact h.ne0, fun g hg => h.ap g (by rw [← e]; exact hg)⟩
  · have hs : (w.alloc o).heap.size = w.heap.size + 1 := by simp
    refine ⟨by rw [e, hs]; intro e2; injection e2 with e2; omega, fun g hg e2 => ?_⟩
    rw [e, hs] at hg
    injection hg with hg
    have := (h.own1.lt g e2).2
    omega
theorem Two.new1 {o : Obj} (h : Two w B gT va vb n m xs ys) (hat : v'.ownBlock = vb.ownBlock ∨ v'.ownBlock = some (w.alloc o).heap.size) : v'.ownBlock ≠ some gT ∧ ∀ g, va.ownBlock = some g → v'.ownBlock ≠ some g := by
  have hlt := h.blk.lt
  rcases hat with e | e
  · exact ⟨by rw [e]; exact h.ne1, fun g hg => by rw [e]; exact h.ap g hg⟩
  · have hs : (w.alloc o).heap.size = w.heap.size + 1 := by simp
    refine ⟨by rw [e, hs]; intro e2; injection e2 with e2; omega, fun g hg e2 => ?_⟩
    rw [e, hs] at e2
    injection e2 with e2
    have := (h.own0.lt g hg).2
    omega
theorem Two.blk0 {o : Obj} (h : Two w B gT va vb n m xs ys) (hg : (w.alloc o).grownBy w1 va.ownBlock) : BlkT w1 gT va vb := (h.blk.alloc o).grown hg h.ne0
theorem Two.blk1 {o : Obj} (h : Two w B gT va vb n m xs ys) (hg : (w.alloc o).grownBy w1 vb.ownBlock) : BlkT w1 gT va vb := (h.blk.alloc o).grown hg h.ne1
theorem Two.put0 {o : Obj} {k : Nat} (h : Two w B gT va vb n m xs ys) (hg : (w.alloc o).grownBy w1 va.ownBlock) (hat : v'.ownBlock = va.ownBlock ∨ v'.ownBlock = some (w.alloc o).heap.size) (ho : w1.ownsRow B 3 1 v' k (i64s zs)) :
    Two (w1.setCell ⟨gT, 0, none⟩ v') B gT v' vb k m zs ys := by
  obtain ⟨h1, h2⟩ := h.new0 hat
  refine ⟨(h.blk0 hg).set0 v', own_keptv ho (grown_set1 _ _ _ _) fun g e e2 => h1 (by rw [e, ← e2]), own_keptv (own_keptv (h.own1.alloc o) hg fun g e e2 => h.ap g e2 e) (grown_set1 _ _ _ _) fun g e e2 => h.ne1 (by rw [e, ← e2]), h1, h.ne1, h2⟩
theorem Two.put1 {o : Obj} {k : Nat} (h : Two w B gT va vb n m xs ys) (hg : (w.alloc o).grownBy w1 vb.ownBlock) (hat : v'.ownBlock = vb.ownBlock ∨ v'.ownBlock = some (w.alloc o).heap.size) (ho : w1.ownsRow B 3 1 v' k (i64s zs)) :
    Two (w1.setCell ⟨gT, 1, none⟩ v') B gT va v' n k xs zs := by
  obtain ⟨h1, h2⟩ := h.new1 hat
  refine ⟨(h.blk1 hg).set1 v', own_keptv (own_keptv (h.own0.alloc o) hg fun g e e2 => h.ap g e e2) (grown_set1 _ _ _ _) fun g e e2 => h.ne0 (by rw [e, ← e2]), own_keptv ho (grown_set1 _ _ _ _) fun g e e2 => h1 (by rw [e, ← e2]), h.ne0, h1, h2⟩
/-- What stands below the base is kept. -/
theorem below_put {u : World} {row : Option Nat} {o : Obj} {j : Nat} (hw : Below u.heap.size u w) (hg : (w.alloc o).grownBy w1 row) (hr : ∀ g, row = some g → u.heap.size ≤ g) (hT : u.heap.size ≤ gT) : Below u.heap.size u (w1.setCell ⟨gT, j, none⟩ v') :=
  Below.setCell' (p := ⟨gT, j, none⟩) hT (Below.grown (hw.alloc hw.size _) hg (hw.alloc hw.size _).size hr) _
theorem Two.row0 (h : Two w B gT va vb n m xs ys) {u : World} (hu : u.heap.size ≤ B) : ∀ g, va.ownBlock = some g → u.heap.size ≤ g := fun g e => Nat.le_trans hu (h.own0.lt g e).1
theorem Two.row1 (h : Two w B gT va vb n m xs ys) {u : World} (hu : u.heap.size ≤ B) : ∀ g, vb.ownBlock = some g → u.heap.size ≤ g := fun g e => Nat.le_trans hu (h.own1.lt g e).1
/-- The two lists as slices. -/
theorem Two.forms (h : Two w B gT va vb n m xs ys) : ∃ A c A' c', va = .slice A xs.length c ∧ vb = .slice A' ys.length c' ∧ OwnS w B A xs ∧ OwnS w B A' ys ∧ (∀ g g' : Nat, A = some ⟨g, 0, none⟩ → A' = some ⟨g', 0, none⟩ → g ≠ g') ∧ xs.length = n ∧ ys.length = m := by
  obtain ⟨A, c, rfl, h0⟩ := own_form h.own0
  obtain ⟨A', c', rfl, h1⟩ := own_form h.own1
  refine ⟨A, c, A', c', rfl, rfl, h0, h1, fun g g' e1 e2 e => ?_, by have := h.own0.1; simpa [i64s] using this, by have := h.own1.1; simpa [i64s] using this⟩
  subst e1 e2
  exact h.ap g rfl (by rw [e]; rfl)
end
end Go.Proofs.YtgccidkkfalaeaaGreatDoor
/- A tree under construction beside a third own list and blocks that stand still. -/
namespace Go.Proofs.YtgccidkkfalaeaaGreatDoor
open Go.ChangeShapes Go.WideShapes Go.ChangeAt Go.RowKit

theorem BlkT.of_block {w w' : World} {g : Nat} {a b : Value} (h : BlkT w g a b) (e : w'.heap[g]? = w.heap[g]?) : BlkT w' g a b := e.trans h
structure Tri (w : World) (B gT : Nat) (F : List Nat) (va vb u : Value) (n m p : Nat) (xs ys zs : List Int) : Prop where
  two : Two w B gT va vb n m xs ys
  own2 : w.ownsRow B 3 1 u p (i64s zs)
  fx0 : ∀ g, g ∈ F → va.ownBlock ≠ some g
  fx1 : ∀ g, g ∈ F → vb.ownBlock ≠ some g
  fx2 : ∀ g, g ∈ F → u.ownBlock ≠ some g
  flt : ∀ g, g ∈ F → g < w.heap.size
  ne2 : u.ownBlock ≠ some gT
  ap02 : ∀ g, va.ownBlock = some g → u.ownBlock ≠ some g
  ap12 : ∀ g, vb.ownBlock = some g → u.ownBlock ≠ some g
section
variable {w w1 : World} {B gT n m p : Nat} {F : List Nat} {va vb u v' : Value} {xs ys zs ws : List Int}
theorem Tri.below (h : Tri w B gT F va vb u n m p xs ys zs) (hb : Below w.heap.size w w1) : Tri w1 B gT F va vb u n m p xs ys zs :=
  ⟨h.two.below hb, own_below h.own2 hb, h.fx0, h.fx1, h.fx2, fun g hg => Nat.lt_of_lt_of_le (h.flt g hg) hb.size, h.ne2, h.ap02, h.ap12⟩
/-- A new block is none of the old ones. -/
theorem new_ne {v0 : Value} {H g : Nat} (hat : v'.ownBlock = v0.ownBlock ∨ v'.ownBlock = some H) (h0 : v0.ownBlock ≠ some g) (hg : g < H) : v'.ownBlock ≠ some g := by
  rcases hat with e | e
  · rw [e]; exact h0
  · rw [e]; intro e2; injection e2 with e2; omega
theorem new_ap {v0 : Value} {H k : Nat} {us : List Value} {W : World} {t : TypeId} (hat : v'.ownBlock = v0.ownBlock ∨ v'.ownBlock = some H) (h0 : ∀ g, v0.ownBlock = some g → u.ownBlock ≠ some g) (hu : W.ownsRow B t 1 u k us) (hH : W.heap.size ≤ H) : ∀ g, v'.ownBlock = some g → u.ownBlock ≠ some g := by
  intro g hg e
  rcases hat with e1 | e1
  · exact h0 g (by rw [← e1]; exact hg) e
  · rw [e1] at hg; injection hg with hg
    have := (hu.lt g e).2
    omega
theorem ap_flip {a b : Value} (h : ∀ g : Nat, a.ownBlock = some g → b.ownBlock ≠ some g) : ∀ g : Nat, b.ownBlock = some g → a.ownBlock ≠ some g := fun g e k => h g k e
/-- A list of the tree has grown. -/
theorem Tri.put0 {o : Obj} {k : Nat} (h : Tri w B gT F va vb u n m p xs ys zs) (hg : (w.alloc o).grownBy w1 va.ownBlock) (hat : v'.ownBlock = va.ownBlock ∨ v'.ownBlock = some (w.alloc o).heap.size) (ho : w1.ownsRow B 3 1 v' k (i64s ws)) :
    Tri (w1.setCell ⟨gT, 0, none⟩ v') B gT F v' vb u k m p ws ys zs := by
  have hs : (w.alloc o).heap.size = w.heap.size + 1 := by simp
  have hlt : w.heap.size < (w1.setCell ⟨gT, 0, none⟩ v').heap.size := by
    have := hg.size; simp [World.setCell] at this ⊢; omega
  refine ⟨h.two.put0 hg hat ho, own_keptv (own_keptv (h.own2.alloc o) hg fun g e e2 => h.ap02 g e2 e) (grown_set1 _ _ _ _) fun g e e2 => h.ne2 (by rw [e, ← e2]), fun g hgF => ?_, h.fx1, h.fx2, fun g hgF => Nat.lt_trans (h.flt g hgF) hlt, h.ne2, ?_, h.ap12⟩
  · exact new_ne hat (h.fx0 g hgF) (by have := h.flt g hgF; omega)
  · exact new_ap hat h.ap02 h.own2 (by omega)
theorem Tri.put1 {o : Obj} {k : Nat} (h : Tri w B gT F va vb u n m p xs ys zs) (hg : (w.alloc o).grownBy w1 vb.ownBlock) (hat : v'.ownBlock = vb.ownBlock ∨ v'.ownBlock = some (w.alloc o).heap.size) (ho : w1.ownsRow B 3 1 v' k (i64s ws)) :
    Tri (w1.setCell ⟨gT, 1, none⟩ v') B gT F va v' u n k p xs ws zs := by
  have hs : (w.alloc o).heap.size = w.heap.size + 1 := by simp
  have hlt : w.heap.size < (w1.setCell ⟨gT, 1, none⟩ v').heap.size := by
    have := hg.size; simp [World.setCell] at this ⊢; omega
  refine ⟨h.two.put1 hg hat ho, own_keptv (own_keptv (h.own2.alloc o) hg fun g e e2 => h.ap12 g e2 e) (grown_set1 _ _ _ _) fun g e e2 => h.ne2 (by rw [e, ← e2]), h.fx0, fun g hgF => ?_, h.fx2, fun g hgF => Nat.lt_trans (h.flt g hgF) hlt, h.ne2, h.ap02, ?_⟩
  · exact new_ne hat (h.fx1 g hgF) (by have := h.flt g hgF; omega)
  · exact new_ap hat h.ap12 h.own2 (by omega)
/-- The third list has grown. -/
theorem Tri.put2 {o : Obj} {k : Nat} (h : Tri w B gT F va vb u n m p xs ys zs) (hg : (w.alloc o).grownBy w1 u.ownBlock) (hat : v'.ownBlock = u.ownBlock ∨ v'.ownBlock = some (w.alloc o).heap.size) (ho : w1.ownsRow B 3 1 v' k (i64s ws)) :
    Tri w1 B gT F va vb v' n m k xs ys ws := by
  have hs : (w.alloc o).heap.size = w.heap.size + 1 := by simp
  have hlt : w.heap.size < w1.heap.size := by have := hg.size; omega
  have hT := h.two.blk.lt
  refine ⟨⟨(h.two.blk.alloc o).grown hg h.ne2, own_keptv (h.two.own0.alloc o) hg fun g e e2 => h.ap02 g e e2, own_keptv (h.two.own1.alloc o) hg fun g e e2 => h.ap12 g e e2, h.two.ne0, h.two.ne1, h.two.ap⟩, ho, h.fx0, h.fx1, fun g hgF => ?_, fun g hgF => Nat.lt_trans (h.flt g hgF) hlt, ?_, ?_, ?_⟩
  · exact new_ne hat (h.fx2 g hgF) (by have := h.flt g hgF; omega)
  · exact new_ne hat h.ne2 (by omega)
  · exact ap_flip (new_ap hat (ap_flip h.ap02) h.two.own0 (by omega))
  · exact ap_flip (new_ap hat (ap_flip h.ap12) h.two.own1 (by omega))
/-- What stands still. -/
theorem Tri.still {o : Obj} {j g : Nat} {row : Option Nat} (h : Tri w B gT F va vb u n m p xs ys zs) (hg : (w.alloc o).grownBy w1 row) (hF : g ∈ F) (hr : row ≠ some g) (hT : g ≠ gT) : (w1.setCell ⟨gT, j, none⟩ v').heap[g]? = w.heap[g]? := by
  have hl := h.flt g hF
  rw [Below.heap_setCell _ _ _ _ hT, hg.block g (Nat.lt_of_lt_of_le hl (by simp)) (fun e => hr e.symm), Below.heap_alloc w o g hl]
theorem Tri.still2 {o : Obj} {g : Nat} {row : Option Nat} (h : Tri w B gT F va vb u n m p xs ys zs) (hg : (w.alloc o).grownBy w1 row) (hF : g ∈ F) (hr : row ≠ some g) : w1.heap[g]? = w.heap[g]? := by
  have hl := h.flt g hF
  rw [hg.block g (Nat.lt_of_lt_of_le hl (by simp)) (fun e => hr e.symm), Below.heap_alloc w o g hl]
theorem Tri.row2 (h : Tri w B gT F va vb u n m p xs ys zs) {U : World} (hu : U.heap.size ≤ B) : ∀ g, u.ownBlock = some g → U.heap.size ≤ g := fun g e => Nat.le_trans hu (h.own2.lt g e).1
end
end Go.Proofs.YtgccidkkfalaeaaGreatDoor
