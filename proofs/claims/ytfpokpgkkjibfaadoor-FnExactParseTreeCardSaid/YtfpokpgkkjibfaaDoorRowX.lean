/- Blocks that hold exactly a list of ints, written in a loop. -/
import Derived.Test.YtfpokpgkkjibfaaDoorTree10
namespace Go.Proofs.YtfpokpgkkjibfaaDoor
open Go.ChangeShapes Go.WideShapes Go.ChangeAt Go.RowKit

/-- Block g is exactly the list L. -/
def RowX (w : World) (g : Nat) (L : List Int) : Prop := w.heap[g]? = some (.cells (i64s L).toArray 3 (0, 0))
section
variable {w w' : World} {g : Nat} {L : List Int}
theorem RowX.lt (h : RowX w g L) : g < w.heap.size := by
  unfold RowX at h
  rcases Nat.lt_or_ge g w.heap.size with hlt | hge
  · exact hlt
  · rw [Array.getElem?_eq_none hge] at h; cases h
theorem RowX.row (h : RowX w g L) : Row w g L := ⟨_, h, [], by simp⟩
theorem RowX.cell (h : RowX w g L) {j : Nat} (hj : j < L.length) : w.cell? ⟨g, j, none⟩ = some (.int .i64 (nth L j)) := h.row.cell hj
theorem RowX.free (h : RowX w g L) (j : Nat) : w.frozen? ⟨g, j, none⟩ = false := h.row.frozen j
theorem RowX.below (h : RowX w g L) (hb : Below w.heap.size w w') : RowX w' g L := (hb.block g h.lt).trans h
theorem RowX.set (h : RowX w g L) (k : Nat) (v : Int) : RowX (w.setCell ⟨g, k, none⟩ (.int .i64 v)) g (L.set k v) := by
  have := set_block h k (.int .i64 v)
  unfold RowX
  rw [this]
  congr 2
  simp [i64s, List.map_set]
theorem RowX.new (w : World) (L : List Int) (h : g = w.heap.size) : RowX (w.alloc (.cells (i64s L).toArray 3)) g L := by
  subst h; exact heap_alloc_new w _
theorem RowX.zero (w : World) (n : Nat) (h : g = w.heap.size) : RowX (w.alloc (.cells (Array.replicate n (Value.int .i64 0)) 3)) g (List.replicate n 0) := by
  have e : (Array.replicate n (Value.int .i64 0)) = (i64s (List.replicate n 0)).toArray := by simp [i64s]
  rw [e]; exact RowX.new w _ h
theorem RowX.drewN (h : RowX w g L) (n : Nat) : RowX (w.drewN n) g L := h
theorem RowX.drew (h : RowX w g L) : RowX w.drew g L := h
theorem RowX.alloc (h : RowX w g L) (o : Obj) : RowX (w.alloc o) g L := h.below ((Below.refl _ _).alloc (Nat.le_refl _) o)
/-- What is not in block g stays when g is written. -/
theorem cell_far {a : Addr} {v u : Value} (h : w.cell? a = some v) (hne : a.block ≠ g) (k : Nat) : (w.setCell ⟨g, k, none⟩ u).cell? a = some v :=
  (World.cell?_of_block (Below.heap_setCell _ _ _ _ hne)).trans h
theorem below_far {u : World} {v : Value} (h : Below u.heap.size u w) (hg : u.heap.size ≤ g) (k : Nat) : Below u.heap.size u (w.setCell ⟨g, k, none⟩ v) := h.setCell hg v
theorem ints_far {A : Option Addr} {xs : List Int} {u : World} (h : IntS u A xs) (hb : Below u.heap.size u w) : IntS w A xs := h.below hb
end
theorem nth_set (L : List Int) (k j : Nat) (v : Int) (hk : k < L.length) : nth (L.set k v) j = if j = k then v else nth L j := by
  unfold nth List.getD
  rw [List.getElem?_set]
  by_cases e : k = j
  · subst e; simp [hk]
  · simp [e, Ne.symm e]
theorem nth_zero (n j : Nat) : nth (List.replicate n 0) j = 0 := by
  unfold nth List.getD
  rw [List.getElem?_replicate]; split <;> rfl
theorem nth_app_lt {L M : List Int} {j : Nat} (h : j < L.length) : nth (L ++ M) j = nth L j := by
  unfold nth List.getD; rw [List.getElem?_append_left h]
theorem nth_app_eq {L : List Int} {a : Int} : nth (L ++ [a]) L.length = a := by
  unfold nth List.getD; rw [List.getElem?_append_right (Nat.le_refl _)]; simp
theorem own_below {w w' : World} {B size n : Nat} {e : TypeId} {v : Value} {xs : List Value} (h : w.ownsRow B e size v n xs) (hb : Below w.heap.size w w') : w'.ownsRow B e size v n xs :=
  h.kept (row := none) ⟨hb.os, hb.tape, hb.output, hb.size, fun k hk _ => hb.block k hk⟩ (by cases hv : v.ownBlock <;> simp)
end Go.Proofs.YtfpokpgkkjibfaaDoor
