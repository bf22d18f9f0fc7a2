/- A tree that a call hands back, its lists apart; the law's marks in it. -/
import Derived.Test.YtfpokpgkkjibfaaDoorTree8
import Derived.Test.YtfpokpgkkjibfaaDoorRowX
namespace Go.Proofs.YtfpokpgkkjibfaaDoor
open Go.ChangeShapes Go.WideShapes Go.ChangeAt Go.RowKit

def prPick : Bool → List Int → List Int
  | true, L => L
  | false, _ => []
/-- A call that hands back a new tree, its lists apart in memory, and whether it is one. -/
def RetTB (w : World) (L M : List Int) (r : Bool) (e : Ending) (w' : World) : Prop := ∃ A c A' c', e = .returned (.tuple #[.agg #[.slice A L.length c, .slice A' M.length c'], .bool r]) ∧ OwnS w' w.heap.size A L ∧ OwnS w' w.heap.size A' M ∧ (∀ g g' : Nat, A = some ⟨g, 0, none⟩ → A' = some ⟨g', 0, none⟩ → g ≠ g') ∧ Below w.heap.size w w'
/-- Block g is exactly a tree's two lists. -/
def BlkT (w : World) (g : Nat) (a b : Value) : Prop := w.heap[g]? = some (.cells #[a, b] 34 (0, 0))
section
variable {w w' : World} {g : Nat} {a b : Value}
theorem BlkT.lt (h : BlkT w g a b) : g < w.heap.size := by
  unfold BlkT at h
  rcases Nat.lt_or_ge g w.heap.size with hlt | hge
  · exact hlt
  · rw [Array.getElem?_eq_none hge] at h; cases h
theorem BlkT.below (h : BlkT w g a b) (hb : Below w.heap.size w w') : BlkT w' g a b := (hb.block g h.lt).trans h
theorem BlkT.alloc (h : BlkT w g a b) (o : Obj) : BlkT (w.alloc o) g a b := h.below ((Below.refl _ _).alloc (Nat.le_refl _) o)
theorem BlkT.grown {row : Option Nat} (h : BlkT w g a b) (hb : w.grownBy w' row) (hg : row ≠ some g) : BlkT w' g a b := (hb.block g h.lt (fun e => hg e.symm)).trans h
theorem BlkT.new (w : World) (a b : Value) (hg : g = w.heap.size) : BlkT (w.alloc (.cells #[a, b] 34)) g a b := by
  subst hg; exact heap_alloc_new w _
theorem BlkT.c0 (h : BlkT w g a b) : w.cell? ⟨g, 0, none⟩ = some a := by unfold BlkT at h; rw [cell_of_row _ _ _ _ _ _ h]; rfl
theorem BlkT.c1 (h : BlkT w g a b) : w.cell? ⟨g, 1, none⟩ = some b := by unfold BlkT at h; rw [cell_of_row _ _ _ _ _ _ h]; rfl
theorem BlkT.free (h : BlkT w g a b) (j : Nat) : w.frozen? ⟨g, j, none⟩ = false := frozen_of_row _ _ _ _ _ h
theorem BlkT.set0 (h : BlkT w g a b) (u : Value) : BlkT (w.setCell ⟨g, 0, none⟩ u) g u b := by
  have := set_block h 0 u; unfold BlkT; rw [this]; rfl
theorem BlkT.set1 (h : BlkT w g a b) (u : Value) : BlkT (w.setCell ⟨g, 1, none⟩ u) g a u := by
  have := set_block h 1 u; unfold BlkT; rw [this]; rfl
theorem BlkT.far (h : BlkT w g a b) {q : Nat} (hq : g ≠ q) (k : Nat) (v : Value) : BlkT (w.setCell ⟨q, k, none⟩ v) g a b := (Below.heap_setCell _ _ _ _ hq).trans h
end
end Go.Proofs.YtfpokpgkkjibfaaDoor
