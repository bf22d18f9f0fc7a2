/- What is kept while a statement about two fractions runs: the two boxes. -/
import Derived.Test.YtgpacchbojnheaaFrac6
import Derived.Deep.DeepCutAuto
namespace Go.Proofs.Ytgpacchbojnheaa
open Go.ChangeShapes Go.WideShapes Go.ChangeAt Go.RowKit

def S4 (w u : World) (a b c d : Int) (w' : World) : Prop :=
  w'.cell? ⟨w.heap.size, 0, none⟩ = some (.int .i64 a) ∧ w'.cell? ⟨w.heap.size, 1, none⟩ = some (.int .i64 b) ∧ w'.cell? ⟨w.heap.size + 1, 0, none⟩ = some (.int .i64 c) ∧ w'.cell? ⟨w.heap.size + 1, 1, none⟩ = some (.int .i64 d) ∧ w.heap.size + 1 < w'.heap.size ∧ Below w.heap.size w w' ∧ Below u.heap.size u w'
section
variable {w u W w1 : World} {a b c d : Int}
theorem S4.base (w : World) (a b c d : Int) : S4 w w a b c d ((w.alloc (.cells #[.int .i64 a, .int .i64 b] 27)).alloc (.cells #[.int .i64 c, .int .i64 d] 27)) := by
  refine ⟨?_, ?_, ?_, ?_, by simp, by (repeat (first | with_reducible exact Below.refl _ _ | with_reducible assumption | with_reducible refine Below.alloc' ?_ ?_ _ | with_reducible refine Below.setCell' ?_ ?_ _ | with_reducible refine Below.drewN' ?_ _ | with_reducible refine Below.drew ?_ | with_reducible refine Below.transA ?_ (by assumption) ?_ | omega | (focus (simp; done)) | (focus (simp; omega)))), by (repeat (first | with_reducible exact Below.refl _ _ | with_reducible assumption | with_reducible refine Below.alloc' ?_ ?_ _ | with_reducible refine Below.setCell' ?_ ?_ _ | with_reducible refine Below.drewN' ?_ _ | with_reducible refine Below.drew ?_ | with_reducible refine Below.transA ?_ (by assumption) ?_ | omega | (focus (simp; done)) | (focus (simp; omega))))⟩
  · rw [World.cell?_alloc_lt _ _ _ (by simp), cell_new _ _ _ _ _ rfl]; rfl
  · rw [World.cell?_alloc_lt _ _ _ (by simp), cell_new _ _ _ _ _ rfl]; rfl
  · rw [cell_new _ _ _ _ _ (by simp)]; rfl
  · rw [cell_new _ _ _ _ _ (by simp)]; rfl
theorem S4.call (h : S4 w u a b c d W) (hb : Below W.heap.size W w1) : S4 w u a b c d w1 :=
  ⟨keep_cell hb h.1, keep_cell hb h.2.1, keep_cell hb h.2.2.1, keep_cell hb h.2.2.2.1, Nat.lt_of_lt_of_le h.2.2.2.2.1 hb.size, keep_below hb h.2.2.2.2.2.1, keep_below hb h.2.2.2.2.2.2⟩
theorem S4.alloc (h : S4 w u a b c d W) (o : Obj) : S4 w u a b c d (W.alloc o) := h.call ((Below.refl _ _).alloc (Nat.le_refl _) o)
theorem S4.drew (h : S4 w u a b c d W) : S4 w u a b c d W.drew := ⟨h.1, h.2.1, h.2.2.1, h.2.2.2.1, h.2.2.2.2.1, h.2.2.2.2.2.1.drew, h.2.2.2.2.2.2.drew⟩
theorem S4.drewN (h : S4 w u a b c d W) (n : Nat) : S4 w u a b c d (W.drewN n) := ⟨h.1, h.2.1, h.2.2.1, h.2.2.2.1, h.2.2.2.2.1, Below.drewN' h.2.2.2.2.2.1 n, Below.drewN' h.2.2.2.2.2.2 n⟩
theorem S4.set (h : S4 w u a b c d W) {g : Nat} (hg : w.heap.size + 1 < g) (hu : u.heap.size ≤ g) (i : Nat) (v : Value) : S4 w u a b c d (W.setCell ⟨g, i, none⟩ v) := by
  have hs : ∀ p : Addr, p.block ≠ g → (W.setCell ⟨g, i, none⟩ v).cell? p = W.cell? p := fun p hp => World.cell?_of_block (Below.heap_setCell _ _ _ _ hp)
  exact ⟨(hs _ (by simp; omega)).trans h.1, (hs _ (by simp; omega)).trans h.2.1, (hs _ (by simp; omega)).trans h.2.2.1, (hs _ (by simp; omega)).trans h.2.2.2.1, by simpa [World.setCell] using h.2.2.2.2.1, h.2.2.2.2.2.1.setCell (by simp; omega) v, h.2.2.2.2.2.2.setCell (by simpa using hu) v⟩
theorem S4.all (h : S4 w u a b c d W) : W.cell? ⟨w.heap.size, 0, none⟩ = some (.int .i64 a) ∧ W.cell? ⟨w.heap.size, 1, none⟩ = some (.int .i64 b) ∧ W.cell? ⟨w.heap.size + 1, 0, none⟩ = some (.int .i64 c) ∧ W.cell? ⟨w.heap.size + 1, 1, none⟩ = some (.int .i64 d) ∧ S4 w u a b c d W := ⟨h.1, h.2.1, h.2.2.1, h.2.2.2.1, h⟩
theorem S4.re (h : S4 w u a b c d W) : S4 w W a b c d W := ⟨h.1, h.2.1, h.2.2.1, h.2.2.2.1, h.2.2.2.2.1, h.2.2.2.2.2.1, Below.refl _ _⟩
theorem S4.lu (h : S4 w u a b c d W) : u.heap.size ≤ W.heap.size := h.2.2.2.2.2.2.size
theorem S4.lt (h : S4 w u a b c d W) : w.heap.size + 1 < W.heap.size := h.2.2.2.2.1
end
end Go.Proofs.Ytgpacchbojnheaa
