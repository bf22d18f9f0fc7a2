/- Lemmas on memory: new blocks, lists of ints in memory. -/
import Derived.Test.YtfpokpgkkjibfaaBase
import Derived.Laws.Rows
import Derived.Laws.OwnMore
import Derived.Maps.AppendAt
import Derived.Deep.AppendLies
import Derived.Deep.Draws
namespace Go.Proofs.Ytfpokpgkkjibfaa
open Go.ChangeShapes Go.WideShapes Go.ChangeAt Go.RowKit

theorem cell_new (W : World) (cs : Array Value) (t : TypeId) (i g : Nat) (hg : g = W.heap.size) : (W.alloc (.cells cs t)).cell? ⟨g, i, none⟩ = cs[i]? := by
  subst hg
  exact cell_of_row _ _ _ _ _ _ (heap_alloc_new W _)
/-- What was known of a cell is known behind a call that leaves old memory alone. -/
theorem keep_cell {W w1 : World} {p : Addr} {v : Value} (hb : Below W.heap.size W w1) (h : W.cell? p = some v) : w1.cell? p = some v :=
  (hb.cell (World.block_lt_of_cell? W p h)).trans h
theorem keep_below {w W w1 : World} (hb : Below W.heap.size W w1) (h : Below w.heap.size w W) : Below w.heap.size w w1 := h.trans (hb.mono h.size)
theorem frozen_new (W : World) (cs : Array Value) (t : TypeId) (i g : Nat) (hg : g = W.heap.size) : (W.alloc (.cells cs t)).frozen? ⟨g, i, none⟩ = false := by
  subst hg
  have h : (W.alloc (.cells cs t)).heap[W.heap.size]? = some (.cells cs t (0, 0)) := heap_alloc_new W _
  unfold World.frozen?
  rw [h]
  simp
/-- A new block of two cells, behind a call. -/
theorem keep_new2 {W w1 : World} {u v : Value} {t : TypeId} (hb : Below (W.alloc (.cells #[u, v] t)).heap.size (W.alloc (.cells #[u, v] t)) w1) :
    w1.cell? ⟨W.heap.size, 0, none⟩ = some u ∧ w1.cell? ⟨W.heap.size, 1, none⟩ = some v ∧ w1.frozen? ⟨W.heap.size, 0, none⟩ = false ∧ w1.frozen? ⟨W.heap.size, 1, none⟩ = false := by
  refine ⟨keep_cell hb (cell_new _ _ _ _ _ rfl), keep_cell hb (cell_new _ _ _ _ _ rfl), ?_, ?_⟩
  · rw [hb.frozen (by simp)]; exact frozen_new _ _ _ _ _ rfl
  · rw [hb.frozen (by simp)]; exact frozen_new _ _ _ _ _ rfl
theorem keep_two {W w1 : World} {u v : Value} {g : Nat} (hb : Below W.heap.size W w1) (h : W.cell? ⟨g, 0, none⟩ = some u ∧ W.cell? ⟨g, 1, none⟩ = some v ∧ W.frozen? ⟨g, 0, none⟩ = false ∧ W.frozen? ⟨g, 1, none⟩ = false) :
    w1.cell? ⟨g, 0, none⟩ = some u ∧ w1.cell? ⟨g, 1, none⟩ = some v ∧ w1.frozen? ⟨g, 0, none⟩ = false ∧ w1.frozen? ⟨g, 1, none⟩ = false := by
  have hg : g < W.heap.size := World.block_lt_of_cell? W _ h.1
  exact ⟨keep_cell hb h.1, keep_cell hb h.2.1, (hb.frozen (p := ⟨g, 0, none⟩) hg).trans h.2.2.1, (hb.frozen (p := ⟨g, 1, none⟩) hg).trans h.2.2.2⟩
theorem keep_some {W w1 : World} {p : Addr} (hb : Below W.heap.size W w1) (h : (W.cell? p).isSome = true) : (w1.cell? p).isSome = true := by
  obtain ⟨v, hv⟩ := Option.isSome_iff_exists.1 h
  rw [keep_cell hb hv]; rfl
theorem keep_froz {W w1 : World} {p : Addr} (hb : Below W.heap.size W w1) (h : (W.cell? p).isSome = true) (hf : W.frozen? p = false) : w1.frozen? p = false := by
  obtain ⟨v, hv⟩ := Option.isSome_iff_exists.1 h
  rw [hb.frozen (World.block_lt_of_cell? W p hv)]; exact hf
end Go.Proofs.Ytfpokpgkkjibfaa
