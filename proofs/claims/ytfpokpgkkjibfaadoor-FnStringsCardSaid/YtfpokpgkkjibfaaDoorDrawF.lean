/- Contracts: the reference's draws of fractions. -/
import Derived.Test.YtfpokpgkkjibfaaDoorCurs
import Derived.Test.YtfpokpgkkjibfaaDoorFrac2
namespace Go.Proofs.YtfpokpgkkjibfaaDoor
open Go.ChangeShapes Go.WideShapes Go.ChangeAt Go.RowKit

section
variable {w W W' : World} {g gR n cc m m' : Nat} {C : Option Addr}
theorem CurB.lt (h : CurB W g C n cc m) : g < W.heap.size := by
  obtain ⟨k, sd, h, _⟩ := h
  rcases Nat.lt_or_ge g W.heap.size with hlt | hge
  · exact hlt
  · rw [Array.getElem?_eq_none hge] at h; cases h
theorem CurB.below (h : CurB W g C n cc m) (hb : Below W.heap.size W W') : CurB W' g C n cc m := by
  have hl := h.lt
  obtain ⟨k, sd, h, h2⟩ := h
  exact ⟨k, sd, (hb.block g hl).trans h, h2⟩
theorem CurB.far (h : CurB W g C n cc m) {q : Nat} (hq : g ≠ q) (i : Nat) (v : Value) : CurB (W.setCell ⟨q, i, none⟩ v) g C n cc m := by
  obtain ⟨k, sd, h, h2⟩ := h
  exact ⟨k, sd, (Below.heap_setCell _ _ _ _ hq).trans h, h2⟩
theorem CurB.mono (h : CurB W g C n cc m) (hm : m ≤ m') : CurB W g C n cc m' := by
  obtain ⟨k, sd, h, h1, h2⟩ := h
  exact ⟨k, sd, h, by omega, h2⟩
theorem kept_below (h : KeptBut w W g g) (hb : Below W.heap.size W W') : KeptBut w W' g g :=
  h.trans2 ⟨hb.os, hb.tape, hb.output, hb.size, fun k hk _ _ => hb.block k hk⟩
theorem kept_set (h : KeptBut w W g g) {q : Nat} (hq : w.heap.size ≤ q) (i : Nat) (v : Value) : KeptBut w (W.setCell ⟨q, i, none⟩ v) g g := by
  refine ⟨h.os, h.tape, h.output, by simpa using h.size, fun k hk h1 h2 => ?_⟩
  exact (Below.heap_setCell _ _ _ _ (by show k ≠ q; omega)).trans (h.block k hk h1 h2)
end
theorem list_IntS (W : World) (xs : List Int) (_h : 1 ≤ xs.length) : IntS (W.alloc (.cells (i64s xs).toArray 3)) (some ⟨W.heap.size, 0, none⟩) xs := (RowX.new W xs rfl).row.ints
end Go.Proofs.YtfpokpgkkjibfaaDoor
