/- Rows of bools that are written; own rows, and what lies far from a cell that is written. -/
import Derived.Test.YtfpokpgkkjibfaaDoorRowB
import Derived.Test.YtfpokpgkkjibfaaDoorApp
namespace Go.Proofs.YtfpokpgkkjibfaaDoor
open Go.ChangeShapes Go.WideShapes Go.ChangeAt Go.RowKit

theorem RowB.free {w : World} {g n : Nat} {f : Nat → Bool} (h : RowB w g n f) (j : Nat) : w.frozen? ⟨g, j, none⟩ = false := by
  unfold RowB at h; simp [World.frozen?, h]
theorem RowB.congr {w : World} {g n : Nat} {f f' : Nat → Bool} (h : RowB w g n f) (he : ∀ i, i < n → f i = f' i) : RowB w g n f' := by
  unfold RowB at *; rw [← bArr_congr n he]; exact h
theorem RowB.set {w : World} {g n : Nat} {f f' : Nat → Bool} (h : RowB w g n f) (k : Nat) (b : Bool) (he : ∀ i, i < n → (if i = k then b else f i) = f' i) : RowB (w.setCell ⟨g, k, none⟩ (.bool b)) g n f' := by
  refine RowB.congr (f := fun i => if i = k then b else f i) ?_ he
  have := set_block h k (.bool b)
  unfold RowB
  rw [this, bArr_set]
theorem RowB.far {w : World} {g n : Nat} {f : Nat → Bool} (h : RowB w g n f) {q : Nat} (hq : g ≠ q) (k : Nat) (v : Value) : RowB (w.setCell ⟨q, k, none⟩ v) g n f :=
  (Below.heap_setCell _ _ _ _ hq).trans h
theorem Row.far {w : World} {g : Nat} {L : List Int} (h : Row w g L) {q : Nat} (hq : g ≠ q) (k : Nat) (v : Value) : Row (w.setCell ⟨q, k, none⟩ v) g L :=
  h.of_block (Below.heap_setCell _ _ _ _ hq)
theorem own_ne_ge {w : World} {B size n g : Nat} {e : TypeId} {v : Value} {xs : List Value} (h : w.ownsRow B e size v n xs) (hg : w.heap.size ≤ g) : v.ownBlock ≠ some g := fun e => by have := (h.lt g e).2; omega
theorem own_far {w : World} {B size n q k : Nat} {e : TypeId} {v u : Value} {xs : List Value} (h : w.ownsRow B e size v n xs) (hq : v.ownBlock ≠ some q) : (w.setCell ⟨q, k, none⟩ u).ownsRow B e size v n xs := by
  refine ⟨h.1, ?_⟩
  rcases h.2 with hn | ⟨g, cap, cur, rfl, hb, hgg, rest⟩
  · exact .inl hn
  · exact .inr ⟨g, cap, cur, rfl, hb, (Below.heap_setCell _ _ _ _ (fun e => hq (by simpa [Value.ownBlock] using e))).trans hgg, rest⟩
end Go.Proofs.YtfpokpgkkjibfaaDoor
