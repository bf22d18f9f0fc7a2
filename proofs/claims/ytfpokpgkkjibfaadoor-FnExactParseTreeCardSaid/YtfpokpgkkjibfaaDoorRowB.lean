/- Blocks that hold exactly a row of bools. -/
import Derived.Test.YtfpokpgkkjibfaaDoorDepth
namespace Go.Proofs.YtfpokpgkkjibfaaDoor
open Go.ChangeShapes Go.WideShapes Go.ChangeAt Go.RowKit

/-- Block g is exactly the n bools of f. -/
def RowB (w : World) (g n : Nat) (f : Nat → Bool) : Prop := w.heap[g]? = some (.cells (bArr n f) 4 (0, 0))
section
variable {w w' : World} {g n : Nat} {f : Nat → Bool}
theorem RowB.lt (h : RowB w g n f) : g < w.heap.size := by
  unfold RowB at h
  rcases Nat.lt_or_ge g w.heap.size with hlt | hge
  · exact hlt
  · rw [Array.getElem?_eq_none hge] at h; cases h
theorem RowB.below (h : RowB w g n f) (hb : Below w.heap.size w w') : RowB w' g n f := (hb.block g h.lt).trans h
theorem RowB.new (w : World) (f : Nat → Bool) (n : Nat) (hg : g = w.heap.size) : RowB (w.alloc (.cells (bArr n f) 4)) g n f := by
  subst hg; exact heap_alloc_new w _
theorem RowB.alloc (h : RowB w g n f) (o : Obj) : RowB (w.alloc o) g n f := h.below ((Below.refl _ _).alloc (Nat.le_refl _) o)
theorem RowB.cell (h : RowB w g n f) {j : Nat} (hj : j < n) : w.cell? ⟨g, j, none⟩ = some (.bool (f j)) := by
  have hl := h.lt
  unfold RowB at h
  rw [cell_of_row _ _ _ _ _ _ h, bArr_at n f hj]
theorem RowB.ne (h : RowB w g n f) {B m : Nat} {v : Value} {L : List Value} (ho : w.ownsRow B 3 1 v m L) : v.ownBlock ≠ some g := by
  rcases ho.2 with ⟨rfl, _⟩ | ⟨b, cap, cs, rfl, _, hb, _⟩
  · simp [Value.ownBlock]
  · intro e
    have e' : b = g := by simpa [Value.ownBlock] using e
    subst e'
    unfold RowB at h
    rw [h] at hb
    injection hb with hb
    injection hb with _ ht _
    exact absurd ht (by decide)
theorem RowB.grown {row : Option Nat} (h : RowB w g n f) (hb : w.grownBy w' row) (hg : row ≠ some g) : RowB w' g n f := (hb.block g h.lt (fun e => hg e.symm)).trans h
end
theorem OwnS.pos {w : World} {B : Nat} {A : Option Addr} {xs : List Int} (h : OwnS w B A xs) (hn : 1 ≤ xs.length) : ∃ g, A = some ⟨g, 0, none⟩ ∧ B ≤ g ∧ Row w g xs := by
  rcases h with ⟨_, e⟩ | h
  · rw [e] at hn; simp at hn
  · exact h
theorem isEnd_any (A B : Option Addr) (c m e : Nat) (xs : List Int) (w : World) (h : IntS w A xs) (hn : xs.length ≤ 1000) (hp : Hid (∀ y, y < xs.length → nth xs y < xs.length)) :
    Calls Tryd.prog 84 #[.agg #[.slice A xs.length c, .slice B m e]] w fun e' w' => ∃ g, e' = .returned (.slice (some ⟨g, 0, none⟩) xs.length xs.length) ∧ RowB w' g xs.length (noKid xs xs.length) ∧ w.heap.size ≤ g ∧ Below w.heap.size w w' := by
  refine (isEnd_exact A B c m e xs w h hn hp).mono ?_
  rintro e1 w1 ⟨rfl, rfl⟩
  exact ⟨_, rfl, RowB.new _ _ _ (by simp), by omega, by (repeat (first | with_reducible exact Below.refl _ _ | with_reducible assumption | with_reducible refine Below.alloc' ?_ ?_ _ | with_reducible refine Below.setCell' ?_ ?_ _ | with_reducible refine Below.drewN' ?_ _ | with_reducible refine Below.drew ?_ | with_reducible refine Below.transA ?_ (by assumption) ?_ | omega | (focus (simp; done)) | (focus (simp; omega))))⟩
end Go.Proofs.YtfpokpgkkjibfaaDoor
