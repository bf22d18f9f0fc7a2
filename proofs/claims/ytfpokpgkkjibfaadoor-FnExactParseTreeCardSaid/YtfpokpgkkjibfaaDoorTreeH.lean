/- Lists of ints and trees in memory; contracts of the statements' helpers on them. -/
import Derived.Test.YtfpokpgkkjibfaaDoorMem
import Derived.Laws.MakeOwn
namespace Go.Proofs.YtfpokpgkkjibfaaDoor
open Go.ChangeShapes Go.WideShapes Go.ChangeAt Go.RowKit

def i64s (xs : List Int) : List Value := xs.map (Value.int .i64)
/-- Block g begins with the list xs. -/
def Row (w : World) (g : Nat) (xs : List Int) : Prop := ∃ cs : Array Value, w.heap[g]? = some (.cells cs 3 (0, 0)) ∧ ∃ r, cs.toList = i64s xs ++ r
/-- A slice's place that the program itself has made: nil, or the head of a block from B on. -/
def OwnS (w : World) (B : Nat) (A : Option Addr) (xs : List Int) : Prop := (A = none ∧ xs = []) ∨ ∃ g, A = some ⟨g, 0, none⟩ ∧ B ≤ g ∧ Row w g xs

theorem Row.lt {w : World} {g : Nat} {xs : List Int} (h : Row w g xs) : g < w.heap.size := by
  obtain ⟨cs, h, _⟩ := h
  rcases Nat.lt_or_ge g w.heap.size with hlt | hge
  · exact hlt
  · rw [Array.getElem?_eq_none hge] at h; cases h
theorem Row.cell {w : World} {g : Nat} {xs : List Int} (h : Row w g xs) {j : Nat} (hj : j < xs.length) : w.cell? ⟨g, j, none⟩ = some (.int .i64 (nth xs j)) := by
  obtain ⟨cs, h, r, hr⟩ := h
  rw [cell_of_row _ _ _ _ _ _ h]
  have : cs[j]? = cs.toList[j]? := by simp
  rw [this, hr, List.getElem?_append_left (by simpa [i64s] using hj)]
  simp [i64s, nth, List.getD, hj]
theorem Row.frozen {w : World} {g : Nat} {xs : List Int} (h : Row w g xs) (j : Nat) : w.frozen? ⟨g, j, none⟩ = false := by
  obtain ⟨cs, h, r, hr⟩ := h
  unfold World.frozen?
  rw [h]; simp
theorem Row.of_block {w w' : World} {g : Nat} {xs : List Int} (h : Row w g xs) (he : w'.heap[g]? = w.heap[g]?) : Row w' g xs := by
  obtain ⟨cs, h, r⟩ := h
  exact ⟨cs, he.trans h, r⟩
theorem Row.below {w w' : World} {g : Nat} {xs : List Int} (h : Row w g xs) (hb : Below w.heap.size w w') : Row w' g xs := h.of_block (hb.block g h.lt)
theorem Row.grown {w w' : World} {g : Nat} {xs : List Int} {row : Option Nat} (h : Row w g xs) (hb : w.grownBy w' row) (hg : some g ≠ row) : Row w' g xs := h.of_block (hb.block g h.lt hg)
theorem OwnS.below {w w' : World} {B : Nat} {A : Option Addr} {xs : List Int} (h : OwnS w B A xs) (hb : Below w.heap.size w w') : OwnS w' B A xs := by
  rcases h with h | ⟨g, h1, h2, h3⟩
  · exact .inl h
  · exact .inr ⟨g, h1, h2, h3.below hb⟩
theorem OwnS.mono {w : World} {B B' : Nat} {A : Option Addr} {xs : List Int} (h : OwnS w B A xs) (hB : B' ≤ B) : OwnS w B' A xs := by
  rcases h with h | ⟨g, h1, h2, h3⟩
  · exact .inl h
  · exact .inr ⟨g, h1, by omega, h3⟩
theorem OwnS.ints {w : World} {B : Nat} {A : Option Addr} {xs : List Int} (h : OwnS w B A xs) : IntS w A xs := by
  rcases h with ⟨_, rfl⟩ | ⟨g, rfl, _, h3⟩
  · intro h; simp at h
  · intro _
    exact ⟨_, rfl, fun j hj => by
      have e : (⟨g, 0, none⟩ : Addr).add j = ⟨g, j, none⟩ := by
        unfold Addr.add; split <;> simp_all
      rw [e]; exact h3.cell hj⟩
theorem IntS.below {w w' : World} {A : Option Addr} {xs : List Int} (h : IntS w A xs) (hb : Below w.heap.size w w') : IntS w' A xs := by
  intro h0
  obtain ⟨ad, rfl, h1⟩ := h h0
  exact ⟨ad, rfl, fun j hj => keep_cell hb (h1 j hj)⟩
theorem IntS.keep {w w' : World} {A : Option Addr} {xs : List Int} (h : IntS w A xs) (hb : ∀ p v, w.cell? p = some v → w'.cell? p = some v) : IntS w' A xs := by
  intro h0
  obtain ⟨ad, rfl, h1⟩ := h h0
  exact ⟨ad, rfl, fun j hj => hb _ _ (h1 j hj)⟩
theorem IntS.at_ {w : World} {A : Option Addr} {xs : List Int} (h : IntS w A xs) {j : Nat} (hj : j < xs.length) : ∃ b o, A = some ⟨b, o, none⟩ ∧ w.cell? ⟨b, o + j, none⟩ = some (.int .i64 (nth xs j)) := by
  obtain ⟨⟨b, o, s⟩, rfl, h2⟩ := h (by omega)
  have hs : s = none := by
    have h0 := h2 0 (by omega)
    rcases s with _ | s
    · rfl
    · simp [Addr.add, World.cell?] at h0
      split at h0 <;> simp at h0
  subst hs
  have h1 := h2 j hj
  refine ⟨b, o, rfl, ?_⟩
  have e : (⟨b, o, none⟩ : Addr).add j = ⟨b, o + j, none⟩ := by
    unfold Addr.add; split <;> simp_all
  rw [← e]; exact h1
end Go.Proofs.YtfpokpgkkjibfaaDoor
