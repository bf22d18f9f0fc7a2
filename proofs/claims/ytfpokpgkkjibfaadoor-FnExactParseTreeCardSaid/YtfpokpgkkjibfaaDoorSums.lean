/- Contracts: copies and sums. -/
import Derived.Test.YtfpokpgkkjibfaaDoorGat
import Derived.BigRegion
namespace Go.Proofs.YtfpokpgkkjibfaaDoor
open Go.ChangeShapes Go.WideShapes Go.ChangeAt Go.RowKit

theorem Row.set {w : World} {g : Nat} {L : List Int} (h : Row w g L) {k : Nat} (hk : k < L.length) (v : Int) : Row (w.setCell ⟨g, k, none⟩ (.int .i64 v)) g (L.set k v) := by
  obtain ⟨cs, h, r, hr⟩ := h
  refine ⟨_, set_block h k _, r, ?_⟩
  rw [Array.toList_setIfInBounds, hr, List.set_append_left _ _ (by simpa [i64s] using hk)]
  simp [i64s, List.map_set]
theorem IntS.cells {w : World} {b o : Nat} {xs : List Int} (h : IntS w (some ⟨b, o, none⟩) xs) : ∀ j u, (i64s xs)[j]? = some u → w.cell? ((⟨b, o, none⟩ : Addr).add j) = some u := by
  intro j u hj
  have hl : j < xs.length := by
    rcases Nat.lt_or_ge j xs.length with h1 | h1
    · exact h1
    · rw [List.getElem?_eq_none (by simpa [i64s] using h1)] at hj; cases hj
  obtain ⟨b', o', he, hc⟩ := h.at_ hl
  cases he
  rw [Addr.add_lit, hc]
  simp [i64s, List.getElem?_map, List.getElem?_eq_getElem hl] at hj
  rw [← hj]; simp [nth, List.getD, hl]

end Go.Proofs.YtfpokpgkkjibfaaDoor
