/- Contracts: DriftsOf. -/
import Derived.Test.YtombfbmcplefgaaFair
import Derived.Test.YtombfbmcplefgaaPairLaw
namespace Go.Proofs.Ytombfbmcplefgaa
open Go.ChangeShapes Go.WideShapes Go.ChangeAt Go.RowKit

/-- A call that hands back a new list of pairs, and whether it is one. -/
def RetPB (w : World) (L : List (Int × Int)) (r : Bool) (e : Ending) (w' : World) : Prop := ∃ A c, e = .returned (.tuple #[.slice A L.length c, .bool r]) ∧ OwnS2 w' w.heap.size A L ∧ Below w.heap.size w w'
noncomputable def drfR (xs ys ps : List Int) : List (Int × Int) := if procOk xs ys ps then dftK xs ys ps xs.length else []
theorem drfR_no {xs ys ps : List Int} (h : procOk xs ys ps = false) : drfR xs ys ps = [] := by unfold drfR; rw [h]; rfl
theorem drfR_yes {xs ys ps : List Int} (h : procOk xs ys ps = true) : drfR xs ys ps = dftK xs ys ps xs.length := by unfold drfR; rw [h]; rfl
theorem drfR_len (xs ys ps : List Int) (hn : xs.length ≤ 1048576) : (drfR xs ys ps).length ≤ 2000000 := by
  unfold drfR; split
  · have := dftK_len xs ys ps xs.length; omega
  · simp
end Go.Proofs.Ytombfbmcplefgaa
