/- Contracts: IsStopping. -/
import Derived.Test.YtombfbmcplefgaaStop
namespace Go.Proofs.Ytombfbmcplefgaa
open Go.ChangeShapes Go.WideShapes Go.ChangeAt Go.RowKit

noncomputable def treeOk (xs ys : List Int) : Bool := good xs ys
noncomputable def stpR (xs ys ps : List Int) : Bool := treeOk xs ys && isStp xs ps
theorem stpR_no {xs ys ps : List Int} (h : treeOk xs ys = false) : stpR xs ys ps = false := by unfold stpR; rw [h]; rfl
theorem stpR_yes {xs ys ps : List Int} (h : treeOk xs ys = true) : stpR xs ys ps = isStp xs ps := by unfold stpR; rw [h]; rfl
end Go.Proofs.Ytombfbmcplefgaa
