/- Contracts: the chance of a node. -/
import Derived.StillTailTactics
import Derived.Deep.RegionHeld3
import Derived.Test.YtombfbmcplefgaaMgMn6
import Derived.Test.YtombfbmcplefgaaMgMn12
namespace Go.Proofs.Ytombfbmcplefgaa
open Go.ChangeShapes Go.WideShapes Go.ChangeAt Go.RowKit

/-- A call that hands back a pair and whether there is one. -/
def RetAB (w : World) (N M : Int) (r : Bool) (e : Ending) (w' : World) : Prop := e = .returned (.tuple #[.agg #[.int .i64 N, .int .i64 M], .bool r]) ∧ Below w.heap.size w w'
theorem low_small {a b : Int} (ha : -1000000000 ≤ a ∧ a ≤ 1000000000) (hb : 1 ≤ b ∧ b ≤ 1000000) : lowOk a b = true ∧ lowN a b = lowX a b ∧ lowM a b = lowY a b := by
  have h1 : -1000000000 ≤ lowX a b ∧ lowX a b ≤ 1000000000 := tdiv_bd a (lowD a b) 1000000000 (by omega) ha
  have h2 : -1000000 ≤ lowY a b ∧ lowY a b ≤ 1000000 := tdiv_bd b (lowD a b) 1000000 (by omega) (by omega)
  have h : lowOk a b = true := by unfold lowOk; rw [decide_eq_true h1, decide_eq_true h2.2]; rfl
  refine ⟨h, ?_, ?_⟩
  · unfold lowN; rw [if_pos h]
  · unfold lowM; rw [if_pos h]
noncomputable def chanOk (xs ys : List Int) (x : Int) : Bool := good xs ys && isNd xs.length x
noncomputable def chanN (xs ys : List Int) (x : Int) : Int := if chanOk xs ys x then lowX (nth (sumsL xs ys) x.toNat) (nth (sumsL xs ys) 0) else 0
noncomputable def chanM (xs ys : List Int) (x : Int) : Int := if chanOk xs ys x then lowY (nth (sumsL xs ys) x.toNat) (nth (sumsL xs ys) 0) else 0
end Go.Proofs.Ytombfbmcplefgaa
