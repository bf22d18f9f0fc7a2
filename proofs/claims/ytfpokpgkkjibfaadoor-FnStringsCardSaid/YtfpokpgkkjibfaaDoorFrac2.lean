/- Contracts of the functions on fractions: the reference's, and the statements' helpers. -/
import Derived.Test.YtfpokpgkkjibfaaDoorMathF
import Derived.Deep.RegionHeld3
import Derived.RegionTactic
import Derived.ChangeAlike
namespace Go.Proofs.YtfpokpgkkjibfaaDoor
open Go.ChangeShapes Go.WideShapes Go.ChangeAt Go.RowKit

theorem set2_new (w : World) (t : TypeId) (a b x y : Value) (n : Nat) :
    (((w.alloc (.cells #[a, b] t)).drewN n).setCell ⟨w.heap.size, 0, none⟩ x).setCell ⟨w.heap.size, 1, none⟩ y = (w.alloc (.cells #[x, y] t)).drewN n := by
  have h : ∀ (W : World) (a : Addr) (v : Value), (W.drewN n).setCell a v = (W.setCell a v).drewN n := fun _ _ _ => rfl
  rw [h, h, World.setCell_alloc_at _ _ _ _ _ rfl, World.setCell_alloc_at _ _ _ _ _ rfl]
  rfl
def FracV (a b : Int) (ok : Bool) : Value := .tuple #[.agg #[.int .i64 a, .int .i64 b], .bool ok]
/-- What FractionOf hands back. -/
def foIn (a b : Int) : Prop := b ≠ 0 ∧ (-1000000000 ≤ a ∧ a ≤ 1000000000) ∧ (-1000000000 ≤ b ∧ b ≤ 1000000000)
instance (a b : Int) : Decidable (foIn a b) := by unfold foIn; infer_instance
def foOk (a b : Int) : Bool := decide (foIn a b) && lowOk a b
def foN (a b : Int) : Int := if foOk a b then lowX a b else 0
def foM (a b : Int) : Int := if foOk a b then lowY a b else 0
theorem fo_out {a b : Int} (h : ¬ foIn a b) : foOk a b = false ∧ foN a b = 0 ∧ foM a b = 0 := by
  have h0 : foOk a b = false := by unfold foOk; rw [decide_eq_false h]; rfl
  exact ⟨h0, by unfold foN; rw [h0]; rfl, by unfold foM; rw [h0]; rfl⟩
theorem fo_in {a b : Int} (h : foIn a b) : foOk a b = lowOk a b ∧ foN a b = lowN a b ∧ foM a b = lowM a b := by
  have h0 : foOk a b = lowOk a b := by unfold foOk; rw [decide_eq_true h]; rfl
  exact ⟨h0, by unfold foN lowN; rw [h0], by unfold foM lowM; rw [h0]⟩

theorem kept_low (a b : Int) (hb : b ≠ 0) : isFrac (lowX a b) (lowY a b) = lowOk a b ∧ (if isFrac (lowX a b) (lowY a b) = true then lowX a b else 0) = lowN a b ∧ (if isFrac (lowX a b) (lowY a b) = true then lowY a b else 0) = lowM a b := by
  have h := isFrac_low a b hb
  rw [h]
  exact ⟨rfl, rfl, rfl⟩
end Go.Proofs.YtfpokpgkkjibfaaDoor
