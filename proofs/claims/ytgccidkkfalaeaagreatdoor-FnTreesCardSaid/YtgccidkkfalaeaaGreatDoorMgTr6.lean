/- Contracts of the functions on fractions: the reference's, and the statements' helpers. -/
import Derived.Deep.RegionHeld3
import Derived.RegionTactic
import Derived.ChangeAlike
import Derived.Test.YtgccidkkfalaeaaGreatDoorMgTr5
namespace Go.Proofs.YtgccidkkfalaeaaGreatDoor
open Go.ChangeShapes Go.WideShapes Go.ChangeAt Go.RowKit

theorem l2Gcd_d (a b d : Int) (w : World) (hd : Hid ((Int.gcd a b : Int) = d)) (ha : 0 ≤ a ∧ a ≤ 9000000000000000000) (hb : 0 ≤ b ∧ b ≤ 9000000000000000000) :
    Calls Tryz.prog 77 #[.int .i64 a, .int .i64 b] w fun e w' => e = .returned (.int .i64 d) ∧ ∃ n, w' = w.drewN n := by
  have h := l2Gcd_any a b w ha hb
  rw [hd.out] at h
  exact h

theorem set2_new (w : World) (t : TypeId) (a b x y : Value) (n : Nat) :
    (((w.alloc (.cells #[a, b] t)).drewN n).setCell ⟨w.heap.size, 0, none⟩ x).setCell ⟨w.heap.size, 1, none⟩ y = (w.alloc (.cells #[x, y] t)).drewN n := by
  have h : ∀ (W : World) (a : Addr) (v : Value), (W.drewN n).setCell a v = (W.setCell a v).drewN n := fun _ _ _ => rfl
  rw [h, h, World.setCell_alloc_at _ _ _ _ _ rfl, World.setCell_alloc_at _ _ _ _ _ rfl]
  rfl
set_option maxHeartbeats 1000000 in
theorem l2Cut_exact (a b : Int) (w : World) (hb0 : 0 < b) (ha : -4000000000000000000 ≤ a ∧ a ≤ 4000000000000000000) (hb : b ≤ 4000000000000000000) :
    Calls Tryz.prog 62 #[.int .i64 a, .int .i64 b] w fun e w' => e = .returned (.agg #[.int .i64 (lowX a b), .int .i64 (lowY a b)]) ∧ ∃ n, w' = (w.alloc (.cells #[.int .i64 (lowX a b), .int .i64 (lowY a b)] 41)).drewN n := by
  have hd0 := gcd_pos a b (by omega)
  have hdl := gcd_le a b (by omega)
  have hx := tdiv_bd a (lowD a b) 4000000000000000000 (by omega) ha
  have hy := tdiv_bd b (lowD a b) 4000000000000000000 (by omega) ⟨by omega, hb⟩
  rw [lowD_of_pos a b hb0] at hx hy
  have hX : Hid (a.tdiv (Int.gcd a b) = lowX a b) := by unfold lowX; rw [lowD_of_pos a b hb0]; rfl
  have hY : Hid (b.tdiv (Int.gcd a b) = lowY a b) := by unfold lowY; rw [lowD_of_pos a b hb0]; rfl
  generalize lowX a b = X at *
  generalize lowY a b = Y at *
  have hg : Hid ((Int.gcd (a.natAbs : Int) b : Int) = (Int.gcd a b : Int)) := by show (_ : Int) = _; simp [Int.gcd]
  generalize (Int.gcd a b : Int) = d at *
  have hX' : a.tdiv d = X := hX.out
  have hY' : b.tdiv d = Y := hY.out
  rw [hX'] at hx
  rw [hY'] at hy
  obtain ⟨hx0, hx1⟩ := hx
  obtain ⟨hy0, hy1⟩ := hy
  obtain ⟨ha0, ha1⟩ := ha
  have hz : (d == 0) = false := by simp; omega
  have hz0 : ¬ d = 0 := by omega
  go_enter Tryz.func62, Tryz.ntmps62
  go_wp2_with (first | (go_at_call 78; refine (l2Abs_any a _ (by omega)).mono ?_; rintro e w' ⟨rfl, rfl⟩) | (go_at_call 77; refine (l2Gcd_d _ b d _ hg (by omega) (by omega)).mono ?_; rintro e w' ⟨rfl, nq, rfl⟩))
  go_region
  all_goals
    go_wp2
    exact bodyPost_ret (v := .agg #[.int .i64 X, .int .i64 Y]) (by simp [results, Tryz.results62, go_sem]) rfl ⟨rfl, nq + 1, set2_new w _ _ _ _ _ _⟩

theorem l2Cut_any (a b : Int) (w : World) (hb0 : 0 < b) (ha : -4000000000000000000 ≤ a ∧ a ≤ 4000000000000000000) (hb : b ≤ 4000000000000000000) :
    Calls Tryz.prog 62 #[.int .i64 a, .int .i64 b] w fun e w' => e = .returned (.agg #[.int .i64 (lowX a b), .int .i64 (lowY a b)]) ∧ Below w.heap.size w w' :=
  (l2Cut_exact a b w hb0 ha hb).mono fun _ _ ⟨he, n, hw⟩ => ⟨he, by rw [hw]; exact Below.drewN' ((Below.refl _ _).alloc (Nat.le_refl _) _) n⟩

def FracV (a b : Int) (ok : Bool) : Value := .tuple #[.agg #[.int .i64 a, .int .i64 b], .bool ok]
/-- What FractionOf hands back. -/
def foIn (a b : Int) : Prop := b ≠ 0 ∧ (-1000000000 ≤ a ∧ a ≤ 1000000000) ∧ (-1000000000 ≤ b ∧ b ≤ 1000000000)
instance (a b : Int) : Decidable (foIn a b) := by unfold foIn; infer_instance
def foOk (a b : Int) : Bool := decide (foIn a b) && lowOk a b
def foN (a b : Int) : Int := if foOk a b then lowX a b else 0
def foM (a b : Int) : Int := if foOk a b then lowY a b else 0
theorem fo_out {a b : Int} (h : ¬ foIn a b) : foOk a b = false ∧ foN a b = 0 ∧ foM a b = 0 := by
  have h0 : foOk a b = false := by unfold foOk; rw [decide_eq_false h]; rfl
  exact ⟨h0, by unfold foN; rw [h0]; rfl, by unfold foM; rw [h0]; rfl⟩
theorem fo_in {a b : Int} (h : foIn a b) : foOk a b = lowOk a b ∧ foN a b = lowN a b ∧ foM a b = lowM a b := by
  have h0 : foOk a b = lowOk a b := by unfold foOk; rw [decide_eq_true h]; rfl
  exact ⟨h0, by unfold foN lowN; rw [h0], by unfold foM lowM; rw [h0]⟩

theorem kept_low (a b : Int) (hb : b ≠ 0) : isFrac (lowX a b) (lowY a b) = lowOk a b ∧ (if isFrac (lowX a b) (lowY a b) = true then lowX a b else 0) = lowN a b ∧ (if isFrac (lowX a b) (lowY a b) = true then lowY a b else 0) = lowM a b := by
  have h := isFrac_low a b hb
  rw [h]
  exact ⟨rfl, rfl, rfl⟩
end Go.Proofs.YtgccidkkfalaeaaGreatDoor
