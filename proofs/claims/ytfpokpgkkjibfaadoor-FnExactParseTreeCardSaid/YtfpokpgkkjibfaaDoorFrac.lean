/- Contracts of the functions on fractions. -/
import Derived.Test.YtfpokpgkkjibfaaDoorBase
namespace Go.Proofs.YtfpokpgkkjibfaaDoor
open Go.ChangeShapes Go.WideShapes Go.ChangeAt Go.RowKit

set_option maxHeartbeats 400000 in
theorem within_any (n a b : Int) (w : World) :
    Calls Tryd.prog 48 #[.int .i64 n, .int .i64 a, .int .i64 b] w fun e w' => e = .returned (.bool (decide (a ≤ n ∧ n ≤ b))) ∧ w = w' := by
  by_cases h : a ≤ n
  · by_cases h1 : n ≤ b
    · go_enter Tryd.func48, Tryd.ntmps48
      go_wp2
      go_ret
      exact ⟨by simp [h, h1], rfl⟩
    · go_enter Tryd.func48, Tryd.ntmps48
      go_wp2
      go_ret
      exact ⟨by simp [h1], rfl⟩
  · go_enter Tryd.func48, Tryd.ntmps48
    go_wp2
    go_ret
    exact ⟨ret_bool (by simp; omega), rfl⟩

theorem within_yes (n a b : Int) (w : World) (h : a ≤ n) (h1 : n ≤ b) :
    Calls Tryd.prog 48 #[.int .i64 n, .int .i64 a, .int .i64 b] w fun e w' => e = .returned (.bool true) ∧ w = w' :=
  (within_any n a b w).mono fun _ _ ⟨he, hw⟩ => ⟨he.trans (ret_bool (by simp [h, h1])), hw⟩
theorem within_no (n a b : Int) (w : World) (h : ¬ (a ≤ n ∧ n ≤ b)) :
    Calls Tryd.prog 48 #[.int .i64 n, .int .i64 a, .int .i64 b] w fun e w' => e = .returned (.bool false) ∧ w = w' :=
  (within_any n a b w).mono fun _ _ ⟨he, hw⟩ => ⟨he.trans (ret_bool (decide_eq_false h)), hw⟩
set_option maxHeartbeats 400000 in
theorem l1In_any (n a b : Int) (w : World) :
    Calls Tryd.prog 50 #[.int .i64 n, .int .i64 a, .int .i64 b] w fun e w' => e = .returned (.bool (decide (a ≤ n ∧ n ≤ b))) ∧ w = w' := by
  by_cases h : a ≤ n
  · by_cases h1 : n ≤ b
    · go_enter Tryd.func50, Tryd.ntmps50
      go_wp2
      go_ret
      exact ⟨by simp [h, h1], rfl⟩
    · go_enter Tryd.func50, Tryd.ntmps50
      go_wp2
      go_ret
      exact ⟨by simp [h1], rfl⟩
  · go_enter Tryd.func50, Tryd.ntmps50
    go_wp2
    go_ret
    exact ⟨ret_bool (by simp; omega), rfl⟩

theorem l1In_yes (n a b : Int) (w : World) (h : a ≤ n) (h1 : n ≤ b) :
    Calls Tryd.prog 50 #[.int .i64 n, .int .i64 a, .int .i64 b] w fun e w' => e = .returned (.bool true) ∧ w = w' :=
  (l1In_any n a b w).mono fun _ _ ⟨he, hw⟩ => ⟨he.trans (ret_bool (by simp [h, h1])), hw⟩
theorem l1In_no (n a b : Int) (w : World) (h : ¬ (a ≤ n ∧ n ≤ b)) :
    Calls Tryd.prog 50 #[.int .i64 n, .int .i64 a, .int .i64 b] w fun e w' => e = .returned (.bool false) ∧ w = w' :=
  (l1In_any n a b w).mono fun _ _ ⟨he, hw⟩ => ⟨he.trans (ret_bool (decide_eq_false h)), hw⟩
theorem toNat_emod_lt (a b : Int) (hb : b ≠ 0) : (a.tmod b).natAbs < b.natAbs := by
  rw [Int.natAbs_tmod]; exact Nat.mod_lt _ (by omega)
theorem gcd_step (a b : Int) : Int.gcd b (a.tmod b) = Int.gcd a b := by
  unfold Int.gcd
  rw [Int.natAbs_tmod, Nat.gcd_comm b.natAbs, ← Nat.gcd_rec, Nat.gcd_comm]
theorem tmod_bd (a b : Int) (hb : b ≠ 0) (h0 : -4611686018427387904 ≤ b) (h1 : b ≤ 4611686018427387904) : -4611686018427387904 ≤ a.tmod b ∧ a.tmod b ≤ 4611686018427387904 := by
  have := toNat_emod_lt a b hb
  omega

theorem below_drewN (w : World) (n : Nat) : Below w.heap.size w (w.drewN n) := ⟨rfl, rfl, rfl, Nat.le_refl _, fun _ _ => rfl⟩
theorem quiet_eq {P : Program} {f : FuncId} {args : Array Value} {w : World} {n : Nat} {v : Value}
    (h : Calls P f args (w.drewN n) fun e w' => e = .returned v ∧ w.drewN n = w') : Calls P f args (w.drewN n) fun e w'' => e = .returned v ∧ ∃ m, w'' = w.drewN m :=
  h.mono fun _ _ ⟨he, hm⟩ => ⟨he, n, hm.symm⟩
theorem gcd_le (a b : Int) (hb : b ≠ 0) : (Int.gcd a b : Int) ≤ b.natAbs := by
  have := Int.gcd_le_natAbs_right (a := a) hb
  omega
theorem gcd_pos (a b : Int) (hb : b ≠ 0) : 0 < (Int.gcd a b : Int) := by
  have := Int.gcd_pos_of_ne_zero_right a hb
  omega
/-- The divisor of 'lowest', with the sign of b. -/
def lowD (a b : Int) : Int := if b < 0 then -(Int.gcd a b : Int) else (Int.gcd a b : Int)
def lowX (a b : Int) : Int := a.tdiv (lowD a b)
def lowY (a b : Int) : Int := b.tdiv (lowD a b)
def lowOk (a b : Int) : Bool := decide (-1000000000 ≤ lowX a b ∧ lowX a b ≤ 1000000000) && decide (lowY a b ≤ 1000000)
def lowN (a b : Int) : Int := if lowOk a b then lowX a b else 0
def lowM (a b : Int) : Int := if lowOk a b then lowY a b else 0
theorem tdiv_bd (a d B : Int) (_hB : 0 ≤ B) (h : -B ≤ a ∧ a ≤ B) : -B ≤ a.tdiv d ∧ a.tdiv d ≤ B := by
  have h1 : (a.tdiv d).natAbs ≤ a.natAbs := by rw [Int.natAbs_tdiv]; exact Nat.div_le_self _ _
  omega

def Frac (a b : Int) : Prop := -1000000000 ≤ a ∧ a ≤ 1000000000 ∧ 1 ≤ b ∧ b ≤ 1000000 ∧ Int.gcd a b = 1
instance (a b : Int) : Decidable (Frac a b) := by unfold Frac; infer_instance
def isFrac (a b : Int) : Bool := decide (Frac a b)

end Go.Proofs.YtfpokpgkkjibfaaDoor
