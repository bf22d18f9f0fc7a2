/- Contracts: the gains of stakes. -/
import Derived.Test.YtombfbmcplefgaaSums3
import Derived.Test.YtombfbmcplefgaaFrac6
import Derived.Test.YtombfbmcplefgaaApp
import Derived.IntWalk
namespace Go.Proofs.Ytombfbmcplefgaa
open Go.ChangeShapes Go.WideShapes Go.ChangeAt Go.RowKit

theorem allIn_nth {zs : List Int} {lo hi : Int} (h : allIn zs lo hi = true) (h0 : lo ≤ 0 ∧ 0 ≤ hi) (j : Nat) : lo ≤ nth zs j ∧ nth zs j ≤ hi := by
  by_cases hj : j < zs.length
  · exact allIn_iff.1 h j hj
  · rw [nth_out (by omega)]; exact h0
theorem isProc_iff {n : Nat} {zs : List Int} (h : isProc n zs = true) : zs.length = n ∧ ∀ j, -999 ≤ nth zs j ∧ nth zs j ≤ 999 := by
  unfold isProc at h
  rw [Bool.and_eq_true] at h
  exact ⟨of_decide_eq_true h.1, allIn_nth h.2 (by omega)⟩
/-- Stakes of a tree with n nodes. -/
def isStk (n : Nat) (zs : List Int) : Bool := decide (zs.length = n) && allIn zs (-20) 20
theorem isStk_iff {n : Nat} {zs : List Int} (h : isStk n zs = true) : zs.length = n ∧ ∀ j, -20 ≤ nth zs j ∧ nth zs j ≤ 20 := by
  unfold isStk at h
  rw [Bool.and_eq_true] at h
  exact ⟨of_decide_eq_true h.1, allIn_nth h.2 (by omega)⟩
/-- The gains at the first k nodes. -/
def stkG (xs ps ss : List Int) : Nat → List Int
  | 0 => []
  | 1 => [0]
  | k + 1 => stkG xs ps ss k ++ [nth (stkG xs ps ss k) (nth xs k).toNat + nth ss (nth xs k).toNat * (nth ps k - nth ps (nth xs k).toNat)]
theorem stkG_succ (xs ps ss : List Int) {k : Nat} (hk : 1 ≤ k) : stkG xs ps ss (k + 1) = stkG xs ps ss k ++ [nth (stkG xs ps ss k) (nth xs k).toNat + nth ss (nth xs k).toNat * (nth ps k - nth ps (nth xs k).toNat)] := by
  cases k with
  | zero => omega
  | succ k => rfl
theorem stkG_len (xs ps ss : List Int) (k : Nat) : (stkG xs ps ss k).length = k := by
  induction k with
  | zero => rfl
  | succ k ih =>
    cases k with
    | zero => rfl
    | succ k => rw [stkG_succ _ _ _ (by omega)]; simp [ih]
theorem stk_mul {s a b : Int} (hs : -20 ≤ s ∧ s ≤ 20) (ha : -999 ≤ a ∧ a ≤ 999) (hb : -999 ≤ b ∧ b ≤ 999) : -39960 ≤ s * (a - b) ∧ s * (a - b) ≤ 39960 :=
  mul_bd (A := 20) (D := 1998) (by omega) (by omega)
theorem stkG_bd (xs : List Int) {ps ss : List Int} (hp : ∀ j, -999 ≤ nth ps j ∧ nth ps j ≤ 999) (hs : ∀ j, -20 ≤ nth ss j ∧ nth ss j ≤ 20) (k j : Nat) : -(39960 * (k : Int)) ≤ nth (stkG xs ps ss k) j ∧ nth (stkG xs ps ss k) j ≤ 39960 * (k : Int) := by
  induction k generalizing j with
  | zero => simp [stkG, nth]
  | succ k ih =>
    cases k with
    | zero =>
      have h0 : nth (stkG xs ps ss (0 + 1)) j = 0 := by
        show nth [0] j = 0
        unfold nth List.getD; cases j <;> simp
      omega
    | succ k =>
      rw [stkG_succ _ _ _ (by omega)]
      rcases Nat.lt_trichotomy j (k + 1) with h | h | h
      · rw [nth_app_lt (by rw [stkG_len]; exact h)]; have := ih j; omega
      · subst h
        have e : (stkG xs ps ss (k + 1)).length = k + 1 := stkG_len _ _ _ _
        have := nth_app_eq (L := stkG xs ps ss (k + 1)) (a := nth (stkG xs ps ss (k + 1)) (nth xs (k + 1)).toNat + nth ss (nth xs (k + 1)).toNat * (nth ps (k + 1) - nth ps (nth xs (k + 1)).toNat))
        rw [e] at this
        rw [this]; have := ih (nth xs (k + 1)).toNat; have := stk_mul (hs (nth xs (k + 1)).toNat) (hp (k + 1)) (hp (nth xs (k + 1)).toNat); omega
      · rw [nth_out (by simp [stkG_len]; omega)]; omega

theorem allWithin_b (A : Option Addr) (c : Nat) (zs : List Int) (lo hi : Int) (w : World) (h : IntS w A zs) (hn : zs.length ≤ 1048576) :
    Calls Try.prog 137 #[.slice A zs.length c, .int .i64 lo, .int .i64 hi] w fun e w' => e = .returned (.bool (allIn zs lo hi)) ∧ Below w.heap.size w w' :=
  (allWithin_any A c zs lo hi w h (by unfold maxLen; omega)).mono fun _ _ ⟨he, hw⟩ => ⟨he, by rw [← hw]; exact Below.refl _ _⟩
noncomputable def stkOk (xs ys ps qs : List Int) : Bool := good xs ys && isProc xs.length ps && isStk xs.length qs
noncomputable def stkR (xs ys ps qs : List Int) : List Int := if stkOk xs ys ps qs then stkG xs ps qs xs.length else []
theorem stkR_no {xs ys ps qs : List Int} (h : stkOk xs ys ps qs = false) : stkR xs ys ps qs = [] := by unfold stkR; rw [h]; rfl
theorem stkR_yes {xs ys ps qs : List Int} (h : stkOk xs ys ps qs = true) : stkR xs ys ps qs = stkG xs ps qs xs.length := by unfold stkR; rw [h]; rfl
theorem stkR_len (xs ys ps qs : List Int) (hn : xs.length ≤ 1048576) : (stkR xs ys ps qs).length ≤ 2000000 := by
  unfold stkR; split
  · rw [stkG_len]; omega
  · simp
end Go.Proofs.Ytombfbmcplefgaa
