/- Contracts of the functions on fractions. -/
import Derived.Test.YtombfbmcplefgaaBase
namespace Go.Proofs.Ytombfbmcplefgaa
open Go.ChangeShapes Go.WideShapes Go.ChangeAt Go.RowKit

set_option maxHeartbeats 400000 in
theorem within_any (n a b : Int) (w : World) :
    Calls Try.prog 114 #[.int .i64 n, .int .i64 a, .int .i64 b] w fun e w' => e = .returned (.bool (decide (a ≤ n ∧ n ≤ b))) ∧ w = w' := by
  by_cases h : a ≤ n
  · by_cases h1 : n ≤ b
    · go_enter Try.func114, Try.ntmps114
      go_wp2
      go_ret
      exact ⟨by simp [h, h1], rfl⟩
    · go_enter Try.func114, Try.ntmps114
      go_wp2
      go_ret
      exact ⟨by simp [h1], rfl⟩
  · go_enter Try.func114, Try.ntmps114
    go_wp2
    go_ret
    exact ⟨ret_bool (by simp; omega), rfl⟩

theorem within_yes (n a b : Int) (w : World) (h : a ≤ n) (h1 : n ≤ b) :
    Calls Try.prog 114 #[.int .i64 n, .int .i64 a, .int .i64 b] w fun e w' => e = .returned (.bool true) ∧ w = w' :=
  (within_any n a b w).mono fun _ _ ⟨he, hw⟩ => ⟨he.trans (ret_bool (by simp [h, h1])), hw⟩
theorem within_no (n a b : Int) (w : World) (h : ¬ (a ≤ n ∧ n ≤ b)) :
    Calls Try.prog 114 #[.int .i64 n, .int .i64 a, .int .i64 b] w fun e w' => e = .returned (.bool false) ∧ w = w' :=
  (within_any n a b w).mono fun _ _ ⟨he, hw⟩ => ⟨he.trans (ret_bool (decide_eq_false h)), hw⟩
set_option maxHeartbeats 400000 in
theorem l1In_any (n a b : Int) (w : World) :
    Calls Try.prog 115 #[.int .i64 n, .int .i64 a, .int .i64 b] w fun e w' => e = .returned (.bool (decide (a ≤ n ∧ n ≤ b))) ∧ w = w' := by
  by_cases h : a ≤ n
  · by_cases h1 : n ≤ b
    · go_enter Try.func115, Try.ntmps115
      go_wp2
      go_ret
      exact ⟨by simp [h, h1], rfl⟩
    · go_enter Try.func115, Try.ntmps115
      go_wp2
      go_ret
      exact ⟨by simp [h1], rfl⟩
  · go_enter Try.func115, Try.ntmps115
    go_wp2
    go_ret
    exact ⟨ret_bool (by simp; omega), rfl⟩

theorem l1In_yes (n a b : Int) (w : World) (h : a ≤ n) (h1 : n ≤ b) :
    Calls Try.prog 115 #[.int .i64 n, .int .i64 a, .int .i64 b] w fun e w' => e = .returned (.bool true) ∧ w = w' :=
  (l1In_any n a b w).mono fun _ _ ⟨he, hw⟩ => ⟨he.trans (ret_bool (by simp [h, h1])), hw⟩
theorem l1In_no (n a b : Int) (w : World) (h : ¬ (a ≤ n ∧ n ≤ b)) :
    Calls Try.prog 115 #[.int .i64 n, .int .i64 a, .int .i64 b] w fun e w' => e = .returned (.bool false) ∧ w = w' :=
  (l1In_any n a b w).mono fun _ _ ⟨he, hw⟩ => ⟨he.trans (ret_bool (decide_eq_false h)), hw⟩
theorem toNat_emod_lt (a b : Int) (hb : b ≠ 0) : (a.tmod b).natAbs < b.natAbs := by
  rw [Int.natAbs_tmod]; exact Nat.mod_lt _ (by omega)
theorem gcd_step (a b : Int) : Int.gcd b (a.tmod b) = Int.gcd a b := by
  unfold Int.gcd
  rw [Int.natAbs_tmod, Nat.gcd_comm b.natAbs, ← Nat.gcd_rec, Nat.gcd_comm]
theorem tmod_bd (a b : Int) (hb : b ≠ 0) (h0 : -4611686018427387904 ≤ b) (h1 : b ≤ 4611686018427387904) : -4611686018427387904 ≤ a.tmod b ∧ a.tmod b ≤ 4611686018427387904 := by
  have := toNat_emod_lt a b hb
  omega

set_option maxHeartbeats 1000000 in
theorem commonDivisor_any (a b : Int) (w : World) (ha : -4611686018427387904 ≤ a ∧ a ≤ 4611686018427387904) (hb : -4611686018427387904 ≤ b ∧ b ≤ 4611686018427387904) :
    Calls Try.prog 117 #[.int .i64 a, .int .i64 b] w fun e w' => e = .returned (.int .i64 (Int.gcd a b)) ∧ ∃ n, w' = w.drewN n := by
  obtain ⟨ha0, ha1⟩ := ha
  obtain ⟨hb0, hb1⟩ := hb
  go_enter Try.func117, Try.ntmps117
  go_wp2
  go_loopw [0, 1] (fun va vb wr => ∃ x y : Int, va = .int .i64 x ∧ vb = .int .i64 y ∧ -4611686018427387904 ≤ x ∧ x ≤ 4611686018427387904 ∧ -4611686018427387904 ≤ y ∧ y ≤ 4611686018427387904 ∧ Hid (Int.gcd x y = Int.gcd a b) ∧ ∃ n, wr = w.drewN n) (fun _ vb _ => (intOf vb).natAbs)
  case atStart => exact ⟨a, b, rfl, rfl, ha0, ha1, hb0, hb1, rfl, 0, rfl⟩
  case round =>
    obtain ⟨x, y, rfl, rfl, hx0, hx1, hy0, hy1, HG, nq, rfl⟩ := hrel
    by_cases hz : y = 0
    · subst hz
      have hG : (x.natAbs : Int) = (Int.gcd a b : Int) := by rw [← HG.out]; simp
      have HG' : Hid ((x.natAbs : Int) = (Int.gcd a b : Int)) := hG
      clear hG
      go_wp2
      all_goals
        go_ret
        exact ⟨ret_int (by rw [← HG'.out]; omega), nq, rfl⟩
    · have hb := tmod_bd x y hz hy0 hy1
      have hg := gcd_step x y
      have HG' : Hid (Int.gcd y (x.tmod y) = Int.gcd a b) := by rw [hg]; exact HG.out
      obtain ⟨hb0', hb1'⟩ := hb
      clear hg
      go_wp2_with fail
      go_quiet (fail)
      go_wp2
      go_roundw
      case rel => exact ⟨y, x.tmod y, rfl, rfl, hy0, hy1, hb0', hb1', HG', _, drewN_two _ _ _⟩
      case measure => simp [intOf]; exact Nat.mod_lt _ (by omega)

theorem below_drewN (w : World) (n : Nat) : Below w.heap.size w (w.drewN n) := ⟨rfl, rfl, rfl, Nat.le_refl _, fun _ _ => rfl⟩
theorem quiet_eq {P : Program} {f : FuncId} {args : Array Value} {w : World} {n : Nat} {v : Value}
    (h : Calls P f args (w.drewN n) fun e w' => e = .returned v ∧ w.drewN n = w') : Calls P f args (w.drewN n) fun e w'' => e = .returned v ∧ ∃ m, w'' = w.drewN m :=
  h.mono fun _ _ ⟨he, hm⟩ => ⟨he, n, hm.symm⟩
theorem commonDivisor_d (a b d : Int) (w : World) (hd : Hid ((Int.gcd a b : Int) = d)) (ha : -4611686018427387904 ≤ a ∧ a ≤ 4611686018427387904) (hb : -4611686018427387904 ≤ b ∧ b ≤ 4611686018427387904) :
    Calls Try.prog 117 #[.int .i64 a, .int .i64 b] w fun e w' => e = .returned (.int .i64 d) ∧ ∃ n, w' = w.drewN n := by
  have h := commonDivisor_any a b w ha hb
  rw [hd.out] at h
  exact h

theorem gcd_le (a b : Int) (hb : b ≠ 0) : (Int.gcd a b : Int) ≤ b.natAbs := by
  have := Int.gcd_le_natAbs_right (a := a) hb
  omega
theorem gcd_pos (a b : Int) (hb : b ≠ 0) : 0 < (Int.gcd a b : Int) := by
  have := Int.gcd_pos_of_ne_zero_right a hb
  omega
/-- The divisor of 'lowest', with the sign of b. -/
def lowD (a b : Int) : Int := if b < 0 then -(Int.gcd a b : Int) else (Int.gcd a b : Int)
def lowX (a b : Int) : Int := a.tdiv (lowD a b)
def lowY (a b : Int) : Int := b.tdiv (lowD a b)
def lowOk (a b : Int) : Bool := decide (-1000000000 ≤ lowX a b ∧ lowX a b ≤ 1000000000) && decide (lowY a b ≤ 1000000)
def lowN (a b : Int) : Int := if lowOk a b then lowX a b else 0
def lowM (a b : Int) : Int := if lowOk a b then lowY a b else 0
theorem tdiv_bd (a d B : Int) (_hB : 0 ≤ B) (h : -B ≤ a ∧ a ≤ B) : -B ≤ a.tdiv d ∧ a.tdiv d ≤ B := by
  have h1 : (a.tdiv d).natAbs ≤ a.natAbs := by rw [Int.natAbs_tdiv]; exact Nat.div_le_self _ _
  omega

set_option maxHeartbeats 1000000 in
theorem lowest_any (a b : Int) (w : World) (hb0 : b ≠ 0) (ha : -4000000000000000000 ≤ a ∧ a ≤ 4000000000000000000) (hb : -4000000000000000000 ≤ b ∧ b ≤ 4000000000000000000) :
    Calls Try.prog 104 #[.int .i64 a, .int .i64 b] w fun e w' => e = .returned (.tuple #[.agg #[.int .i64 (lowN a b), .int .i64 (lowM a b)], .bool (lowOk a b)]) ∧ Below w.heap.size w w' := by
  have hd0 := gcd_pos a b hb0
  have hdl := gcd_le a b hb0
  have hx := tdiv_bd a (lowD a b) 4000000000000000000 (by omega) ha
  have hy := tdiv_bd b (lowD a b) 4000000000000000000 (by omega) hb
  change _ ≤ lowX a b ∧ lowX a b ≤ _ at hx
  change _ ≤ lowY a b ∧ lowY a b ≤ _ at hy
  have hX : Hid (a.tdiv (lowD a b) = lowX a b) := rfl
  have hY : Hid (b.tdiv (lowD a b) = lowY a b) := rfl
  have hD : Hid (lowD a b = if b < 0 then -(Int.gcd a b : Int) else (Int.gcd a b : Int)) := rfl
  have hOk : Hid (lowOk a b = (decide (-1000000000 ≤ lowX a b ∧ lowX a b ≤ 1000000000) && decide (lowY a b ≤ 1000000))) := rfl
  have hN : Hid (lowN a b = if lowOk a b then lowX a b else 0) := rfl
  have hM : Hid (lowM a b = if lowOk a b then lowY a b else 0) := rfl
  generalize lowN a b = N at *
  generalize lowM a b = M at *
  generalize lowOk a b = O at *
  generalize lowX a b = X at *
  generalize lowY a b = Y at *
  generalize lowD a b = D at *
  have hg : Hid ((Int.gcd a b : Int) = (Int.gcd a b : Int)) := rfl
  obtain ⟨d, hd⟩ : ∃ d : Int, Hid ((Int.gcd a b : Int) = d) := ⟨_, rfl⟩
  have hd1 := hd.out
  rw [hd1] at hd0 hD hdl
  clear hd1 hg
  obtain ⟨hx0, hx1⟩ := hx
  obtain ⟨hy0, hy1⟩ := hy
  obtain ⟨ha0, ha1⟩ := ha
  obtain ⟨hbb0, hbb1⟩ := hb
  have hz : (D == 0) = false := by
    have h := hD.out
    simp only [beq_eq_false_iff_ne]
    split at h <;> omega
  have hz0 : ¬ D = 0 := by simpa using hz
  by_cases h1 : -1000000000 ≤ X ∧ X ≤ 1000000000
  · by_cases h2 : Y ≤ 1000000
    · have hO : O = true := by rw [hOk.out]; simp [h1, h2]
      subst hO
      have hN' : X = N := by rw [hN.out]; rfl
      have hM' : Y = M := by rw [hM.out]; rfl
      subst hN'; subst hM'
      by_cases hneg : b < 0
      · skip
        have hD' := hD.out.symm
        rw [if_pos hneg] at hD'
        subst hD'
        have ht1 : (a.tdiv (-d)) = X := hX.out
        have ht2 : (b.tdiv (-d)) = Y := hY.out
        go_enter Try.func104, Try.ntmps104
        go_wp2_with (go_at_call 117; refine (commonDivisor_d a b d _ hd ⟨by omega, by omega⟩ ⟨by omega, by omega⟩).mono ?_; rintro e w' ⟨rfl, nq, rfl⟩)
        go_quiet (fail)
        clear ht1 ht2
        go_wp2_with (go_at_call 114; refine (within_yes _ _ _ _ h1.1 h1.2).mono ?_; rintro e w' ⟨rfl, rfl⟩)
        exact bodyPost_ret (v := .tuple #[.agg #[.int .i64 X, .int .i64 Y], .bool true]) (by simp [results, Try.results104, go_sem]) rfl ⟨rfl, by (repeat (first | with_reducible exact Below.refl _ _ | with_reducible assumption | with_reducible refine Below.alloc' ?_ ?_ _ | with_reducible refine Below.setCell' ?_ ?_ _ | with_reducible refine Below.drewN' ?_ _ | with_reducible refine Below.drew ?_ | with_reducible refine Below.transA ?_ (by assumption) ?_ | omega | (focus (simp; done)) | (focus (simp; omega))))⟩
      · skip
        have hD' := hD.out.symm
        rw [if_neg hneg] at hD'
        subst hD'
        have ht1 : (a.tdiv (d)) = X := hX.out
        have ht2 : (b.tdiv (d)) = Y := hY.out
        go_enter Try.func104, Try.ntmps104
        go_wp2_with (go_at_call 117; refine (commonDivisor_d a b d _ hd ⟨by omega, by omega⟩ ⟨by omega, by omega⟩).mono ?_; rintro e w' ⟨rfl, nq, rfl⟩)
        go_quiet (fail)
        clear ht1 ht2
        go_wp2_with (go_at_call 114; refine (within_yes _ _ _ _ h1.1 h1.2).mono ?_; rintro e w' ⟨rfl, rfl⟩)
        exact bodyPost_ret (v := .tuple #[.agg #[.int .i64 X, .int .i64 Y], .bool true]) (by simp [results, Try.results104, go_sem]) rfl ⟨rfl, by (repeat (first | with_reducible exact Below.refl _ _ | with_reducible assumption | with_reducible refine Below.alloc' ?_ ?_ _ | with_reducible refine Below.setCell' ?_ ?_ _ | with_reducible refine Below.drewN' ?_ _ | with_reducible refine Below.drew ?_ | with_reducible refine Below.transA ?_ (by assumption) ?_ | omega | (focus (simp; done)) | (focus (simp; omega))))⟩
    · have hO : O = false := by rw [hOk.out]; simp [h2]
      subst hO
      have hN' : N = 0 := by rw [hN.out]; rfl
      have hM' : M = 0 := by rw [hM.out]; rfl
      subst hN'; subst hM'
      by_cases hneg : b < 0
      · skip
        have hD' := hD.out.symm
        rw [if_pos hneg] at hD'
        subst hD'
        have ht1 : (a.tdiv (-d)) = X := hX.out
        have ht2 : (b.tdiv (-d)) = Y := hY.out
        go_enter Try.func104, Try.ntmps104
        go_wp2_with (go_at_call 117; refine (commonDivisor_d a b d _ hd ⟨by omega, by omega⟩ ⟨by omega, by omega⟩).mono ?_; rintro e w' ⟨rfl, nq, rfl⟩)
        go_quiet (fail)
        clear ht1 ht2
        go_wp2_with (go_at_call 114; refine (within_yes _ _ _ _ h1.1 h1.2).mono ?_; rintro e w' ⟨rfl, rfl⟩)
        exact bodyPost_ret (v := .tuple #[.agg #[.int .i64 0, .int .i64 0], .bool false]) (by simp [results, Try.results104, go_sem]) rfl ⟨rfl, by (repeat (first | with_reducible exact Below.refl _ _ | with_reducible assumption | with_reducible refine Below.alloc' ?_ ?_ _ | with_reducible refine Below.setCell' ?_ ?_ _ | with_reducible refine Below.drewN' ?_ _ | with_reducible refine Below.drew ?_ | with_reducible refine Below.transA ?_ (by assumption) ?_ | omega | (focus (simp; done)) | (focus (simp; omega))))⟩
      · skip
        have hD' := hD.out.symm
        rw [if_neg hneg] at hD'
        subst hD'
        have ht1 : (a.tdiv (d)) = X := hX.out
        have ht2 : (b.tdiv (d)) = Y := hY.out
        go_enter Try.func104, Try.ntmps104
        go_wp2_with (go_at_call 117; refine (commonDivisor_d a b d _ hd ⟨by omega, by omega⟩ ⟨by omega, by omega⟩).mono ?_; rintro e w' ⟨rfl, nq, rfl⟩)
        go_quiet (fail)
        clear ht1 ht2
        go_wp2_with (go_at_call 114; refine (within_yes _ _ _ _ h1.1 h1.2).mono ?_; rintro e w' ⟨rfl, rfl⟩)
        exact bodyPost_ret (v := .tuple #[.agg #[.int .i64 0, .int .i64 0], .bool false]) (by simp [results, Try.results104, go_sem]) rfl ⟨rfl, by (repeat (first | with_reducible exact Below.refl _ _ | with_reducible assumption | with_reducible refine Below.alloc' ?_ ?_ _ | with_reducible refine Below.setCell' ?_ ?_ _ | with_reducible refine Below.drewN' ?_ _ | with_reducible refine Below.drew ?_ | with_reducible refine Below.transA ?_ (by assumption) ?_ | omega | (focus (simp; done)) | (focus (simp; omega))))⟩
  · have hO : O = false := by rw [hOk.out]; simp [h1]
    subst hO
    have hN' : N = 0 := by rw [hN.out]; rfl
    have hM' : M = 0 := by rw [hM.out]; rfl
    subst hN'; subst hM'
    by_cases hneg : b < 0
    · skip
      have hD' := hD.out.symm
      rw [if_pos hneg] at hD'
      subst hD'
      have ht1 : (a.tdiv (-d)) = X := hX.out
      have ht2 : (b.tdiv (-d)) = Y := hY.out
      go_enter Try.func104, Try.ntmps104
      go_wp2_with (go_at_call 117; refine (commonDivisor_d a b d _ hd ⟨by omega, by omega⟩ ⟨by omega, by omega⟩).mono ?_; rintro e w' ⟨rfl, nq, rfl⟩)
      go_quiet (fail)
      clear ht1 ht2
      go_wp2_with (go_at_call 114; refine (within_no _ _ _ _ h1).mono ?_; rintro e w' ⟨rfl, rfl⟩)
      exact bodyPost_ret (v := .tuple #[.agg #[.int .i64 0, .int .i64 0], .bool false]) (by simp [results, Try.results104, go_sem]) rfl ⟨rfl, by (repeat (first | with_reducible exact Below.refl _ _ | with_reducible assumption | with_reducible refine Below.alloc' ?_ ?_ _ | with_reducible refine Below.setCell' ?_ ?_ _ | with_reducible refine Below.drewN' ?_ _ | with_reducible refine Below.drew ?_ | with_reducible refine Below.transA ?_ (by assumption) ?_ | omega | (focus (simp; done)) | (focus (simp; omega))))⟩
    · skip
      have hD' := hD.out.symm
      rw [if_neg hneg] at hD'
      subst hD'
      have ht1 : (a.tdiv (d)) = X := hX.out
      have ht2 : (b.tdiv (d)) = Y := hY.out
      go_enter Try.func104, Try.ntmps104
      go_wp2_with (go_at_call 117; refine (commonDivisor_d a b d _ hd ⟨by omega, by omega⟩ ⟨by omega, by omega⟩).mono ?_; rintro e w' ⟨rfl, nq, rfl⟩)
      go_quiet (fail)
      clear ht1 ht2
      go_wp2_with (go_at_call 114; refine (within_no _ _ _ _ h1).mono ?_; rintro e w' ⟨rfl, rfl⟩)
      exact bodyPost_ret (v := .tuple #[.agg #[.int .i64 0, .int .i64 0], .bool false]) (by simp [results, Try.results104, go_sem]) rfl ⟨rfl, by (repeat (first | with_reducible exact Below.refl _ _ | with_reducible assumption | with_reducible refine Below.alloc' ?_ ?_ _ | with_reducible refine Below.setCell' ?_ ?_ _ | with_reducible refine Below.drewN' ?_ _ | with_reducible refine Below.drew ?_ | with_reducible refine Below.transA ?_ (by assumption) ?_ | omega | (focus (simp; done)) | (focus (simp; omega))))⟩


def Frac (a b : Int) : Prop := -1000000000 ≤ a ∧ a ≤ 1000000000 ∧ 1 ≤ b ∧ b ≤ 1000000 ∧ Int.gcd a b = 1
instance (a b : Int) : Decidable (Frac a b) := by unfold Frac; infer_instance
def isFrac (a b : Int) : Bool := decide (Frac a b)

set_option maxHeartbeats 1000000 in
theorem IsFraction_any (a b : Int) (w : World) :
    Calls Try.prog 45 #[.agg #[.int .i64 a, .int .i64 b]] w fun e w' => e = .returned (.bool (isFrac a b)) ∧ Below w.heap.size w w' := by
  by_cases h1 : -1000000000 ≤ a ∧ a ≤ 1000000000
  · obtain ⟨h10, h11⟩ := h1
    by_cases h2 : 1 ≤ b ∧ b ≤ 1000000
    · obtain ⟨h20, h21⟩ := h2
      by_cases h3 : Int.gcd a b = 1
      · have hv : isFrac a b = true := by simp [isFrac, Frac, h10, h11, h20, h21, h3]
        rw [hv]
        have hd : Hid ((Int.gcd a b : Int) = 1) := by show (_ : Int) = _; omega
        clear hv h3
        go_enter Try.func45, Try.ntmps45
        go_wp2_with (first | (go_at_call 114; refine (within_yes _ _ _ _ (by omega) (by omega)).mono ?_; rintro e w' ⟨rfl, rfl⟩) | (go_at_call 117; refine (commonDivisor_d a b 1 _ hd (by omega) (by omega)).mono ?_; rintro e w' ⟨rfl, nq, rfl⟩))
        go_ret
        exact ⟨rfl, by (repeat (first | with_reducible exact Below.refl _ _ | with_reducible assumption | with_reducible refine Below.alloc' ?_ ?_ _ | with_reducible refine Below.setCell' ?_ ?_ _ | with_reducible refine Below.drewN' ?_ _ | with_reducible refine Below.drew ?_ | with_reducible refine Below.transA ?_ (by assumption) ?_ | omega | (focus (simp; done)) | (focus (simp; omega))))⟩
      · have hv : isFrac a b = false := by simp [isFrac, Frac, h3]
        rw [hv]
        obtain ⟨d, hd⟩ : ∃ d : Int, Hid ((Int.gcd a b : Int) = d) := ⟨_, rfl⟩
        have hd1 : (d == 1) = false := by have := hd.out; simp; omega
        clear hv h3
        go_enter Try.func45, Try.ntmps45
        go_wp2_with (first | (go_at_call 114; refine (within_yes _ _ _ _ (by omega) (by omega)).mono ?_; rintro e w' ⟨rfl, rfl⟩) | (go_at_call 117; refine (commonDivisor_d a b d _ hd (by omega) (by omega)).mono ?_; rintro e w' ⟨rfl, nq, rfl⟩))
        go_ret
        exact ⟨rfl, by (repeat (first | with_reducible exact Below.refl _ _ | with_reducible assumption | with_reducible refine Below.alloc' ?_ ?_ _ | with_reducible refine Below.setCell' ?_ ?_ _ | with_reducible refine Below.drewN' ?_ _ | with_reducible refine Below.drew ?_ | with_reducible refine Below.transA ?_ (by assumption) ?_ | omega | (focus (simp; done)) | (focus (simp; omega))))⟩
    · have hv : isFrac a b = false := decide_eq_false (by unfold Frac; omega)
      rw [hv]
      clear hv
      go_enter Try.func45, Try.ntmps45
      go_wp2_with (first | (go_at_call 114; refine (within_yes _ _ _ _ (by omega) (by omega)).mono ?_; rintro e w' ⟨rfl, rfl⟩) | (go_at_call 114; refine (within_no _ _ _ _ (by omega)).mono ?_; rintro e w' ⟨rfl, rfl⟩))
      go_ret
      exact ⟨rfl, by (repeat (first | with_reducible exact Below.refl _ _ | with_reducible assumption | with_reducible refine Below.alloc' ?_ ?_ _ | with_reducible refine Below.setCell' ?_ ?_ _ | with_reducible refine Below.drewN' ?_ _ | with_reducible refine Below.drew ?_ | with_reducible refine Below.transA ?_ (by assumption) ?_ | omega | (focus (simp; done)) | (focus (simp; omega))))⟩
  · have hv : isFrac a b = false := decide_eq_false (by unfold Frac; omega)
    rw [hv]
    clear hv
    go_enter Try.func45, Try.ntmps45
    go_wp2_with (first | (go_at_call 114; refine (within_no _ _ _ _ (by omega)).mono ?_; rintro e w' ⟨rfl, rfl⟩))
    go_ret
    exact ⟨rfl, by (repeat (first | with_reducible exact Below.refl _ _ | with_reducible assumption | with_reducible refine Below.alloc' ?_ ?_ _ | with_reducible refine Below.setCell' ?_ ?_ _ | with_reducible refine Below.drewN' ?_ _ | with_reducible refine Below.drew ?_ | with_reducible refine Below.transA ?_ (by assumption) ?_ | omega | (focus (simp; done)) | (focus (simp; omega))))⟩

theorem l1Most_any (a b : Int) (w : World) :
    Calls Try.prog 153 #[.int .i64 a, .int .i64 b] w fun e w' => e = .returned (.int .i64 (max a b)) ∧ w = w' := by
  by_cases h : b < a
  · go_enter Try.func153, Try.ntmps153
    go_wp2
    go_ret
    exact ⟨ret_int (by omega), rfl⟩
  · go_enter Try.func153, Try.ntmps153
    go_wp2
    go_ret
    exact ⟨ret_int (by omega), rfl⟩
theorem l2Abs_any (a : Int) (w : World) (ha : -9000000000000000000 ≤ a ∧ a ≤ 9000000000000000000) :
    Calls Try.prog 148 #[.int .i64 a] w fun e w' => e = .returned (.int .i64 (a.natAbs : Int)) ∧ w = w' := by
  obtain ⟨h0, h1⟩ := ha
  go_enter Try.func148, Try.ntmps148
  go_wp2_with (go_at_call 153; refine (l1Most_any _ _ _).mono ?_; rintro e w' ⟨rfl, rfl⟩)
  go_ret
  exact ⟨ret_int (by omega), rfl⟩
set_option maxHeartbeats 1000000 in
theorem l2Gcd_any (a b : Int) (w : World) (ha : 0 ≤ a ∧ a ≤ 9000000000000000000) (hb : 0 ≤ b ∧ b ≤ 9000000000000000000) :
    Calls Try.prog 147 #[.int .i64 a, .int .i64 b] w fun e w' => e = .returned (.int .i64 (Int.gcd a b)) ∧ ∃ n, w' = w.drewN n := by
  obtain ⟨ha0, ha1⟩ := ha
  obtain ⟨hb0, hb1⟩ := hb
  go_enter Try.func147, Try.ntmps147
  go_wp2
  go_loopw [0, 1] (fun va vb wr => ∃ x y : Int, va = .int .i64 x ∧ vb = .int .i64 y ∧ 0 ≤ x ∧ x ≤ 9000000000000000000 ∧ 0 ≤ y ∧ y ≤ 9000000000000000000 ∧ Hid (Int.gcd x y = Int.gcd a b) ∧ ∃ n, wr = w.drewN n) (fun _ vb _ => (intOf vb).toNat)
  case atStart => exact ⟨a, b, rfl, rfl, ha0, ha1, hb0, hb1, rfl, 0, rfl⟩
  case round =>
    obtain ⟨x, y, rfl, rfl, hx0, hx1, hy0, hy1, HG, nq, rfl⟩ := hrel
    by_cases hz : y = 0
    · subst hz
      have hG : x = (Int.gcd a b : Int) := by rw [← HG.out]; simp; omega
      have HG' : Hid (x = (Int.gcd a b : Int)) := hG
      clear hG
      go_wp2
      go_ret
      exact ⟨ret_int HG'.out, nq, rfl⟩
    · have hm0 : 0 ≤ x % y := Int.emod_nonneg _ hz
      have hm1 : x % y < y := Int.emod_lt_of_pos _ (by omega)
      have HG' : Hid (Int.gcd y (x % y) = Int.gcd a b) := by
        have := gcd_step x y
        rw [Int.tmod_eq_emod_of_nonneg hx0] at this
        exact this.trans HG.out
      go_wp2_with fail
      go_quiet (fail)
      go_wp2
      go_roundw
      case rel => exact ⟨y, x % y, rfl, rfl, hy0, hy1, by omega, by omega, HG', _, drewN_two _ _ _⟩
      case measure => simp [intOf]; omega
end Go.Proofs.Ytombfbmcplefgaa
