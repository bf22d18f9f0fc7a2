/- Contracts of the functions on fractions: the reference's, and the statements' helpers. -/
import Derived.Deep.RegionHeld3
import Derived.RegionTactic
import Derived.ChangeAlike
import Derived.Test.YtombfbmcplefgaaMgMn2
namespace Go.Proofs.Ytombfbmcplefgaa
open Go.ChangeShapes Go.WideShapes Go.ChangeAt Go.RowKit

theorem l2Gcd_d (a b d : Int) (w : World) (hd : Hid ((Int.gcd a b : Int) = d)) (ha : 0 ≤ a ∧ a ≤ 9000000000000000000) (hb : 0 ≤ b ∧ b ≤ 9000000000000000000) :
    Calls Try.prog 147 #[.int .i64 a, .int .i64 b] w fun e w' => e = .returned (.int .i64 d) ∧ ∃ n, w' = w.drewN n := by
  have h := l2Gcd_any a b w ha hb
  rw [hd.out] at h
  exact h

set_option maxHeartbeats 1000000 in
theorem l2Frac_any (a b : Int) (w : World) :
    Calls Try.prog 102 #[.agg #[.int .i64 a, .int .i64 b]] w fun e w' => e = .returned (.bool (isFrac a b)) ∧ Below w.heap.size w w' := by
  by_cases h1 : -1000000000 ≤ a ∧ a ≤ 1000000000
  · obtain ⟨h10, h11⟩ := h1
    by_cases h2 : 1 ≤ b ∧ b ≤ 1000000
    · obtain ⟨h20, h21⟩ := h2
      by_cases h3 : Int.gcd a b = 1
      · have hv : isFrac a b = true := by simp [isFrac, Frac, h10, h11, h20, h21, h3]
        rw [hv]
        have hd : Hid ((Int.gcd (a.natAbs : Int) b : Int) = 1) := by show (_ : Int) = _; simp [Int.gcd] at h3 ⊢; omega
        clear hv h3
        go_enter Try.func102, Try.ntmps102
        go_wp2_with fail
        go_quiet (first | (go_at_call 115; exact quiet_eq (l1In_yes _ _ _ _ (by omega) (by omega))) | (go_at_call 148; exact quiet_eq (l2Abs_any a _ (by omega))) | (go_at_call 147; exact Calls.quiet_of (l2Gcd_d _ b 1 _ hd (by omega) (by omega))))
        go_wp2
        go_ret
        exact ⟨rfl, by (repeat (first | with_reducible exact Below.refl _ _ | with_reducible assumption | with_reducible refine Below.alloc' ?_ ?_ _ | with_reducible refine Below.setCell' ?_ ?_ _ | with_reducible refine Below.drewN' ?_ _ | with_reducible refine Below.drew ?_ | with_reducible refine Below.transA ?_ (by assumption) ?_ | omega | (focus (simp; done)) | (focus (simp; omega))))⟩
      · have hv : isFrac a b = false := by simp [isFrac, Frac, h3]
        rw [hv]
        obtain ⟨d, hd⟩ : ∃ d : Int, Hid ((Int.gcd (a.natAbs : Int) b : Int) = d) := ⟨_, rfl⟩
        have hd1 : (d == 1) = false := by have := hd.out; simp [Int.gcd] at h3 this ⊢; omega
        clear hv h3
        go_enter Try.func102, Try.ntmps102
        go_wp2_with fail
        go_quiet (first | (go_at_call 115; exact quiet_eq (l1In_yes _ _ _ _ (by omega) (by omega))) | (go_at_call 115; exact quiet_eq (l1In_no _ _ _ _ (by omega))) | (go_at_call 148; exact quiet_eq (l2Abs_any a _ (by omega))) | (go_at_call 147; exact Calls.quiet_of (l2Gcd_d _ b d _ hd (by omega) (by omega))))
        go_wp2
        go_ret
        exact ⟨rfl, by (repeat (first | with_reducible exact Below.refl _ _ | with_reducible assumption | with_reducible refine Below.alloc' ?_ ?_ _ | with_reducible refine Below.setCell' ?_ ?_ _ | with_reducible refine Below.drewN' ?_ _ | with_reducible refine Below.drew ?_ | with_reducible refine Below.transA ?_ (by assumption) ?_ | omega | (focus (simp; done)) | (focus (simp; omega))))⟩
    · have hv : isFrac a b = false := decide_eq_false (by unfold Frac; omega)
      rw [hv]
      clear hv
      go_enter Try.func102, Try.ntmps102
      go_wp2_with fail
      go_quiet (first | (go_at_call 115; exact quiet_eq (l1In_yes _ _ _ _ (by omega) (by omega))) | (go_at_call 115; exact quiet_eq (l1In_no _ _ _ _ (by omega))))
      go_wp2
      go_ret
      exact ⟨rfl, by (repeat (first | with_reducible exact Below.refl _ _ | with_reducible assumption | with_reducible refine Below.alloc' ?_ ?_ _ | with_reducible refine Below.setCell' ?_ ?_ _ | with_reducible refine Below.drewN' ?_ _ | with_reducible refine Below.drew ?_ | with_reducible refine Below.transA ?_ (by assumption) ?_ | omega | (focus (simp; done)) | (focus (simp; omega))))⟩
  · have hv : isFrac a b = false := decide_eq_false (by unfold Frac; omega)
    rw [hv]
    clear hv
    go_enter Try.func102, Try.ntmps102
    go_wp2_with fail
    go_quiet (first | (go_at_call 115; exact quiet_eq (l1In_no _ _ _ _ (by omega))))
    go_wp2
    go_ret
    exact ⟨rfl, by (repeat (first | with_reducible exact Below.refl _ _ | with_reducible assumption | with_reducible refine Below.alloc' ?_ ?_ _ | with_reducible refine Below.setCell' ?_ ?_ _ | with_reducible refine Below.drewN' ?_ _ | with_reducible refine Below.drew ?_ | with_reducible refine Below.transA ?_ (by assumption) ?_ | omega | (focus (simp; done)) | (focus (simp; omega))))⟩

theorem set2_new (w : World) (t : TypeId) (a b x y : Value) (n : Nat) :
    (((w.alloc (.cells #[a, b] t)).drewN n).setCell ⟨w.heap.size, 0, none⟩ x).setCell ⟨w.heap.size, 1, none⟩ y = (w.alloc (.cells #[x, y] t)).drewN n := by
  have h : ∀ (W : World) (a : Addr) (v : Value), (W.drewN n).setCell a v = (W.setCell a v).drewN n := fun _ _ _ => rfl
  rw [h, h, World.setCell_alloc_at _ _ _ _ _ rfl, World.setCell_alloc_at _ _ _ _ _ rfl]
  rfl
set_option maxHeartbeats 1000000 in
theorem l2Cut_exact (a b : Int) (w : World) (hb0 : 0 < b) (ha : -4000000000000000000 ≤ a ∧ a ≤ 4000000000000000000) (hb : b ≤ 4000000000000000000) :
    Calls Try.prog 116 #[.int .i64 a, .int .i64 b] w fun e w' => e = .returned (.agg #[.int .i64 (lowX a b), .int .i64 (lowY a b)]) ∧ ∃ n, w' = (w.alloc (.cells #[.int .i64 (lowX a b), .int .i64 (lowY a b)] 51)).drewN n := by
  have hd0 := gcd_pos a b (by omega)
  have hdl := gcd_le a b (by omega)
  have hx := tdiv_bd a (lowD a b) 4000000000000000000 (by omega) ha
  have hy := tdiv_bd b (lowD a b) 4000000000000000000 (by omega) ⟨by omega, hb⟩
  rw [lowD_of_pos a b hb0] at hx hy
  have hX : Hid (a.tdiv (Int.gcd a b) = lowX a b) := by unfold lowX; rw [lowD_of_pos a b hb0]; rfl
  have hY : Hid (b.tdiv (Int.gcd a b) = lowY a b) := by unfold lowY; rw [lowD_of_pos a b hb0]; rfl
  generalize lowX a b = X at *
  generalize lowY a b = Y at *
  have hg : Hid ((Int.gcd (a.natAbs : Int) b : Int) = (Int.gcd a b : Int)) := by show (_ : Int) = _; simp [Int.gcd]
  generalize (Int.gcd a b : Int) = d at *
  have hX' : a.tdiv d = X := hX.out
  have hY' : b.tdiv d = Y := hY.out
  rw [hX'] at hx
  rw [hY'] at hy
  obtain ⟨hx0, hx1⟩ := hx
  obtain ⟨hy0, hy1⟩ := hy
  obtain ⟨ha0, ha1⟩ := ha
  have hz : (d == 0) = false := by simp; omega
  have hz0 : ¬ d = 0 := by omega
  go_enter Try.func116, Try.ntmps116
  go_wp2_with (first | (go_at_call 148; refine (l2Abs_any a _ (by omega)).mono ?_; rintro e w' ⟨rfl, rfl⟩) | (go_at_call 147; refine (l2Gcd_d _ b d _ hg (by omega) (by omega)).mono ?_; rintro e w' ⟨rfl, nq, rfl⟩))
  go_region
  all_goals
    go_wp2
    exact bodyPost_ret (v := .agg #[.int .i64 X, .int .i64 Y]) (by simp [results, Try.results116, go_sem]) rfl ⟨rfl, nq + 1, set2_new w _ _ _ _ _ _⟩

theorem l2Cut_any (a b : Int) (w : World) (hb0 : 0 < b) (ha : -4000000000000000000 ≤ a ∧ a ≤ 4000000000000000000) (hb : b ≤ 4000000000000000000) :
    Calls Try.prog 116 #[.int .i64 a, .int .i64 b] w fun e w' => e = .returned (.agg #[.int .i64 (lowX a b), .int .i64 (lowY a b)]) ∧ Below w.heap.size w w' :=
  (l2Cut_exact a b w hb0 ha hb).mono fun _ _ ⟨he, n, hw⟩ => ⟨he, by rw [hw]; exact Below.drewN' ((Below.refl _ _).alloc (Nat.le_refl _) _) n⟩

set_option maxHeartbeats 1000000 in
theorem l2Kept_any (a b : Int) (w : World) :
    Calls Try.prog 108 #[.agg #[.int .i64 a, .int .i64 b]] w fun e w' => e = .returned (.tuple #[.agg #[.int .i64 (if isFrac a b then a else 0), .int .i64 (if isFrac a b then b else 0)], .bool (isFrac a b)]) ∧ Below w.heap.size w w' := by
  cases hf : isFrac a b
  · have hf' : ∀ W, Calls Try.prog 102 #[.agg #[.int .i64 a, .int .i64 b]] W fun e w' => e = .returned (.bool false) ∧ Below W.heap.size W w' := fun W => by
      have := l2Frac_any a b W
      rw [hf] at this
      exact this
    have HF := Lib.hid hf'
    clear hf' hf
    go_enter Try.func108, Try.ntmps108
    go_wp2_with (go_at_call 102; refine (HF.out _).mono ?_; rintro e w1 ⟨rfl, hb⟩; (obtain ⟨hc, hf, hz⟩ := bcell hb; have hy := hb.size; (try simp at hz); (try simp at hy); (try simp at hc); (try simp at hf)))
    refine bodyPost_ret (v := .tuple #[.agg #[.int .i64 0, .int .i64 0], .bool false]) (by simp [results, Try.results108, go_sem, hc]) rfl ⟨by simp, ?_⟩
    (repeat (first | with_reducible exact Below.refl _ _ | with_reducible assumption | with_reducible refine Below.alloc' ?_ ?_ _ | with_reducible refine Below.setCell' ?_ ?_ _ | with_reducible refine Below.drewN' ?_ _ | with_reducible refine Below.drew ?_ | with_reducible refine Below.transA ?_ (by assumption) ?_ | omega | (focus (simp; done)) | (focus (simp; omega))))
  · have hf' : ∀ W, Calls Try.prog 102 #[.agg #[.int .i64 a, .int .i64 b]] W fun e w' => e = .returned (.bool true) ∧ Below W.heap.size W w' := fun W => by
      have := l2Frac_any a b W
      rw [hf] at this
      exact this
    have HF := Lib.hid hf'
    clear hf' hf
    go_enter Try.func108, Try.ntmps108
    go_wp2_with (go_at_call 102; refine (HF.out _).mono ?_; rintro e w1 ⟨rfl, hb⟩; (obtain ⟨hc, hf, hz⟩ := bcell hb; have hy := hb.size; (try simp at hz); (try simp at hy); (try simp at hc); (try simp at hf)))
    refine bodyPost_ret (v := .tuple #[.agg #[.int .i64 a, .int .i64 b], .bool true]) (by simp [results, Try.results108, go_sem, hc]) rfl ⟨by simp, ?_⟩
    (repeat (first | with_reducible exact Below.refl _ _ | with_reducible assumption | with_reducible refine Below.alloc' ?_ ?_ _ | with_reducible refine Below.setCell' ?_ ?_ _ | with_reducible refine Below.drewN' ?_ _ | with_reducible refine Below.drew ?_ | with_reducible refine Below.transA ?_ (by assumption) ?_ | omega | (focus (simp; done)) | (focus (simp; omega))))

set_option maxHeartbeats 1000000 in
theorem eqIntA2_yes (a b : Int) (w : World) :
    Calls Try.prog 105 #[.agg #[.int .i64 a, .int .i64 b], .agg #[.int .i64 a, .int .i64 b]] w fun e w' => e = .returned (.bool true) ∧ Below w.heap.size w w' := by
  go_enter Try.func105, Try.ntmps105
  go_wp2
  refine wp_loop_rounds 3 ?_
  rw [rounds_succ]
  go_wp2_with fail
  go_quiet (fail)
  go_wp2
  rw [rounds_succ]
  go_wp2_with fail
  go_quiet (fail)
  go_wp2
  rw [rounds_succ]
  go_wp2
  go_ret
  exact ⟨rfl, by (repeat (first | with_reducible exact Below.refl _ _ | with_reducible assumption | with_reducible refine Below.alloc' ?_ ?_ _ | with_reducible refine Below.setCell' ?_ ?_ _ | with_reducible refine Below.drewN' ?_ _ | with_reducible refine Below.drew ?_ | with_reducible refine Below.transA ?_ (by assumption) ?_ | omega | (focus (simp; done)) | (focus (simp; omega))))⟩

def FracV (a b : Int) (ok : Bool) : Value := .tuple #[.agg #[.int .i64 a, .int .i64 b], .bool ok]
/-- What FractionOf hands back. -/
def foIn (a b : Int) : Prop := b ≠ 0 ∧ (-1000000000 ≤ a ∧ a ≤ 1000000000) ∧ (-1000000000 ≤ b ∧ b ≤ 1000000000)
instance (a b : Int) : Decidable (foIn a b) := by unfold foIn; infer_instance
def foOk (a b : Int) : Bool := decide (foIn a b) && lowOk a b
def foN (a b : Int) : Int := if foOk a b then lowX a b else 0
def foM (a b : Int) : Int := if foOk a b then lowY a b else 0
theorem fo_out {a b : Int} (h : ¬ foIn a b) : foOk a b = false ∧ foN a b = 0 ∧ foM a b = 0 := by
  have h0 : foOk a b = false := by unfold foOk; rw [decide_eq_false h]; rfl
  exact ⟨h0, by unfold foN; rw [h0]; rfl, by unfold foM; rw [h0]; rfl⟩
theorem fo_in {a b : Int} (h : foIn a b) : foOk a b = lowOk a b ∧ foN a b = lowN a b ∧ foM a b = lowM a b := by
  have h0 : foOk a b = lowOk a b := by unfold foOk; rw [decide_eq_true h]; rfl
  exact ⟨h0, by unfold foN lowN; rw [h0], by unfold foM lowM; rw [h0]⟩

set_option maxHeartbeats 1000000 in
theorem implFractionOf_any (a b : Int) (w : World) (ha : -9223372036854775808 ≤ a ∧ a ≤ 9223372036854775807) (hb : -9223372036854775808 ≤ b ∧ b ≤ 9223372036854775807) :
    Calls Try.prog 43 #[.int .i64 a, .int .i64 b] w fun e w' => e = .returned (FracV (foN a b) (foM a b) (foOk a b)) ∧ Below w.heap.size w w' := by
  by_cases h : foIn a b
  · obtain ⟨e1, e2, e3⟩ := fo_in h
    rw [e1, e2, e3]
    obtain ⟨h0, h1, h2⟩ := h
    clear e1 e2 e3
    have hl := fun W => lowest_any a b W h0 (by omega) (by omega)
    generalize lowN a b = N at *
    generalize lowM a b = M at *
    generalize lowOk a b = O at *
    have HL := Lib.hid hl
    clear hl
    have hz : (b == 0) = false := by simpa using h0
    go_enter Try.func43, Try.ntmps43
    go_wp2_with (first | (go_at_call 114; refine (within_yes _ _ _ _ (by omega) (by omega)).mono ?_; rintro e w' ⟨rfl, rfl⟩) | (go_at_call 104; refine (HL.out _).mono ?_; rintro e w1 ⟨rfl, hb⟩; (obtain ⟨hc, hf, hz⟩ := bcell hb; have hy := hb.size; (try simp at hz); (try simp at hy); (try simp at hc); (try simp at hf))))
    refine bodyPost_ret (v := .tuple #[.agg #[.int .i64 N, .int .i64 M], .bool O]) (by simp [results, Try.results43, go_sem, hc]) rfl ⟨rfl, ?_⟩
    (repeat (first | with_reducible exact Below.refl _ _ | with_reducible assumption | with_reducible refine Below.alloc' ?_ ?_ _ | with_reducible refine Below.setCell' ?_ ?_ _ | with_reducible refine Below.drewN' ?_ _ | with_reducible refine Below.drew ?_ | with_reducible refine Below.transA ?_ (by assumption) ?_ | omega | (focus (simp; done)) | (focus (simp; omega))))
  · obtain ⟨e1, e2, e3⟩ := fo_out h
    rw [e1, e2, e3]
    clear e1 e2 e3
    by_cases hz : b = 0
    · subst hz
      clear h
      go_enter Try.func43, Try.ntmps43
      go_wp2
      refine bodyPost_ret (v := .tuple #[.agg #[.int .i64 0, .int .i64 0], .bool false]) (by simp [results, Try.results43, go_sem]) rfl ⟨rfl, ?_⟩
      (repeat (first | with_reducible exact Below.refl _ _ | with_reducible assumption | with_reducible refine Below.alloc' ?_ ?_ _ | with_reducible refine Below.setCell' ?_ ?_ _ | with_reducible refine Below.drewN' ?_ _ | with_reducible refine Below.drew ?_ | with_reducible refine Below.transA ?_ (by assumption) ?_ | omega | (focus (simp; done)) | (focus (simp; omega))))
    · have hz' : (b == 0) = false := by simpa using hz
      by_cases h1 : -1000000000 ≤ a ∧ a ≤ 1000000000
      · have h2 : ¬ (-1000000000 ≤ b ∧ b ≤ 1000000000) := fun h2 => h ⟨hz, h1, h2⟩
        clear h
        go_enter Try.func43, Try.ntmps43
        go_wp2_with (first | (go_at_call 114; refine (within_yes _ _ _ _ (by omega) (by omega)).mono ?_; rintro e w' ⟨rfl, rfl⟩) | (go_at_call 114; refine (within_no _ _ _ _ (by omega)).mono ?_; rintro e w' ⟨rfl, rfl⟩))
        refine bodyPost_ret (v := .tuple #[.agg #[.int .i64 0, .int .i64 0], .bool false]) (by simp [results, Try.results43, go_sem]) rfl ⟨rfl, ?_⟩
        (repeat (first | with_reducible exact Below.refl _ _ | with_reducible assumption | with_reducible refine Below.alloc' ?_ ?_ _ | with_reducible refine Below.setCell' ?_ ?_ _ | with_reducible refine Below.drewN' ?_ _ | with_reducible refine Below.drew ?_ | with_reducible refine Below.transA ?_ (by assumption) ?_ | omega | (focus (simp; done)) | (focus (simp; omega))))
      · clear h
        go_enter Try.func43, Try.ntmps43
        go_wp2_with (first | (go_at_call 114; refine (within_no _ _ _ _ (by omega)).mono ?_; rintro e w' ⟨rfl, rfl⟩))
        refine bodyPost_ret (v := .tuple #[.agg #[.int .i64 0, .int .i64 0], .bool false]) (by simp [results, Try.results43, go_sem]) rfl ⟨rfl, ?_⟩
        (repeat (first | with_reducible exact Below.refl _ _ | with_reducible assumption | with_reducible refine Below.alloc' ?_ ?_ _ | with_reducible refine Below.setCell' ?_ ?_ _ | with_reducible refine Below.drewN' ?_ _ | with_reducible refine Below.drew ?_ | with_reducible refine Below.transA ?_ (by assumption) ?_ | omega | (focus (simp; done)) | (focus (simp; omega))))

theorem kept_low (a b : Int) (hb : b ≠ 0) : isFrac (lowX a b) (lowY a b) = lowOk a b ∧ (if isFrac (lowX a b) (lowY a b) = true then lowX a b else 0) = lowN a b ∧ (if isFrac (lowX a b) (lowY a b) = true then lowY a b else 0) = lowM a b := by
  have h := isFrac_low a b hb
  rw [h]
  exact ⟨rfl, rfl, rfl⟩
/-- l2Kept at l2Cut's result. -/
theorem l2Kept_low (a b : Int) (w : World) (hb : b ≠ 0) :
    Calls Try.prog 108 #[.agg #[.int .i64 (lowX a b), .int .i64 (lowY a b)]] w fun e w' => e = .returned (.tuple #[.agg #[.int .i64 (lowN a b), .int .i64 (lowM a b)], .bool (lowOk a b)]) ∧ Below w.heap.size w w' := by
  have h := l2Kept_any (lowX a b) (lowY a b) w
  obtain ⟨h1, h2, h3⟩ := kept_low a b hb
  rw [h2, h3, h1] at h
  exact h

set_option maxHeartbeats 1000000 in
theorem specFractionOf_any (a b : Int) (w : World) (ha : -9223372036854775808 ≤ a ∧ a ≤ 9223372036854775807) (hb : -9223372036854775808 ≤ b ∧ b ≤ 9223372036854775807) :
    Calls Try.prog 44 #[.int .i64 a, .int .i64 b] w fun e w' => e = .returned (FracV (foN a b) (foM a b) (foOk a b)) ∧ Below w.heap.size w w' := by
  by_cases h : foIn a b
  · obtain ⟨e1, e2, e3⟩ := fo_in h
    rw [e1, e2, e3]
    obtain ⟨h0, h1, h2⟩ := h
    clear e1 e2 e3
    have hz : (b == 0) = false := by simpa using h0
    by_cases hn : b < 0
    · obtain ⟨q1, q2, q3⟩ := lowOk_congr (low_neg a b h0)
      have hk := fun W => l2Kept_low (-a) (-b) W (by omega)
      rw [q1, q2, q3] at hk
      have hl := fun W => l2Cut_any (-a) (-b) W (by omega) (by omega) (by omega)
      clear q1 q2 q3
      generalize lowN a b = N at *
      generalize lowM a b = M at *
      generalize lowOk a b = O at *
      generalize lowX (-a) (-b) = X at *
      generalize lowY (-a) (-b) = Y at *
      have HK := Lib.hid hk
      have HL := Lib.hid hl
      clear hl hk
      go_enter Try.func44, Try.ntmps44
      go_wp2_with (first | (go_at_call 115; refine (l1In_yes _ _ _ _ (by omega) (by omega)).mono ?_; rintro e w' ⟨rfl, rfl⟩) | (go_at_call 116; refine (HL.out _).mono ?_; rintro e w1 ⟨rfl, hb1⟩; (obtain ⟨hc1, hf1, hz1⟩ := bcell hb1; have hy1 := hb1.size; (try simp at hz1); (try simp at hy1); (try simp at hc1); (try simp at hf1))) | (go_at_call 108; refine (HK.out _).mono ?_; rintro e w2 ⟨rfl, hb2⟩; (obtain ⟨hc2, hf2, hz2⟩ := bcell hb2; have hy2 := hb2.size; (try simp at hz2); (try simp at hy2); (try simp at hc2); (try simp at hf2))))
      refine bodyPost_ret (v := .tuple #[.agg #[.int .i64 N, .int .i64 M], .bool O]) (by simp (maxDischargeDepth := 9) [results, Try.results44, go_sem, *]) rfl ⟨rfl, ?_⟩
      (repeat (first | with_reducible exact Below.refl _ _ | with_reducible assumption | with_reducible refine Below.alloc' ?_ ?_ _ | with_reducible refine Below.setCell' ?_ ?_ _ | with_reducible refine Below.drewN' ?_ _ | with_reducible refine Below.drew ?_ | with_reducible refine Below.transA ?_ (by assumption) ?_ | omega | (focus (simp; done)) | (focus (simp; omega))))
    · have hk := fun W => l2Kept_low a b W (by omega)
      have hl := fun W => l2Cut_any a b W (by omega) (by omega) (by omega)
      generalize lowN a b = N at *
      generalize lowM a b = M at *
      generalize lowOk a b = O at *
      generalize lowX a b = X at *
      generalize lowY a b = Y at *
      have HK := Lib.hid hk
      have HL := Lib.hid hl
      clear hl hk
      go_enter Try.func44, Try.ntmps44
      go_wp2_with (first | (go_at_call 115; refine (l1In_yes _ _ _ _ (by omega) (by omega)).mono ?_; rintro e w' ⟨rfl, rfl⟩) | (go_at_call 116; refine (HL.out _).mono ?_; rintro e w1 ⟨rfl, hb1⟩; (obtain ⟨hc1, hf1, hz1⟩ := bcell hb1; have hy1 := hb1.size; (try simp at hz1); (try simp at hy1); (try simp at hc1); (try simp at hf1))) | (go_at_call 108; refine (HK.out _).mono ?_; rintro e w2 ⟨rfl, hb2⟩; (obtain ⟨hc2, hf2, hz2⟩ := bcell hb2; have hy2 := hb2.size; (try simp at hz2); (try simp at hy2); (try simp at hc2); (try simp at hf2))))
      refine bodyPost_ret (v := .tuple #[.agg #[.int .i64 N, .int .i64 M], .bool O]) (by simp (maxDischargeDepth := 9) [results, Try.results44, go_sem, *]) rfl ⟨rfl, ?_⟩
      (repeat (first | with_reducible exact Below.refl _ _ | with_reducible assumption | with_reducible refine Below.alloc' ?_ ?_ _ | with_reducible refine Below.setCell' ?_ ?_ _ | with_reducible refine Below.drewN' ?_ _ | with_reducible refine Below.drew ?_ | with_reducible refine Below.transA ?_ (by assumption) ?_ | omega | (focus (simp; done)) | (focus (simp; omega))))
  · obtain ⟨e1, e2, e3⟩ := fo_out h
    rw [e1, e2, e3]
    clear e1 e2 e3
    by_cases hz : b = 0
    · subst hz
      clear h
      go_enter Try.func44, Try.ntmps44
      go_wp2
      refine bodyPost_ret (v := .tuple #[.agg #[.int .i64 0, .int .i64 0], .bool false]) (by simp [results, Try.results44, go_sem]) rfl ⟨rfl, ?_⟩
      (repeat (first | with_reducible exact Below.refl _ _ | with_reducible assumption | with_reducible refine Below.alloc' ?_ ?_ _ | with_reducible refine Below.setCell' ?_ ?_ _ | with_reducible refine Below.drewN' ?_ _ | with_reducible refine Below.drew ?_ | with_reducible refine Below.transA ?_ (by assumption) ?_ | omega | (focus (simp; done)) | (focus (simp; omega))))
    · have hz' : (b == 0) = false := by simpa using hz
      by_cases h1 : -1000000000 ≤ a ∧ a ≤ 1000000000
      · have h2 : ¬ (-1000000000 ≤ b ∧ b ≤ 1000000000) := fun h2 => h ⟨hz, h1, h2⟩
        clear h
        go_enter Try.func44, Try.ntmps44
        go_wp2_with (first | (go_at_call 115; refine (l1In_yes _ _ _ _ (by omega) (by omega)).mono ?_; rintro e w' ⟨rfl, rfl⟩) | (go_at_call 115; refine (l1In_no _ _ _ _ (by omega)).mono ?_; rintro e w' ⟨rfl, rfl⟩))
        refine bodyPost_ret (v := .tuple #[.agg #[.int .i64 0, .int .i64 0], .bool false]) (by simp [results, Try.results44, go_sem]) rfl ⟨rfl, ?_⟩
        (repeat (first | with_reducible exact Below.refl _ _ | with_reducible assumption | with_reducible refine Below.alloc' ?_ ?_ _ | with_reducible refine Below.setCell' ?_ ?_ _ | with_reducible refine Below.drewN' ?_ _ | with_reducible refine Below.drew ?_ | with_reducible refine Below.transA ?_ (by assumption) ?_ | omega | (focus (simp; done)) | (focus (simp; omega))))
      · clear h
        go_enter Try.func44, Try.ntmps44
        go_wp2_with (first | (go_at_call 115; refine (l1In_no _ _ _ _ (by omega)).mono ?_; rintro e w' ⟨rfl, rfl⟩))
        refine bodyPost_ret (v := .tuple #[.agg #[.int .i64 0, .int .i64 0], .bool false]) (by simp [results, Try.results44, go_sem]) rfl ⟨rfl, ?_⟩
        (repeat (first | with_reducible exact Below.refl _ _ | with_reducible assumption | with_reducible refine Below.alloc' ?_ ?_ _ | with_reducible refine Below.setCell' ?_ ?_ _ | with_reducible refine Below.drewN' ?_ _ | with_reducible refine Below.drew ?_ | with_reducible refine Below.transA ?_ (by assumption) ?_ | omega | (focus (simp; done)) | (focus (simp; omega))))
end Go.Proofs.Ytombfbmcplefgaa
