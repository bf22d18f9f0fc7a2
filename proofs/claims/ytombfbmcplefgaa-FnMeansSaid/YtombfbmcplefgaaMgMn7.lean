/- Contracts of the functions that compare, add and multiply fractions. -/
import Derived.StillTailTactics
import Derived.Deep.RegionHeld3
import Derived.Test.YtombfbmcplefgaaMgMn3
import Derived.Test.YtombfbmcplefgaaMgMn4
namespace Go.Proofs.Ytombfbmcplefgaa
open Go.ChangeShapes Go.WideShapes Go.ChangeAt Go.RowKit

theorem IsFraction_r {a b : Int} {r : Bool} (h : isFrac a b = r) (w : World) :
    Calls Try.prog 45 #[.agg #[.int .i64 a, .int .i64 b]] w fun e w' => e = .returned (.bool r) ∧ Below w.heap.size w w' := by
  rw [← h]; exact IsFraction_any a b w
theorem l2Frac_r {a b : Int} {r : Bool} (h : isFrac a b = r) (w : World) :
    Calls Try.prog 102 #[.agg #[.int .i64 a, .int .i64 b]] w fun e w' => e = .returned (.bool r) ∧ Below w.heap.size w w' := by
  rw [← h]; exact l2Frac_any a b w

set_option maxHeartbeats 2000000 in
theorem areFractions_any (a b c d : Int) (g : Nat) (w : World) (h0 : w.cell? ⟨g, 0, none⟩ = some (.int .i64 a)) (h1 : w.cell? ⟨g, 1, none⟩ = some (.int .i64 b)) (h2 : w.cell? ⟨g, 2, none⟩ = some (.int .i64 c)) (h3 : w.cell? ⟨g, 3, none⟩ = some (.int .i64 d)) (hg : g < w.heap.size) :
    Calls Try.prog 107 #[.slice (some ⟨g, 0, none⟩) 2 2] w fun e w' => e = .returned (.bool (isFrac a b && isFrac c d)) ∧ Below w.heap.size w w' := by
  have HF1 := fun r h W => IsFraction_r (a := a) (b := b) (r := r) h W
  have HF2 := fun r h W => IsFraction_r (a := c) (b := d) (r := r) h W
  generalize isFrac a b = r1 at *
  generalize isFrac c d = r2 at *
  have H1 := Lib.hid (HF1 r1 rfl)
  have H2 := Lib.hid (HF2 r2 rfl)
  clear HF1 HF2
  cases r1
  · go_enter Try.func107, Try.ntmps107
    go_wp2
    refine wp_loop_rounds 3 ?_
    rw [rounds_succ]
    go_wp2_with (go_at_call 45; refine (H1.out _).mono ?_; rintro e w1 ⟨rfl, hb1⟩; (obtain ⟨hc1, hf1, hz1⟩ := bcell hb1; have hy1 := hb1.size; (try simp at hz1); (try simp at hy1); (try simp at hc1); (try simp at hf1)))
    go_ret
    exact ⟨rfl, by (repeat (first | with_reducible exact Below.refl _ _ | with_reducible assumption | with_reducible refine Below.alloc' ?_ ?_ _ | with_reducible refine Below.setCell' ?_ ?_ _ | with_reducible refine Below.drewN' ?_ _ | with_reducible refine Below.drew ?_ | with_reducible refine Below.transA ?_ (by assumption) ?_ | omega | (focus (simp; done)) | (focus (simp; omega))))⟩
  · go_enter Try.func107, Try.ntmps107
    go_wp2
    refine wp_loop_rounds 3 ?_
    rw [rounds_succ]
    go_wp2_with (go_at_call 45; refine (H1.out _).mono ?_; rintro e w1 ⟨rfl, hb1⟩; (obtain ⟨hc1, hf1, hz1⟩ := bcell hb1; have hy1 := hb1.size; (try simp at hz1); (try simp at hy1); (try simp at hc1); (try simp at hf1)))
    rw [rounds_succ]
    cases r2
    · go_wp2_with (go_at_call 45; refine (H2.out _).mono ?_; rintro e w2 ⟨rfl, hb2⟩; (obtain ⟨hc2, hf2, hz2⟩ := bcell hb2; have hy2 := hb2.size; (try simp at hz2); (try simp at hy2); (try simp at hc2); (try simp at hf2)))
      go_ret
      exact ⟨rfl, by (repeat (first | with_reducible exact Below.refl _ _ | with_reducible assumption | with_reducible refine Below.alloc' ?_ ?_ _ | with_reducible refine Below.setCell' ?_ ?_ _ | with_reducible refine Below.drewN' ?_ _ | with_reducible refine Below.drew ?_ | with_reducible refine Below.transA ?_ (by assumption) ?_ | omega | (focus (simp; done)) | (focus (simp; omega))))⟩
    · go_wp2_with (go_at_call 45; refine (H2.out _).mono ?_; rintro e w2 ⟨rfl, hb2⟩; (obtain ⟨hc2, hf2, hz2⟩ := bcell hb2; have hy2 := hb2.size; (try simp at hz2); (try simp at hy2); (try simp at hc2); (try simp at hf2)))
      rw [rounds_succ]
      go_wp2
      go_ret
      exact ⟨rfl, by (repeat (first | with_reducible exact Below.refl _ _ | with_reducible assumption | with_reducible refine Below.alloc' ?_ ?_ _ | with_reducible refine Below.setCell' ?_ ?_ _ | with_reducible refine Below.drewN' ?_ _ | with_reducible refine Below.drew ?_ | with_reducible refine Below.transA ?_ (by assumption) ?_ | omega | (focus (simp; done)) | (focus (simp; omega))))⟩

def cmpF (a b c d : Int) : Int := if a * d < c * b then -1 else if c * b < a * d then 1 else 0
theorem mul_bd {a d A D : Int} (h : -A ≤ a ∧ a ≤ A) (k : -D ≤ d ∧ d ≤ D) : -(A * D) ≤ a * d ∧ a * d ≤ A * D := by
  have h1 : a.natAbs * d.natAbs ≤ A.natAbs * D.natAbs := Nat.mul_le_mul (by omega) (by omega)
  have h2 : (a * d).natAbs = a.natAbs * d.natAbs := Int.natAbs_mul a d
  have h3 : A * D = ((A.natAbs * D.natAbs : Nat) : Int) := by
    rw [Int.natCast_mul]
    have e1 : (A.natAbs : Int) = A := by omega
    have e2 : (D.natAbs : Int) = D := by omega
    rw [e1, e2]
  omega

set_option maxHeartbeats 1000000 in
theorem compared_any (a b c d : Int) (w : World) (h : -4000000000000000000 ≤ a * d ∧ a * d ≤ 4000000000000000000) (k : -4000000000000000000 ≤ c * b ∧ c * b ≤ 4000000000000000000) :
    Calls Try.prog 111 #[.agg #[.int .i64 a, .int .i64 b], .agg #[.int .i64 c, .int .i64 d]] w fun e w' => e = .returned (.int .i64 (cmpF a b c d)) ∧ Below w.heap.size w w' := by
  have e0 : Hid (cmpF a b c d = if a * d < c * b then -1 else if c * b < a * d then 1 else 0) := rfl
  generalize cmpF a b c d = r at *
  obtain ⟨x, hx⟩ : ∃ x, a * d = x := ⟨_, rfl⟩
  obtain ⟨y, hy⟩ : ∃ y, c * b = y := ⟨_, rfl⟩
  rw [hx] at h e0
  rw [hy] at k e0
  obtain ⟨h0, h1⟩ := h
  obtain ⟨k0, k1⟩ := k
  have hwx : IntKind.i64.wrap (a * d) = x := by rw [hx]; exact IntWalk.i64_in _ (by omega)
  have hwy : IntKind.i64.wrap (c * b) = y := by rw [hy]; exact IntWalk.i64_in _ (by omega)
  have hwy' : IntKind.i64.wrap (b * c) = y := by rw [Int.mul_comm]; exact hwy
  clear hx hy
  by_cases hl : x < y
  · have e1 := e0.out
    rw [if_pos hl] at e1
    subst e1
    clear e0
    go_enter Try.func111, Try.ntmps111
    go_wp2_with fail
    go_quiet (fail)
    clear hwx hwy hwy'
    go_wp2
    go_ret
    exact ⟨rfl, by (repeat (first | with_reducible exact Below.refl _ _ | with_reducible assumption | with_reducible refine Below.alloc' ?_ ?_ _ | with_reducible refine Below.setCell' ?_ ?_ _ | with_reducible refine Below.drewN' ?_ _ | with_reducible refine Below.drew ?_ | with_reducible refine Below.transA ?_ (by assumption) ?_ | omega | (focus (simp; done)) | (focus (simp; omega))))⟩
  · by_cases hg : y < x
    · have e1 := e0.out
      rw [if_neg hl, if_pos hg] at e1
      subst e1
      clear e0
      go_enter Try.func111, Try.ntmps111
      go_wp2_with fail
      go_quiet (fail)
      clear hwx hwy hwy'
      go_wp2
      go_ret
      exact ⟨rfl, by (repeat (first | with_reducible exact Below.refl _ _ | with_reducible assumption | with_reducible refine Below.alloc' ?_ ?_ _ | with_reducible refine Below.setCell' ?_ ?_ _ | with_reducible refine Below.drewN' ?_ _ | with_reducible refine Below.drew ?_ | with_reducible refine Below.transA ?_ (by assumption) ?_ | omega | (focus (simp; done)) | (focus (simp; omega))))⟩
    · have e1 := e0.out
      rw [if_neg hl, if_neg hg] at e1
      subst e1
      clear e0
      go_enter Try.func111, Try.ntmps111
      go_wp2_with fail
      go_quiet (fail)
      clear hwx hwy hwy'
      go_wp2
      go_ret
      exact ⟨rfl, by (repeat (first | with_reducible exact Below.refl _ _ | with_reducible assumption | with_reducible refine Below.alloc' ?_ ?_ _ | with_reducible refine Below.setCell' ?_ ?_ _ | with_reducible refine Below.drewN' ?_ _ | with_reducible refine Below.drew ?_ | with_reducible refine Below.transA ?_ (by assumption) ?_ | omega | (focus (simp; done)) | (focus (simp; omega))))⟩

set_option maxHeartbeats 1000000 in
theorem l2Less_any (a b c d : Int) (w : World) (h : -4000000000000000000 ≤ a * d ∧ a * d ≤ 4000000000000000000) (k : -4000000000000000000 ≤ c * b ∧ c * b ≤ 4000000000000000000) :
    Calls Try.prog 112 #[.agg #[.int .i64 a, .int .i64 b], .agg #[.int .i64 c, .int .i64 d]] w fun e w' => e = .returned (.bool (decide (a * d < c * b))) ∧ Below w.heap.size w w' := by
  obtain ⟨x, hx⟩ : ∃ x, a * d = x := ⟨_, rfl⟩
  obtain ⟨y, hy⟩ : ∃ y, c * b = y := ⟨_, rfl⟩
  rw [hx] at h ⊢
  rw [hy] at k ⊢
  obtain ⟨h0, h1⟩ := h
  obtain ⟨k0, k1⟩ := k
  have hwx : IntKind.i64.wrap (a * d) = x := by rw [hx]; exact IntWalk.i64_in _ (by omega)
  have hwy : IntKind.i64.wrap (c * b) = y := by rw [hy]; exact IntWalk.i64_in _ (by omega)
  go_enter Try.func112, Try.ntmps112
  go_wp2
  go_ret
  exact ⟨rfl, by (repeat (first | with_reducible exact Below.refl _ _ | with_reducible assumption | with_reducible refine Below.alloc' ?_ ?_ _ | with_reducible refine Below.setCell' ?_ ?_ _ | with_reducible refine Below.drewN' ?_ _ | with_reducible refine Below.drew ?_ | with_reducible refine Below.transA ?_ (by assumption) ?_ | omega | (focus (simp; done)) | (focus (simp; omega))))⟩

def FrOk (a b c d : Int) : Bool := isFrac a b && isFrac c d
theorem frac_bd {a b : Int} (h : isFrac a b = true) : -1000000000 ≤ a ∧ a ≤ 1000000000 ∧ 1 ≤ b ∧ b ≤ 1000000 := by
  have := of_decide_eq_true h
  exact ⟨this.1, this.2.1, this.2.2.1, this.2.2.2.1⟩
theorem frac_mul {a b c d : Int} (h : isFrac a b = true) (k : isFrac c d = true) : -1000000000000000 ≤ a * d ∧ a * d ≤ 1000000000000000 := by
  have h1 := frac_bd h
  have h2 := frac_bd k
  have := mul_bd (a := a) (d := d) (A := 1000000000) (D := 1000000) (by omega) (by omega)
  omega
theorem areFractions_r {a b c d : Int} {r : Bool} (hr : (isFrac a b && isFrac c d) = r) (g : Nat) (w : World) (h0 : w.cell? ⟨g, 0, none⟩ = some (.int .i64 a)) (h1 : w.cell? ⟨g, 1, none⟩ = some (.int .i64 b)) (h2 : w.cell? ⟨g, 2, none⟩ = some (.int .i64 c)) (h3 : w.cell? ⟨g, 3, none⟩ = some (.int .i64 d)) (hg : g < w.heap.size) :
    Calls Try.prog 107 #[.slice (some ⟨g, 0, none⟩) 2 2] w fun e w' => e = .returned (.bool r) ∧ Below w.heap.size w w' := by
  rw [← hr]; exact areFractions_any a b c d g w h0 h1 h2 h3 hg

set_option maxHeartbeats 1000000 in
theorem implCompare_any (a b c d : Int) (w : World) :
    Calls Try.prog 40 #[.agg #[.int .i64 a, .int .i64 b], .agg #[.int .i64 c, .int .i64 d]] w fun e w' => e = .returned (.tuple #[.int .i64 (if isFrac a b && isFrac c d then cmpF a b c d else 0), .bool (isFrac a b && isFrac c d)]) ∧ Below w.heap.size w w' := by
  cases hr : (isFrac a b && isFrac c d)
  · have HR := Lib.hid hr
    clear hr
    go_enter Try.func40, Try.ntmps40
    go_wp2_with fail
    refine (areFractions_r HR.out _ _ ?_ ?_ ?_ ?_ ?_).mono ?_
    · rw [cell_new _ _ _ _ _ (by simp)]; rfl
    · rw [cell_new _ _ _ _ _ (by simp)]; rfl
    · rw [cell_new _ _ _ _ _ (by simp)]; rfl
    · rw [cell_new _ _ _ _ _ (by simp)]; rfl
    · simp
    rintro e w1 ⟨rfl, hb1⟩; (obtain ⟨hc1, hf1, hz1⟩ := bcell hb1; have hy1 := hb1.size; (try simp at hz1); (try simp at hy1); (try simp at hc1); (try simp at hf1))
    go_wp2
    go_ret2
    exact ⟨by simp, by (repeat (first | with_reducible exact Below.refl _ _ | with_reducible assumption | with_reducible refine Below.alloc' ?_ ?_ _ | with_reducible refine Below.setCell' ?_ ?_ _ | with_reducible refine Below.drewN' ?_ _ | with_reducible refine Below.drew ?_ | with_reducible refine Below.transA ?_ (by assumption) ?_ | omega | (focus (simp; done)) | (focus (simp; omega))))⟩
  · have hr' := hr
    simp only [Bool.and_eq_true] at hr'
    have p1 := frac_mul hr'.1 hr'.2
    have p2 := frac_mul hr'.2 hr'.1
    have HC := Lib.hid (fun W => compared_any a b c d W (by omega) (by omega))
    have HR := Lib.hid hr
    clear hr hr' p1 p2
    go_enter Try.func40, Try.ntmps40
    go_wp2_with fail
    refine (areFractions_r HR.out _ _ ?_ ?_ ?_ ?_ ?_).mono ?_
    · rw [cell_new _ _ _ _ _ (by simp)]; rfl
    · rw [cell_new _ _ _ _ _ (by simp)]; rfl
    · rw [cell_new _ _ _ _ _ (by simp)]; rfl
    · rw [cell_new _ _ _ _ _ (by simp)]; rfl
    · simp
    rintro e w1 ⟨rfl, hb1⟩; (obtain ⟨hc1, hf1, hz1⟩ := bcell hb1; have hy1 := hb1.size; (try simp at hz1); (try simp at hy1); (try simp at hc1); (try simp at hf1))
    go_wp2_with fail
    refine (HC.out _).mono ?_; rintro e w2 ⟨rfl, hb2⟩; (replace hb2 := hb1.trans (hb2.mono hb1.size); clear hc1 hf1 hz1 hy1 hb1; (obtain ⟨hc2, hf2, hz2⟩ := bcell hb2; have hy2 := hb2.size; (try simp at hz2); (try simp at hy2); (try simp at hc2); (try simp at hf2)))
    go_wp2
    go_ret2
    exact ⟨by simp, by (repeat (first | with_reducible exact Below.refl _ _ | with_reducible assumption | with_reducible refine Below.alloc' ?_ ?_ _ | with_reducible refine Below.setCell' ?_ ?_ _ | with_reducible refine Below.drewN' ?_ _ | with_reducible refine Below.drew ?_ | with_reducible refine Below.transA ?_ (by assumption) ?_ | omega | (focus (simp; done)) | (focus (simp; omega))))⟩

set_option maxHeartbeats 1000000 in
theorem specCompare_any (a b c d : Int) (w : World) :
    Calls Try.prog 41 #[.agg #[.int .i64 a, .int .i64 b], .agg #[.int .i64 c, .int .i64 d]] w fun e w' => e = .returned (.tuple #[.int .i64 (if isFrac a b && isFrac c d then cmpF a b c d else 0), .bool (isFrac a b && isFrac c d)]) ∧ Below w.heap.size w w' := by
  cases hr1 : isFrac a b
  · have H1 := Lib.hid (l2Frac_r hr1)
    clear hr1
    go_enter Try.func41, Try.ntmps41
    go_wp2_with (go_at_call 102; refine (H1.out _).mono ?_; rintro e w1 ⟨rfl, hb1⟩; (obtain ⟨hc1, hf1, hz1⟩ := bcell hb1; have hy1 := hb1.size; (try simp at hz1); (try simp at hy1); (try simp at hc1); (try simp at hf1)))
    go_ret2
    exact ⟨by simp, by (repeat (first | with_reducible exact Below.refl _ _ | with_reducible assumption | with_reducible refine Below.alloc' ?_ ?_ _ | with_reducible refine Below.setCell' ?_ ?_ _ | with_reducible refine Below.drewN' ?_ _ | with_reducible refine Below.drew ?_ | with_reducible refine Below.transA ?_ (by assumption) ?_ | omega | (focus (simp; done)) | (focus (simp; omega))))⟩
  · have H1 := Lib.hid (l2Frac_r hr1)
    cases hr2 : isFrac c d
    · have H2 := Lib.hid (l2Frac_r hr2)
      clear hr1 hr2
      go_enter Try.func41, Try.ntmps41
      go_wp2_with fail
      refine (H1.out _).mono ?_; rintro e w1 ⟨rfl, hb1⟩; (obtain ⟨hc1, hf1, hz1⟩ := bcell hb1; have hy1 := hb1.size; (try simp at hz1); (try simp at hy1); (try simp at hc1); (try simp at hf1))
      go_wp2_with fail
      refine (H2.out _).mono ?_; rintro e w2 ⟨rfl, hb2⟩; (replace hb2 := hb1.trans (hb2.mono hb1.size); clear hc1 hf1 hz1 hy1 hb1; (obtain ⟨hc2, hf2, hz2⟩ := bcell hb2; have hy2 := hb2.size; (try simp at hz2); (try simp at hy2); (try simp at hc2); (try simp at hf2)))
      go_wp2
      go_ret2
      exact ⟨by simp, by (repeat (first | with_reducible exact Below.refl _ _ | with_reducible assumption | with_reducible refine Below.alloc' ?_ ?_ _ | with_reducible refine Below.setCell' ?_ ?_ _ | with_reducible refine Below.drewN' ?_ _ | with_reducible refine Below.drew ?_ | with_reducible refine Below.transA ?_ (by assumption) ?_ | omega | (focus (simp; done)) | (focus (simp; omega))))⟩
    · have H2 := Lib.hid (l2Frac_r hr2)
      have p1 := frac_mul hr1 hr2
      have p2 := frac_mul hr2 hr1
      have HL := Lib.hid (fun W => l2Less_any a b c d W (by omega) (by omega))
      have HM := Lib.hid (fun W => l2Less_any c d a b W (by omega) (by omega))
      have e0 : Hid (cmpF a b c d = if a * d < c * b then -1 else if c * b < a * d then 1 else 0) := rfl
      have hcm : Hid (decide (c * b < a * d) = decide (c * b < a * d)) := rfl
      clear hr1 hr2 p1 p2
      generalize cmpF a b c d = r at *
      generalize a * d = x at *
      generalize c * b = y at *
      by_cases hl : x < y
      · have e1 := e0.out
        rw [if_pos hl] at e1
        subst e1
        have hd := HL.out
        rw [decide_eq_true hl] at hd
        have HL' := Lib.hid hd
        clear e0 hd HL HM
        go_enter Try.func41, Try.ntmps41
        go_wp2_with fail
        refine (H1.out _).mono ?_; rintro e w1 ⟨rfl, hb1⟩; (obtain ⟨hc1, hf1, hz1⟩ := bcell hb1; have hy1 := hb1.size; (try simp at hz1); (try simp at hy1); (try simp at hc1); (try simp at hf1))
        go_wp2_with fail
        refine (H2.out _).mono ?_; rintro e w2 ⟨rfl, hb2⟩; (replace hb2 := hb1.trans (hb2.mono hb1.size); clear hc1 hf1 hz1 hy1 hb1; (obtain ⟨hc2, hf2, hz2⟩ := bcell hb2; have hy2 := hb2.size; (try simp at hz2); (try simp at hy2); (try simp at hc2); (try simp at hf2)))
        go_wp2_with fail
        refine (HL'.out _).mono ?_; rintro e w3 ⟨rfl, hb3⟩; (replace hb3 := hb2.trans (hb3.mono hb2.size); clear hc2 hf2 hz2 hy2 hb2; (obtain ⟨hc3, hf3, hz3⟩ := bcell hb3; have hy3 := hb3.size; (try simp at hz3); (try simp at hy3); (try simp at hc3); (try simp at hf3)))
        go_wp2
        go_ret2
        exact ⟨by simp, by (repeat (first | with_reducible exact Below.refl _ _ | with_reducible assumption | with_reducible refine Below.alloc' ?_ ?_ _ | with_reducible refine Below.setCell' ?_ ?_ _ | with_reducible refine Below.drewN' ?_ _ | with_reducible refine Below.drew ?_ | with_reducible refine Below.transA ?_ (by assumption) ?_ | omega | (focus (simp; done)) | (focus (simp; omega))))⟩
      · have hd := HL.out
        rw [decide_eq_false hl] at hd
        have HL' := Lib.hid hd
        by_cases hg : y < x
        · have e1 := e0.out
          rw [if_neg hl, if_pos hg] at e1
          subst e1
          have hm := HM.out
          rw [decide_eq_true hg] at hm
          have HM' := Lib.hid hm
          clear e0 hd HL HM hm
          go_enter Try.func41, Try.ntmps41
          go_wp2_with fail
          refine (H1.out _).mono ?_; rintro e w1 ⟨rfl, hb1⟩; (obtain ⟨hc1, hf1, hz1⟩ := bcell hb1; have hy1 := hb1.size; (try simp at hz1); (try simp at hy1); (try simp at hc1); (try simp at hf1))
          go_wp2_with fail
          refine (H2.out _).mono ?_; rintro e w2 ⟨rfl, hb2⟩; (replace hb2 := hb1.trans (hb2.mono hb1.size); clear hc1 hf1 hz1 hy1 hb1; (obtain ⟨hc2, hf2, hz2⟩ := bcell hb2; have hy2 := hb2.size; (try simp at hz2); (try simp at hy2); (try simp at hc2); (try simp at hf2)))
          go_wp2_with fail
          refine (HL'.out _).mono ?_; rintro e w3 ⟨rfl, hb3⟩; (replace hb3 := hb2.trans (hb3.mono hb2.size); clear hc2 hf2 hz2 hy2 hb2; (obtain ⟨hc3, hf3, hz3⟩ := bcell hb3; have hy3 := hb3.size; (try simp at hz3); (try simp at hy3); (try simp at hc3); (try simp at hf3)))
          go_wp2_with fail
          refine (HM'.out _).mono ?_; rintro e w4 ⟨rfl, hb4⟩; (replace hb4 := hb3.trans (hb4.mono hb3.size); clear hc3 hf3 hz3 hy3 hb3; (obtain ⟨hc4, hf4, hz4⟩ := bcell hb4; have hy4 := hb4.size; (try simp at hz4); (try simp at hy4); (try simp at hc4); (try simp at hf4)))
          go_wp2
          go_ret2
          exact ⟨by simp, by (repeat (first | with_reducible exact Below.refl _ _ | with_reducible assumption | with_reducible refine Below.alloc' ?_ ?_ _ | with_reducible refine Below.setCell' ?_ ?_ _ | with_reducible refine Below.drewN' ?_ _ | with_reducible refine Below.drew ?_ | with_reducible refine Below.transA ?_ (by assumption) ?_ | omega | (focus (simp; done)) | (focus (simp; omega))))⟩
        · have e1 := e0.out
          rw [if_neg hl, if_neg hg] at e1
          subst e1
          have hm := HM.out
          rw [decide_eq_false hg] at hm
          have HM' := Lib.hid hm
          clear e0 hd HL HM hm
          go_enter Try.func41, Try.ntmps41
          go_wp2_with fail
          refine (H1.out _).mono ?_; rintro e w1 ⟨rfl, hb1⟩; (obtain ⟨hc1, hf1, hz1⟩ := bcell hb1; have hy1 := hb1.size; (try simp at hz1); (try simp at hy1); (try simp at hc1); (try simp at hf1))
          go_wp2_with fail
          refine (H2.out _).mono ?_; rintro e w2 ⟨rfl, hb2⟩; (replace hb2 := hb1.trans (hb2.mono hb1.size); clear hc1 hf1 hz1 hy1 hb1; (obtain ⟨hc2, hf2, hz2⟩ := bcell hb2; have hy2 := hb2.size; (try simp at hz2); (try simp at hy2); (try simp at hc2); (try simp at hf2)))
          go_wp2_with fail
          refine (HL'.out _).mono ?_; rintro e w3 ⟨rfl, hb3⟩; (replace hb3 := hb2.trans (hb3.mono hb2.size); clear hc2 hf2 hz2 hy2 hb2; (obtain ⟨hc3, hf3, hz3⟩ := bcell hb3; have hy3 := hb3.size; (try simp at hz3); (try simp at hy3); (try simp at hc3); (try simp at hf3)))
          go_wp2_with fail
          refine (HM'.out _).mono ?_; rintro e w4 ⟨rfl, hb4⟩; (replace hb4 := hb3.trans (hb4.mono hb3.size); clear hc3 hf3 hz3 hy3 hb3; (obtain ⟨hc4, hf4, hz4⟩ := bcell hb4; have hy4 := hb4.size; (try simp at hz4); (try simp at hy4); (try simp at hc4); (try simp at hf4)))
          go_wp2
          go_ret2
          exact ⟨by simp, by (repeat (first | with_reducible exact Below.refl _ _ | with_reducible assumption | with_reducible refine Below.alloc' ?_ ?_ _ | with_reducible refine Below.setCell' ?_ ?_ _ | with_reducible refine Below.drewN' ?_ _ | with_reducible refine Below.drew ?_ | with_reducible refine Below.transA ?_ (by assumption) ?_ | omega | (focus (simp; done)) | (focus (simp; omega))))⟩
end Go.Proofs.Ytombfbmcplefgaa
/- Contracts of the functions that add and multiply fractions. -/
namespace Go.Proofs.Ytombfbmcplefgaa
open Go.ChangeShapes Go.WideShapes Go.ChangeAt Go.RowKit

theorem frac_ne {a b c d : Int} (h : isFrac a b = true) (k : isFrac c d = true) : 1 ≤ b * d ∧ b * d ≤ 1000000000000 := by
  have h1 := frac_bd h
  have h2 := frac_bd k
  have h3 := mul_bd (a := b) (d := d) (A := 1000000) (D := 1000000) (by omega) (by omega)
  have h4 : 1 * 1 ≤ b * d := Int.mul_le_mul (by omega) (by omega) (by omega) (by omega)
  omega

set_option maxHeartbeats 1000000 in
theorem implAdd_any (a b c d : Int) (w : World) :
    Calls Try.prog 35 #[.agg #[.int .i64 a, .int .i64 b], .agg #[.int .i64 c, .int .i64 d]] w fun e w' => e = .returned (FracV (if isFrac a b && isFrac c d then lowN (a * d + c * b) (b * d) else 0) (if isFrac a b && isFrac c d then lowM (a * d + c * b) (b * d) else 0) (isFrac a b && isFrac c d && lowOk (a * d + c * b) (b * d))) ∧ Below w.heap.size w w' := by
  cases hr : (isFrac a b && isFrac c d)
  · have HR := Lib.hid hr
    clear hr
    go_enter Try.func35, Try.ntmps35
    go_wp2_with fail
    refine (areFractions_r HR.out _ _ ?_ ?_ ?_ ?_ ?_).mono ?_
    · rw [cell_new _ _ _ _ _ (by simp)]; rfl
    · rw [cell_new _ _ _ _ _ (by simp)]; rfl
    · rw [cell_new _ _ _ _ _ (by simp)]; rfl
    · rw [cell_new _ _ _ _ _ (by simp)]; rfl
    · simp
    rintro e w1 ⟨rfl, hb1⟩; (obtain ⟨hc1, hf1, hz1⟩ := bcell hb1; have hy1 := hb1.size; (try simp at hz1); (try simp at hy1); (try simp at hc1); (try simp at hf1))
    go_wp2
    refine bodyPost_ret (v := .tuple #[.agg #[.int .i64 0, .int .i64 0], .bool false]) (by simp (maxDischargeDepth := 9) [results, Try.results35, go_sem, *]) rfl ⟨by simp [FracV], ?_⟩
    (repeat (first | with_reducible exact Below.refl _ _ | with_reducible assumption | with_reducible refine Below.alloc' ?_ ?_ _ | with_reducible refine Below.setCell' ?_ ?_ _ | with_reducible refine Below.drewN' ?_ _ | with_reducible refine Below.drew ?_ | with_reducible refine Below.transA ?_ (by assumption) ?_ | omega | (focus (simp; done)) | (focus (simp; omega))))
  · have hr' := hr
    simp only [Bool.and_eq_true] at hr'
    have p1 := frac_mul hr'.1 hr'.2
    have p2 := frac_mul hr'.2 hr'.1
    have p3 := frac_ne hr'.1 hr'.2
    obtain ⟨x, hx⟩ : ∃ x, a * d = x := ⟨_, rfl⟩
    obtain ⟨y, hy⟩ : ∃ y, c * b = y := ⟨_, rfl⟩
    obtain ⟨q, hq⟩ : ∃ q, b * d = q := ⟨_, rfl⟩
    rw [hx] at p1 ⊢
    rw [hy] at p2 ⊢
    rw [hq] at p3 ⊢
    have hwx : IntKind.i64.wrap (a * d) = x := by rw [hx]; exact IntWalk.i64_in _ (by omega)
    have hwy : IntKind.i64.wrap (c * b) = y := by rw [hy]; exact IntWalk.i64_in _ (by omega)
    have hwq : IntKind.i64.wrap (b * d) = q := by rw [hq]; exact IntWalk.i64_in _ (by omega)
    have HL := Lib.hid (fun W => lowest_any (x + y) q W (by omega) (by omega) (by omega))
    have HR := Lib.hid hr
    obtain ⟨p10, p11⟩ := p1
    obtain ⟨p20, p21⟩ := p2
    clear hr hr' hx hy hq p3
    generalize lowN (x + y) q = N at *
    generalize lowM (x + y) q = M at *
    generalize lowOk (x + y) q = O at *
    go_enter Try.func35, Try.ntmps35
    go_wp2_with fail
    refine (areFractions_r HR.out _ _ ?_ ?_ ?_ ?_ ?_).mono ?_
    · rw [cell_new _ _ _ _ _ (by simp)]; rfl
    · rw [cell_new _ _ _ _ _ (by simp)]; rfl
    · rw [cell_new _ _ _ _ _ (by simp)]; rfl
    · rw [cell_new _ _ _ _ _ (by simp)]; rfl
    · simp
    rintro e w1 ⟨rfl, hb1⟩; (obtain ⟨hc1, hf1, hz1⟩ := bcell hb1; have hy1 := hb1.size; (try simp at hz1); (try simp at hy1); (try simp at hc1); (try simp at hf1))
    go_wp2_with fail
    refine (HL.out _).mono ?_; rintro e w2 ⟨rfl, hb2⟩; (replace hb2 := hb1.trans (hb2.mono hb1.size); clear hc1 hf1 hz1 hy1 hb1; (obtain ⟨hc2, hf2, hz2⟩ := bcell hb2; have hy2 := hb2.size; (try simp at hz2); (try simp at hy2); (try simp at hc2); (try simp at hf2)))
    go_wp2
    refine bodyPost_ret (v := .tuple #[.agg #[.int .i64 N, .int .i64 M], .bool O]) (by simp (maxDischargeDepth := 9) [results, Try.results35, go_sem, *]) rfl ⟨by simp [FracV], ?_⟩
    (repeat (first | with_reducible exact Below.refl _ _ | with_reducible assumption | with_reducible refine Below.alloc' ?_ ?_ _ | with_reducible refine Below.setCell' ?_ ?_ _ | with_reducible refine Below.drewN' ?_ _ | with_reducible refine Below.drew ?_ | with_reducible refine Below.transA ?_ (by assumption) ?_ | omega | (focus (simp; done)) | (focus (simp; omega))))

set_option maxHeartbeats 1000000 in
theorem implTimes_any (a b c d : Int) (w : World) :
    Calls Try.prog 37 #[.agg #[.int .i64 a, .int .i64 b], .agg #[.int .i64 c, .int .i64 d]] w fun e w' => e = .returned (FracV (if isFrac a b && isFrac c d then lowN (a * c) (b * d) else 0) (if isFrac a b && isFrac c d then lowM (a * c) (b * d) else 0) (isFrac a b && isFrac c d && lowOk (a * c) (b * d))) ∧ Below w.heap.size w w' := by
  cases hr : (isFrac a b && isFrac c d)
  · have HR := Lib.hid hr
    clear hr
    go_enter Try.func37, Try.ntmps37
    go_wp2_with fail
    refine (areFractions_r HR.out _ _ ?_ ?_ ?_ ?_ ?_).mono ?_
    · rw [cell_new _ _ _ _ _ (by simp)]; rfl
    · rw [cell_new _ _ _ _ _ (by simp)]; rfl
    · rw [cell_new _ _ _ _ _ (by simp)]; rfl
    · rw [cell_new _ _ _ _ _ (by simp)]; rfl
    · simp
    rintro e w1 ⟨rfl, hb1⟩; (obtain ⟨hc1, hf1, hz1⟩ := bcell hb1; have hy1 := hb1.size; (try simp at hz1); (try simp at hy1); (try simp at hc1); (try simp at hf1))
    go_wp2
    refine bodyPost_ret (v := .tuple #[.agg #[.int .i64 0, .int .i64 0], .bool false]) (by simp (maxDischargeDepth := 9) [results, Try.results37, go_sem, *]) rfl ⟨by simp [FracV], ?_⟩
    (repeat (first | with_reducible exact Below.refl _ _ | with_reducible assumption | with_reducible refine Below.alloc' ?_ ?_ _ | with_reducible refine Below.setCell' ?_ ?_ _ | with_reducible refine Below.drewN' ?_ _ | with_reducible refine Below.drew ?_ | with_reducible refine Below.transA ?_ (by assumption) ?_ | omega | (focus (simp; done)) | (focus (simp; omega))))
  · have hr' := hr
    simp only [Bool.and_eq_true] at hr'
    have b1 := frac_bd hr'.1
    have b2 := frac_bd hr'.2
    have p1 := mul_bd (a := a) (d := c) (A := 1000000000) (D := 1000000000) (by omega) (by omega)
    have p3 := frac_ne hr'.1 hr'.2
    obtain ⟨x, hx⟩ : ∃ x, a * c = x := ⟨_, rfl⟩
    obtain ⟨q, hq⟩ : ∃ q, b * d = q := ⟨_, rfl⟩
    rw [hx] at p1 ⊢
    rw [hq] at p3 ⊢
    have hwx : IntKind.i64.wrap (a * c) = x := by rw [hx]; exact IntWalk.i64_in _ (by omega)
    have hwq : IntKind.i64.wrap (b * d) = q := by rw [hq]; exact IntWalk.i64_in _ (by omega)
    have HL := Lib.hid (fun W => lowest_any x q W (by omega) (by omega) (by omega))
    have HR := Lib.hid hr
    clear hr hr' hx hq p3 p1 b1 b2
    generalize lowN x q = N at *
    generalize lowM x q = M at *
    generalize lowOk x q = O at *
    go_enter Try.func37, Try.ntmps37
    go_wp2_with fail
    refine (areFractions_r HR.out _ _ ?_ ?_ ?_ ?_ ?_).mono ?_
    · rw [cell_new _ _ _ _ _ (by simp)]; rfl
    · rw [cell_new _ _ _ _ _ (by simp)]; rfl
    · rw [cell_new _ _ _ _ _ (by simp)]; rfl
    · rw [cell_new _ _ _ _ _ (by simp)]; rfl
    · simp
    rintro e w1 ⟨rfl, hb1⟩; (obtain ⟨hc1, hf1, hz1⟩ := bcell hb1; have hy1 := hb1.size; (try simp at hz1); (try simp at hy1); (try simp at hc1); (try simp at hf1))
    go_wp2_with fail
    refine (HL.out _).mono ?_; rintro e w2 ⟨rfl, hb2⟩; (replace hb2 := hb1.trans (hb2.mono hb1.size); clear hc1 hf1 hz1 hy1 hb1; (obtain ⟨hc2, hf2, hz2⟩ := bcell hb2; have hy2 := hb2.size; (try simp at hz2); (try simp at hy2); (try simp at hc2); (try simp at hf2)))
    go_wp2
    refine bodyPost_ret (v := .tuple #[.agg #[.int .i64 N, .int .i64 M], .bool O]) (by simp (maxDischargeDepth := 9) [results, Try.results37, go_sem, *]) rfl ⟨by simp [FracV], ?_⟩
    (repeat (first | with_reducible exact Below.refl _ _ | with_reducible assumption | with_reducible refine Below.alloc' ?_ ?_ _ | with_reducible refine Below.setCell' ?_ ?_ _ | with_reducible refine Below.drewN' ?_ _ | with_reducible refine Below.drew ?_ | with_reducible refine Below.transA ?_ (by assumption) ?_ | omega | (focus (simp; done)) | (focus (simp; omega))))
end Go.Proofs.Ytombfbmcplefgaa
/- Contracts of the reference's functions that add and multiply fractions. -/
namespace Go.Proofs.Ytombfbmcplefgaa
open Go.ChangeShapes Go.WideShapes Go.ChangeAt Go.RowKit

theorem gcd_split (b d : Int) : ∃ b' d' : Int, b = (Int.gcd b d : Int) * b' ∧ d = (Int.gcd b d : Int) * d' := by
  obtain ⟨b', hb⟩ := Int.gcd_dvd_left b d
  obtain ⟨d', hd⟩ := Int.gcd_dvd_right b d
  exact ⟨b', d', hb, hd⟩

set_option maxHeartbeats 2000000 in
set_option maxRecDepth 100000 in
theorem l2Add_any (a b c d : Int) (w : World) (ha : -1000000000000 ≤ a ∧ a ≤ 1000000000000) (hb : 1 ≤ b ∧ b ≤ 1000000) (hc : -1000000000000 ≤ c ∧ c ≤ 1000000000000) (hd : 1 ≤ d ∧ d ≤ 1000000) :
    Calls Try.prog 101 #[.agg #[.int .i64 a, .int .i64 b], .agg #[.int .i64 c, .int .i64 d]] w fun e w' => e = .returned (.agg #[.int .i64 (lowX (a * d + c * b) (b * d)), .int .i64 (lowY (a * d + c * b) (b * d))]) ∧ Below w.heap.size w w' := by
  obtain ⟨b', d', eb, ed⟩ := gcd_split b d
  have hk := gcd_pos b d (by omega)
  have hkl := gcd_le b d (by omega)
  obtain ⟨k, hgk⟩ : ∃ k : Int, (Int.gcd b d : Int) = k := ⟨_, rfl⟩
  rw [hgk] at eb ed hk hkl
  have hg : Hid ((Int.gcd b d : Int) = k) := hgk
  clear hgk
  have tb : b.tdiv k = b' := by rw [eb]; exact Int.mul_tdiv_cancel_left _ (by omega)
  have td : d.tdiv k = d' := by rw [ed]; exact Int.mul_tdiv_cancel_left _ (by omega)
  have bb := tdiv_bd b k 1000000 (by omega) (by omega)
  have bd := tdiv_bd d k 1000000 (by omega) (by omega)
  rw [tb] at bb
  rw [td] at bd
  have b1 : 1 ≤ b' := by
    rcases Int.lt_or_le 0 b' with h | h
    · omega
    · have := Int.mul_nonpos_of_nonneg_of_nonpos (a := k) (b := b') (by omega) h
      omega
  have d1 : 1 ≤ d' := by
    rcases Int.lt_or_le 0 d' with h | h
    · omega
    · have := Int.mul_nonpos_of_nonneg_of_nonpos (a := k) (b := d') (by omega) h
      omega
  have m1 := mul_bd (a := a) (d := d') (A := 1000000000000) (D := 1000000) (by omega) (by omega)
  have m2 := mul_bd (a := c) (d := b') (A := 1000000000000) (D := 1000000) (by omega) (by omega)
  have m3 := mul_bd (a := b') (d := d) (A := 1000000) (D := 1000000) (by omega) (by omega)
  have q1 : 1 * 1 ≤ b' * d := Int.mul_le_mul (by omega) (by omega) (by omega) (by omega)
  have q2 : 1 * 1 ≤ b * d := Int.mul_le_mul (by omega) (by omega) (by omega) (by omega)
  have hs : lowX (a * d' + c * b') (b' * d) = lowX (a * d + c * b) (b * d) ∧ lowY (a * d' + c * b') (b' * d) = lowY (a * d + c * b) (b * d) := by
    refine low_same (by omega) (by omega) ?_
    have e1 : a * d + c * b = k * (a * d' + c * b') := by
      rw [Int.mul_add]
      congr 1
      · conv => lhs; rw [ed]
        rw [Int.mul_left_comm]
      · conv => lhs; rw [eb]
        rw [Int.mul_left_comm]
    have e2 : b * d = k * (b' * d) := by
      conv => lhs; arg 1; rw [eb]
      rw [Int.mul_assoc]
    rw [e1, e2, Int.mul_left_comm, Int.mul_assoc]
  rw [← hs.1, ← hs.2]
  clear hs eb ed q2
  obtain ⟨x, hx⟩ : ∃ x, a * d' = x := ⟨_, rfl⟩
  obtain ⟨y, hy⟩ : ∃ y, c * b' = y := ⟨_, rfl⟩
  obtain ⟨q, hq⟩ : ∃ q, b' * d = q := ⟨_, rfl⟩
  rw [hx] at m1 ⊢
  rw [hy] at m2 ⊢
  rw [hq] at m3 q1 ⊢
  have hwx : IntKind.i64.wrap (a * d') = x := by rw [hx]; exact IntWalk.i64_in _ (by omega)
  have hwy : IntKind.i64.wrap (c * b') = y := by rw [hy]; exact IntWalk.i64_in _ (by omega)
  have hwq : IntKind.i64.wrap (b' * d) = q := by rw [hq]; exact IntWalk.i64_in _ (by omega)
  have hwxy : IntKind.i64.wrap (x + y) = x + y := IntWalk.i64_in _ (by omega)
  have hwb : IntKind.i64.wrap b' = b' := IntWalk.i64_in _ (by omega)
  have hwd : IntKind.i64.wrap d' = d' := IntWalk.i64_in _ (by omega)
  have HL := Lib.hid (fun W => l2Cut_any (x + y) q W (by omega) (by omega) (by omega))
  have HG := Lib.hid (fun W => l2Gcd_d b d k W hg (by omega) (by omega))
  have hz : (k == 0) = false := by simp; omega
  have hz0 : ¬ k = 0 := by omega
  clear hx hy hq m1 m2 m3 hg bb bd
  generalize lowX (x + y) q = X at *
  generalize lowY (x + y) q = Y at *
  go_enter Try.func101, Try.ntmps101
  go_wp2_with fail
  refine (HG.out _).mono ?_; rintro e w1 ⟨rfl, nq, rfl⟩
  go_wp2_with fail
  go_region_held3 (fun w' => w'.cell? ⟨w.heap.size, 0, none⟩ = some (.int .i64 a) ∧ w'.cell? ⟨w.heap.size, 1, none⟩ = some (.int .i64 b) ∧ w'.cell? ⟨w.heap.size + 1, 0, none⟩ = some (.int .i64 c) ∧ w'.cell? ⟨w.heap.size + 1, 1, none⟩ = some (.int .i64 d) ∧ (w'.cell? ⟨w.heap.size + 1 + 1, 0, none⟩).isSome = true ∧ (w'.cell? ⟨w.heap.size + 1 + 1, 1, none⟩).isSome = true ∧ w'.frozen? ⟨w.heap.size + 1 + 1, 0, none⟩ = false ∧ w'.frozen? ⟨w.heap.size + 1 + 1, 1, none⟩ = false ∧ Below w.heap.size w w')
    (first | (simp; ((repeat (first | with_reducible exact Below.refl _ _ | with_reducible assumption | with_reducible refine Below.alloc' ?_ ?_ _ | with_reducible refine Below.setCell' ?_ ?_ _ | with_reducible refine Below.drewN' ?_ _ | with_reducible refine Below.drew ?_ | with_reducible refine Below.transA ?_ (by assumption) ?_ | omega | (focus (simp; done)) | (focus (simp; omega)))); done)) | (go_split_ands; (repeat' (refine And.intro ?_ ?_)) <;> first | exact keep_cell hb1 (by assumption) | exact keep_some hb1 (by assumption) | exact keep_froz hb1 (by assumption) (by assumption) | exact keep_below hb1 (by assumption)) | (go_split_ands; (repeat' (refine And.intro ?_ ?_)) <;> first | (((repeat (first | with_reducible exact Below.refl _ _ | with_reducible assumption | with_reducible refine Below.alloc' ?_ ?_ _ | with_reducible refine Below.setCell' ?_ ?_ _ | with_reducible refine Below.drewN' ?_ _ | with_reducible refine Below.drew ?_ | with_reducible refine Below.transA ?_ (by assumption) ?_ | omega | (focus (simp; done)) | (focus (simp; omega)))); done)) | (simp (maxDischargeDepth := 9) [*, go_sem]; done)))
    (first | (go_at_call 116; refine (HL.out _).mono ?_; rintro e w1 ⟨rfl, hb1⟩; (obtain ⟨hc1, hf1, hz1⟩ := bcell hb1; have hy1 := hb1.size; (try simp at hz1); (try simp at hy1); (try simp at hc1); (try simp at hf1))))
  go_split_ands
  go_wp2
  exact bodyPost_ret (v := .agg #[.int .i64 X, .int .i64 Y]) (by simp (maxDischargeDepth := 9) [results, Try.results101, go_sem, *]) rfl ⟨rfl, by assumption⟩

theorem kept_r (a b : Int) (hb : b ≠ 0) (w : World) :
    Calls Try.prog 108 #[.agg #[.int .i64 (lowX a b), .int .i64 (lowY a b)]] w fun e w' => e = .returned (.tuple #[.agg #[.int .i64 (lowN a b), .int .i64 (lowM a b)], .bool (lowOk a b)]) ∧ Below w.heap.size w w' := l2Kept_low a b w hb

set_option maxHeartbeats 1000000 in
theorem specAdd_any (a b c d : Int) (w : World) :
    Calls Try.prog 36 #[.agg #[.int .i64 a, .int .i64 b], .agg #[.int .i64 c, .int .i64 d]] w fun e w' => e = .returned (FracV (if isFrac a b && isFrac c d then lowN (a * d + c * b) (b * d) else 0) (if isFrac a b && isFrac c d then lowM (a * d + c * b) (b * d) else 0) (isFrac a b && isFrac c d && lowOk (a * d + c * b) (b * d))) ∧ Below w.heap.size w w' := by
  cases hr1 : isFrac a b
  · have H1 := Lib.hid (l2Frac_r hr1)
    clear hr1
    go_enter Try.func36, Try.ntmps36
    go_wp2_with fail
    refine (H1.out _).mono ?_; rintro e w1 ⟨rfl, hb1⟩; (obtain ⟨hc1, hf1, hz1⟩ := bcell hb1; have hy1 := hb1.size; (try simp at hz1); (try simp at hy1); (try simp at hc1); (try simp at hf1))
    go_wp2
    refine bodyPost_ret (v := .tuple #[.agg #[.int .i64 0, .int .i64 0], .bool false]) (by simp (maxDischargeDepth := 9) [results, Try.results36, go_sem, *]) rfl ⟨by simp [FracV], ?_⟩
    (repeat (first | with_reducible exact Below.refl _ _ | with_reducible assumption | with_reducible refine Below.alloc' ?_ ?_ _ | with_reducible refine Below.setCell' ?_ ?_ _ | with_reducible refine Below.drewN' ?_ _ | with_reducible refine Below.drew ?_ | with_reducible refine Below.transA ?_ (by assumption) ?_ | omega | (focus (simp; done)) | (focus (simp; omega))))
  · have H1 := Lib.hid (l2Frac_r hr1)
    cases hr2 : isFrac c d
    · have H2 := Lib.hid (l2Frac_r hr2)
      clear hr1 hr2
      go_enter Try.func36, Try.ntmps36
      go_wp2_with fail
      refine (H1.out _).mono ?_; rintro e w1 ⟨rfl, hb1⟩; (obtain ⟨hc1, hf1, hz1⟩ := bcell hb1; have hy1 := hb1.size; (try simp at hz1); (try simp at hy1); (try simp at hc1); (try simp at hf1))
      go_wp2_with fail
      refine (H2.out _).mono ?_; rintro e w2 ⟨rfl, hb2⟩; (replace hb2 := hb1.trans (hb2.mono hb1.size); clear hc1 hf1 hz1 hy1 hb1; (obtain ⟨hc2, hf2, hz2⟩ := bcell hb2; have hy2 := hb2.size; (try simp at hz2); (try simp at hy2); (try simp at hc2); (try simp at hf2)))
      go_wp2
      refine bodyPost_ret (v := .tuple #[.agg #[.int .i64 0, .int .i64 0], .bool false]) (by simp (maxDischargeDepth := 9) [results, Try.results36, go_sem, *]) rfl ⟨by simp [FracV], ?_⟩
      (repeat (first | with_reducible exact Below.refl _ _ | with_reducible assumption | with_reducible refine Below.alloc' ?_ ?_ _ | with_reducible refine Below.setCell' ?_ ?_ _ | with_reducible refine Below.drewN' ?_ _ | with_reducible refine Below.drew ?_ | with_reducible refine Below.transA ?_ (by assumption) ?_ | omega | (focus (simp; done)) | (focus (simp; omega))))
    · have H2 := Lib.hid (l2Frac_r hr2)
      have p1 := frac_bd hr1
      have p2 := frac_bd hr2
      have p3 := frac_ne hr1 hr2
      have HL := Lib.hid (fun W => l2Add_any a b c d W (by omega) (by omega) (by omega) (by omega))
      have HK := Lib.hid (kept_r (a * d + c * b) (b * d) (by omega))
      clear hr1 hr2 p1 p2 p3
      generalize lowX (a * d + c * b) (b * d) = X at *
      generalize lowY (a * d + c * b) (b * d) = Y at *
      generalize lowN (a * d + c * b) (b * d) = N at *
      generalize lowM (a * d + c * b) (b * d) = M at *
      generalize lowOk (a * d + c * b) (b * d) = O at *
      go_enter Try.func36, Try.ntmps36
      go_wp2_with fail
      refine (H1.out _).mono ?_; rintro e w1 ⟨rfl, hb1⟩; (obtain ⟨hc1, hf1, hz1⟩ := bcell hb1; have hy1 := hb1.size; (try simp at hz1); (try simp at hy1); (try simp at hc1); (try simp at hf1))
      go_wp2_with fail
      refine (H2.out _).mono ?_; rintro e w2 ⟨rfl, hb2⟩; (replace hb2 := hb1.trans (hb2.mono hb1.size); clear hc1 hf1 hz1 hy1 hb1; (obtain ⟨hc2, hf2, hz2⟩ := bcell hb2; have hy2 := hb2.size; (try simp at hz2); (try simp at hy2); (try simp at hc2); (try simp at hf2)))
      go_wp2_with fail
      refine (HL.out _).mono ?_; rintro e w3 ⟨rfl, hb3⟩; (replace hb3 := hb2.trans (hb3.mono hb2.size); clear hc2 hf2 hz2 hy2 hb2; (obtain ⟨hc3, hf3, hz3⟩ := bcell hb3; have hy3 := hb3.size; (try simp at hz3); (try simp at hy3); (try simp at hc3); (try simp at hf3)))
      go_wp2_with fail
      refine (HK.out _).mono ?_; rintro e w4 ⟨rfl, hb4⟩; (replace hb4 := hb3.trans (hb4.mono hb3.size); clear hc3 hf3 hz3 hy3 hb3; (obtain ⟨hc4, hf4, hz4⟩ := bcell hb4; have hy4 := hb4.size; (try simp at hz4); (try simp at hy4); (try simp at hc4); (try simp at hf4)))
      go_wp2
      refine bodyPost_ret (v := .tuple #[.agg #[.int .i64 N, .int .i64 M], .bool O]) (by simp (maxDischargeDepth := 9) [results, Try.results36, go_sem, *]) rfl ⟨by simp [FracV], ?_⟩
      (repeat (first | with_reducible exact Below.refl _ _ | with_reducible assumption | with_reducible refine Below.alloc' ?_ ?_ _ | with_reducible refine Below.setCell' ?_ ?_ _ | with_reducible refine Below.drewN' ?_ _ | with_reducible refine Below.drew ?_ | with_reducible refine Below.transA ?_ (by assumption) ?_ | omega | (focus (simp; done)) | (focus (simp; omega))))
end Go.Proofs.Ytombfbmcplefgaa
