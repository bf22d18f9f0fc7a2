/- Plain: pays that are known by a cut. -/
import Derived.Test.YtombfbmcplefgaaPaysCut
import Derived.Test.YtombfbmcplefgaaPays
namespace Go.Proofs.Ytombfbmcplefgaa
open Go.ChangeShapes Go.WideShapes Go.ChangeAt Go.RowKit

theorem und_iff {xs ys : List Int} (hg : good xs ys = true) {d : Int} (hd : 0 ≤ d) {y : Nat} (hy : y < xs.length) (he : 0 < nth ys y) {k z : Nat} (hk : k < (cutL xs ys d).length) (hz : nth (cutL xs ys d) k = z) :
    underB xs z y = decide (ovX xs (cutL xs ys d) y = k) := by
  obtain ⟨m, h1, h2, q, h3, h4, h5, h6⟩ := cut_at hg hd hy he
  rw [h1]
  by_cases e : k = m
  · subst e
    have : z = q := by omega
    rw [this, h5]; exact (decide_eq_true rfl).symm
  · rw [decide_eq_false (by omega)]
    rcases Nat.lt_or_gt_of_ne e with e | e
    · obtain ⟨z', z1, _, z3⟩ := h6 k e
      have : z = z' := by omega
      rw [this]; exact z3
    · cases hb : underB xs z y with
      | false => rfl
      | true =>
        obtain ⟨z', z1, z2, z3⟩ := pick_mem (f := inCut xs ys d) (k := xs.length) hk
        change nth (cutL xs ys d) k = z' at z1
        obtain ⟨q', q1, q2, q3⟩ := pick_mem (f := inCut xs ys d) (k := xs.length) h2
        change nth (cutL xs ys d) m = q' at q1
        have e1 : z = z' := by omega
        have e2 : q = q' := by omega
        subst e1 e2
        have e3 := cut_one hg hy (hasB_mem.1 hb) (hasB_mem.1 h5) z3 q3
        have := asc_lt (asc_pick (inCut xs ys d) xs.length) e hk
        change nth (cutL xs ys d) m < nth (cutL xs ys d) k at this
        omega

/-- Ends of the same node have the same pay. -/
def knB (R vs : List Int) : Bool := (List.range R.length).all fun i => (List.range i).all fun k => decide (nth R i = nth R k → nth vs i = nth vs k)
theorem knB_iff {R vs : List Int} : knB R vs = true ↔ ∀ i k, i < R.length → k < i → nth R i = nth R k → nth vs i = nth vs k := by
  unfold knB
  simp only [List.all_eq_true, List.mem_range, decide_eq_true_eq]
  exact ⟨fun h i k hi hk => h i hi k hk, fun h i hi k hk => h i k hi hk⟩
theorem knB_no {R vs : List Int} {i k : Nat} (hi : i < R.length) (hk : k < i) (h1 : nth R i = nth R k) (h2 : nth vs i ≠ nth vs k) : knB R vs = false := by
  cases h : knB R vs with
  | false => rfl
  | true => exact absurd (knB_iff.1 h i k hi hk h1) h2

def leastB (P : Nat → Bool) : Nat → Nat
  | 0 => 0
  | n + 1 => if P (leastB P n) then leastB P n else n + 1
theorem least_inv (P : Nat → Bool) : ∀ n, (P (leastB P n) = true ∨ leastB P n = n) ∧ ∀ d, d < leastB P n → P d = false
  | 0 => ⟨.inr rfl, fun d h => by simp [leastB] at h⟩
  | n + 1 => by
    obtain ⟨h1, h2⟩ := least_inv P n
    unfold leastB
    by_cases h : P (leastB P n) = true
    · rw [if_pos h]; exact ⟨.inl h, h2⟩
    · rw [if_neg h]
      have e : leastB P n = n := h1.resolve_left h
      refine ⟨.inr rfl, fun d hd => ?_⟩
      by_cases e2 : d = n
      · rw [e] at h; rw [e2]; simpa using h
      · exact h2 d (by omega)
theorem least_eq {P : Nat → Bool} {n d : Nat} (h1 : d ≤ n) (h2 : P d = true) (h3 : ∀ k, k < d → P k = false) : leastB P n = d := by
  obtain ⟨a, b⟩ := least_inv P n
  rcases Nat.lt_trichotomy (leastB P n) d with h | h | h
  · rcases a with a | a
    · rw [h3 _ h] at a; cases a
    · omega
  · exact h
  · rw [b d h] at h2; cases h2

theorem dpt_le {xs : List Int} (hu : ∀ j, 1 ≤ j → j < xs.length → ∃ p : Nat, nth xs j = p ∧ p < j) : ∀ q, q < xs.length → dpt xs q ≤ q := by
  intro q
  induction q using Nat.strongRecOn with
  | ind q ih =>
    intro hq
    by_cases h0 : q = 0
    · subst h0; rw [dpt_root (by omega)]; exact Int.le_refl _
    · obtain ⟨p, hp, hpq⟩ := hu q (by omega) hq
      have h1 := dpt_step (by omega) hq hp hpq
      have h2 := ih p hpq (by omega)
      omega
/-- Below the greatest depth each end is its own node. -/
theorem kn_top {xs ys : List Int} (hg : good xs ys = true) (vs : List Int) : knB (ovL xs (cutL xs ys xs.length)) vs = true := by
  rw [knB_iff]
  intro i k hi hk he
  exfalso
  have hu := good_upL hg
  have hl := ovL_len xs (cutL xs ys xs.length)
  obtain ⟨y, y1, y2, y3⟩ := end_pos hg (j := i) (by omega)
  obtain ⟨u, u1, u2, u3⟩ := end_pos hg (j := k) (by omega)
  have e1 : nth (ovL xs (cutL xs ys xs.length)) i = ovX xs (cutL xs ys xs.length) y := by unfold ovL; rw [mapI_nth _ _ (by omega), y1]
  have e2 : nth (ovL xs (cutL xs ys xs.length)) k = ovX xs (cutL xs ys xs.length) u := by unfold ovL; rw [mapI_nth _ _ (by omega), u1]
  rw [e1, e2] at he
  have key : ∀ {y : Nat} (_ : y < xs.length) (_ : 0 < nth ys y), ∃ m : Nat, ovX xs (cutL xs ys xs.length) y = m ∧ nth (cutL xs ys xs.length) m = y := fun {y} hy hp => by
    obtain ⟨m, h1, h2, q, h3, h4, h5, _⟩ := cut_at hg (d := (xs.length : Int)) (by omega) hy hp
    obtain ⟨q', q1, q2, q3⟩ := pick_mem (f := inCut xs ys xs.length) (k := xs.length) h2
    change nth (cutL xs ys xs.length) m = q' at q1
    have e : q = q' := by omega
    subst e
    rw [cut_iff] at q3
    have hd := dpt_le hu q h4
    have hc : 0 < nth ys q := by
      rcases q3 with q3 | q3
      · omega
      · exact q3.2
    obtain ⟨z, z1, _, _, z4⟩ := up_dpt hu y hy _ (hasB_mem.1 h5)
    have e : q = z := by omega
    subst e
    refine ⟨m, h1, ?_⟩
    by_cases e : q = y
    · rw [h3, e]
    · have h6 := wt_end hg h4
      rw [(z4 e).2] at h6
      exact absurd hc (of_decide_eq_false h6)
  obtain ⟨m, m1, m2⟩ := key y2 y3
  obtain ⟨m', n1, n2⟩ := key u2 u3
  have em : m = m' := by omega
  subst em
  have := asc_lt (asc_pick (noKid xs xs.length) xs.length) hk (show i < (pick (noKid xs xs.length) xs.length).length by change i < (endsL xs).length; omega)
  change nth (endsL xs) k < nth (endsL xs) i at this
  omega
def kaAt (xs ys vs : List Int) (d : Nat) : Bool := knB (ovL xs (cutL xs ys d)) vs
noncomputable def kaOk (xs ys vs : List Int) : Bool := good xs ys && payB xs vs
noncomputable def kaR (xs ys vs : List Int) : Int := if kaOk xs ys vs then (leastB (kaAt xs ys vs) xs.length : Nat) else 0
theorem kaR_no {xs ys vs : List Int} (h : kaOk xs ys vs = false) : kaR xs ys vs = 0 := by unfold kaR; rw [h]; rfl
theorem kaR_yes {xs ys vs : List Int} (h : kaOk xs ys vs = true) : kaR xs ys vs = (leastB (kaAt xs ys vs) xs.length : Nat) := by unfold kaR; rw [h]; rfl
end Go.Proofs.Ytombfbmcplefgaa
