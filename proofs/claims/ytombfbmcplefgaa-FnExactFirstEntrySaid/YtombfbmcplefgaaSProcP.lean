/- Plain: a process that is stopped. -/
import Derived.Test.YtombfbmcplefgaaIsStop
import Derived.Test.YtombfbmcplefgaaAsc
import Derived.Test.YtombfbmcplefgaaRev
import Derived.Test.YtombfbmcplefgaaHigh
import Derived.Test.YtombfbmcplefgaaPaysCut
import Derived.Test.YtombfbmcplefgaaSMean
namespace Go.Proofs.Ytombfbmcplefgaa
open Go.ChangeShapes Go.WideShapes Go.ChangeAt Go.RowKit

def spB (xs qs : List Int) (x : Nat) : Bool := decide (0 < (bothL qs (wayL xs x)).length)
def spF (xs ps qs : List Int) (x : Nat) : Int := if spB xs qs x then nth ps (nth (bothL qs (wayL xs x)) 0).toNat else nth ps x
/-- The list while it is changed: the first k entries are done. -/
def spT (xs ps qs : List Int) (k : Nat) : List Int := (List.range ps.length).map fun x => if x < k then spF xs ps qs x else nth ps x
theorem spT_len (xs ps qs : List Int) (k : Nat) : (spT xs ps qs k).length = ps.length := by simp [spT]
theorem spT_nth {xs ps qs : List Int} {k x : Nat} (h : x < ps.length) : nth (spT xs ps qs k) x = if x < k then spF xs ps qs x else nth ps x := by
  simp [spT, nth, List.getD, h]
theorem spT_zero (xs ps qs : List Int) : spT xs ps qs 0 = ps := by
  refine list_nth ?_ fun j hj => ?_
  · simp [spT]
  · rw [spT_len] at hj; rw [spT_nth hj, if_neg (by omega)]
theorem spT_set {xs ps qs : List Int} {k : Nat} (h : k < ps.length) : (spT xs ps qs k).set k (spF xs ps qs k) = spT xs ps qs (k + 1) := by
  refine list_nth (by simp [spT_len]) fun j hj => ?_
  simp only [List.length_set, spT_len] at hj
  rw [nth_set _ _ _ _ (by rw [spT_len]; exact h), spT_nth hj, spT_nth hj]
  by_cases e : j = k
  · subst e; rw [if_pos rfl, if_pos (by omega)]
  · rw [if_neg e]
    by_cases e2 : j < k
    · rw [if_pos e2, if_pos (by omega)]
    · rw [if_neg e2, if_neg (by omega)]
theorem spT_same {xs ps qs : List Int} {k : Nat} (h : k < ps.length) (he : spF xs ps qs k = nth ps k) : spT xs ps qs (k + 1) = spT xs ps qs k := by
  refine list_nth (by simp [spT_len]) fun j hj => ?_
  rw [spT_len] at hj
  rw [spT_nth hj, spT_nth hj]
  by_cases e : j = k
  · subst e; rw [if_pos (by omega), if_neg (by omega), he]
  · by_cases e2 : j < k
    · rw [if_pos e2, if_pos (by omega)]
    · rw [if_neg e2, if_neg (by omega)]
theorem sp_pos {xs qs : List Int} {x : Nat} : spB xs qs x = true ↔ ∃ v, v ∈ qs ∧ v ∈ wayL xs x := by
  unfold spB
  rw [decide_eq_true_eq]
  constructor
  · intro h; have := both_mem.1 (nth_mem (L := bothL qs (wayL xs x)) h); exact ⟨_, this⟩
  · rintro ⟨v, h⟩; exact List.length_pos_of_mem (both_mem.2 h)
theorem sp_root {xs ps qs : List Int} : spB xs qs 0 = hasB qs 0 ∧ spF xs ps qs 0 = nth ps 0 := by
  have h1 : spB xs qs 0 = hasB qs 0 := by
    rw [Bool.eq_iff_iff, sp_pos, hasB_mem, way_zero]; simp
  refine ⟨h1, ?_⟩
  unfold spF
  split
  · rename_i h
    unfold spB at h
    have h2 := both_mem.1 (nth_mem (L := bothL qs (wayL xs 0)) (of_decide_eq_true h))
    rw [way_zero] at h2
    have : nth (bothL qs [0]) 0 = 0 := by simpa [way_zero] using h2.2
    rw [way_zero, this]; rfl
  · rfl
theorem sp_step {xs ps qs : List Int} (hu : ∀ j, 1 ≤ j → j < xs.length → ∃ p : Nat, nth xs j = p ∧ p < j) (ha : Asc qs) {x p : Nat} (h1 : 1 ≤ x) (hx : x < xs.length) (hp : nth xs x = p) (hpx : p < x) :
    spB xs qs x = (hasB qs x || spB xs qs p) ∧ (spB xs qs p = true → spF xs ps qs x = spF xs ps qs p) ∧ (spB xs qs p = false → spF xs ps qs x = nth ps x) := by
  have hw := way_step hu h1 hx hp hpx
  have hB : spB xs qs x = (hasB qs x || spB xs qs p) := by
    rw [Bool.eq_iff_iff, Bool.or_eq_true, sp_pos, sp_pos, hasB_mem, hw]
    constructor
    · rintro ⟨v, a, b⟩
      rcases List.mem_append.1 b with b | b
      · exact .inr ⟨v, a, b⟩
      · simp at b; rw [b] at a; exact .inl a
    · rintro (a | ⟨v, a, b⟩)
      · exact ⟨x, a, by simp⟩
      · exact ⟨v, a, List.mem_append_left _ b⟩
  refine ⟨hB, fun hs => ?_, fun hs => ?_⟩
  · have hsx : spB xs qs x = true := by rw [hB, hs, Bool.or_true]
    unfold spF; rw [if_pos hsx, if_pos hs]
    unfold spB at hs hsx
    have hl := of_decide_eq_true hs
    have hlx := of_decide_eq_true hsx
    have mp := both_mem.1 (nth_mem hl)
    have mx := both_mem.1 (nth_mem hlx)
    have low : ∀ {v : Int}, v ∈ wayL xs p → v < x := fun {v} hv => by
      obtain ⟨q, q1, q2⟩ := up_mem hu p (by omega) v (List.mem_reverse.1 hv); omega
    have lp : ∀ v, v ∈ bothL qs (wayL xs p) → nth (bothL qs (wayL xs p)) 0 ≤ v := fun v hv => by
      obtain ⟨j, hj, e⟩ := mem_nth hv
      by_cases h0 : j = 0
      · subst h0; omega
      · have := asc_lt (asc_both ha (wayL xs p)) (show 0 < j by omega) hj; omega
    have lx : ∀ v, v ∈ bothL qs (wayL xs x) → nth (bothL qs (wayL xs x)) 0 ≤ v := fun v hv => by
      obtain ⟨j, hj, e⟩ := mem_nth hv
      by_cases h0 : j = 0
      · subst h0; omega
      · have := asc_lt (asc_both ha (wayL xs x)) (show 0 < j by omega) hj; omega
    have h3 := lx _ (both_mem.2 ⟨mp.1, by rw [hw]; exact List.mem_append_left _ mp.2⟩)
    have h4 := low mp.2
    rw [hw] at mx
    have h5 : nth (bothL qs (wayL xs x)) 0 ∈ wayL xs p := by
      rw [hw]
      rcases List.mem_append.1 mx.2 with b | b
      · exact b
      · simp at b; rw [hw] at h3; omega
    have h6 := lp _ (both_mem.2 ⟨by rw [hw]; exact mx.1, h5⟩)
    rw [show nth (bothL qs (wayL xs x)) 0 = nth (bothL qs (wayL xs p)) 0 by omega]
  · unfold spF
    split
    · rename_i hsx
      unfold spB at hsx
      have mx := both_mem.1 (nth_mem (of_decide_eq_true hsx))
      have : nth (bothL qs (wayL xs x)) 0 = x := by
        have m2 := mx.2
        generalize nth (bothL qs (wayL xs x)) 0 = v at *
        rw [hw] at m2
        rcases List.mem_append.1 m2 with b | b
        · have : spB xs qs p = true := sp_pos.2 ⟨v, mx.1, b⟩
          rw [hs] at this; cases this
        · simpa using b
      rw [this]; rfl
    · rfl
noncomputable def spR (xs ys ps qs : List Int) : List Int := if smOk xs ys ps qs then spT xs ps qs xs.length else []
theorem spR_no {xs ys ps qs : List Int} (h : smOk xs ys ps qs = false) : spR xs ys ps qs = [] := by unfold spR; rw [h]; rfl
theorem spR_yes {xs ys ps qs : List Int} (h : smOk xs ys ps qs = true) : spR xs ys ps qs = spT xs ps qs xs.length := by unfold spR; rw [h]; rfl
theorem spR_len (xs ys ps qs : List Int) (hn : xs.length ≤ 1048576) : (spR xs ys ps qs).length ≤ 2000000 := by
  unfold spR; split
  · rename_i h
    unfold smOk at h
    have := (isProc_iff (Bool.and_eq_true_iff.1 (Bool.and_eq_true_iff.1 h).1).2).1
    rw [spT_len]; omega
  · simp
end Go.Proofs.Ytombfbmcplefgaa
