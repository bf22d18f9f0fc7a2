/- Contracts: is a number in a list, and where; is a list rising. -/
import Derived.Test.YtombfbmcplefgaaApp
import Derived.StillTactics
namespace Go.Proofs.Ytombfbmcplefgaa
open Go.ChangeShapes Go.WideShapes Go.ChangeAt Go.RowKit

/-- v is in the list. -/
def hasB (zs : List Int) (v : Int) : Bool := (List.range zs.length).any fun j => nth zs j == v
theorem hasB_yes {zs : List Int} {v : Int} {j : Nat} (hj : j < zs.length) (h : nth zs j = v) : hasB zs v = true := List.any_eq_true.2 ⟨j, List.mem_range.2 hj, by simp [h]⟩
theorem hasB_no {zs : List Int} {v : Int} (h : ∀ j, j < zs.length → nth zs j ≠ v) : hasB zs v = false := by
  rw [Bool.eq_false_iff]; intro ha
  obtain ⟨j, hj, he⟩ := List.any_eq_true.1 ha
  exact h j (List.mem_range.1 hj) (by simpa using he)
theorem hasB_iff {zs : List Int} {v : Int} : hasB zs v = true ↔ ∃ j, j < zs.length ∧ nth zs j = v := by
  constructor
  · intro ha
    obtain ⟨j, hj, he⟩ := List.any_eq_true.1 ha
    exact ⟨j, List.mem_range.1 hj, by simpa using he⟩
  · rintro ⟨j, hj, h⟩; exact hasB_yes hj h
/-- The first place of v among the first k numbers, or -1. -/
def idxN (zs : List Int) (v : Int) : Nat → Int
  | 0 => -1
  | k + 1 => if 0 ≤ idxN zs v k then idxN zs v k else if nth zs k = v then k else -1
def idxI (zs : List Int) (v : Int) : Int := idxN zs v zs.length
theorem idxN_none {zs : List Int} {v : Int} {k : Nat} (h : ∀ j, j < k → nth zs j ≠ v) : idxN zs v k = -1 := by
  induction k with
  | zero => rfl
  | succ k ih => rw [idxN, ih (fun j hj => h j (by omega)), if_neg (by omega), if_neg (h k (by omega))]
theorem idxN_at {zs : List Int} {v : Int} {q k : Nat} (hq : q < k) (he : nth zs q = v) (h : ∀ j, j < q → nth zs j ≠ v) : idxN zs v k = q := by
  induction k with
  | zero => omega
  | succ k ih =>
    rw [idxN]
    by_cases e : q = k
    · subst e; rw [idxN_none h, if_neg (by omega), if_pos he]
    · rw [ih (by omega), if_pos (by omega)]
theorem idxI_none {zs : List Int} {v : Int} (h : ∀ j, j < zs.length → nth zs j ≠ v) : idxI zs v = -1 := idxN_none h
theorem idxI_at {zs : List Int} {v : Int} {q : Nat} (hq : q < zs.length) (he : nth zs q = v) (h : ∀ j, j < q → nth zs j ≠ v) : idxI zs v = q := idxN_at hq he h
theorem idxI_cases (zs : List Int) (v : Int) : (hasB zs v = false ∧ idxI zs v = -1) ∨ (hasB zs v = true ∧ ∃ q : Nat, idxI zs v = q ∧ q < zs.length ∧ nth zs q = v ∧ ∀ j, j < q → nth zs j ≠ v) := by
  by_cases h : ∃ q, q < zs.length ∧ nth zs q = v
  · right
    have hf : ∃ q, (q < zs.length ∧ nth zs q = v) ∧ ∀ j, j < q → ¬ (j < zs.length ∧ nth zs j = v) := by
      obtain ⟨q, hq⟩ := h
      induction q using Nat.strongRecOn with
      | ind q ih =>
        by_cases hx : ∃ j, j < q ∧ (j < zs.length ∧ nth zs j = v)
        · obtain ⟨j, hj, hj2⟩ := hx; exact ih j hj hj2
        · exact ⟨q, hq, fun j hj h2 => hx ⟨j, hj, h2⟩⟩
    obtain ⟨q, ⟨h1, h2⟩, h3⟩ := hf
    have h4 : ∀ j, j < q → nth zs j ≠ v := fun j hj e => h3 j hj ⟨by omega, e⟩
    exact ⟨hasB_yes h1 h2, q, idxI_at h1 h2 h4, h1, h2, h4⟩
  · left
    have h1 : ∀ j, j < zs.length → nth zs j ≠ v := fun j hj e => h ⟨j, hj, e⟩
    exact ⟨hasB_no h1, idxI_none h1⟩

set_option maxHeartbeats 400000 in
theorem l1Has_any (A : Option Addr) (c : Nat) (zs : List Int) (v : Int) (w : World) (h : IntS w A zs) (hn : zs.length ≤ 2000000) :
    Calls Try.prog 127 #[.slice A zs.length c, .int .i64 v] w fun e w' => e = .returned (.bool (hasB zs v)) ∧ w = w' := by
  generalize hg : hasB zs v = r
  have HG := Lib.hid hg
  clear hg
  go_enter Try.func127, Try.ntmps127
  go_wp2
  go_loop [5] (fun i => ∃ k : Nat, k ≤ zs.length ∧ i = .int .i64 k ∧ Hid (∀ j, j < k → nth zs j ≠ v)) (fun i => zs.length - (intOf i).toNat)
  case atStart => exact ⟨0, Nat.zero_le _, rfl, fun j hj => by omega⟩
  case round =>
    obtain ⟨k, hk, rfl, HA⟩ := hrel
    by_cases hlt : k < zs.length
    · obtain ⟨b, o, rfl, hc⟩ := h.at_ (j := k) hlt
      by_cases hz : nth zs k = v
      · have hr : r = true := by rw [← HG.out]; exact hasB_yes hlt hz
        subst hr
        have hzb : (nth zs k == v) = true := by simpa using hz
        clear hz
        go_wp2
        go_ret
        exact ⟨rfl, rfl⟩
      · have hzb : (nth zs k == v) = false := by simpa using hz
        have HA' : Hid (∀ j, j < k + 1 → nth zs j ≠ v) := fun j hj => by
          by_cases e : j = k
          · subst e; exact hz
          · exact HA.out j (by omega)
        clear hz
        go_wp2
        go_round
        case rel => exact ⟨k + 1, by omega, by go_num, HA'⟩
        case measure => simp [intOf]; omega
    · have hr : r = false := by rw [← HG.out]; exact hasB_no fun j hj => HA.out j (by omega)
      subst hr
      go_wp2
      go_ret
      exact ⟨rfl, rfl⟩
set_option maxHeartbeats 400000 in
theorem index_any (A : Option Addr) (c : Nat) (zs : List Int) (v : Int) (w : World) (h : IntS w A zs) (hn : zs.length ≤ 2000000) :
    Calls Try.prog 142 #[.slice A zs.length c, .int .i64 v] w fun e w' => e = .returned (.int .i64 (idxI zs v)) ∧ w = w' := by
  generalize hg : idxI zs v = r
  have HG := Lib.hid hg
  clear hg
  go_enter Try.func142, Try.ntmps142
  go_wp2
  go_loop [8] (fun i => ∃ k : Nat, k ≤ zs.length ∧ i = .int .i64 k ∧ Hid (∀ j, j < k → nth zs j ≠ v)) (fun i => zs.length - (intOf i).toNat)
  case atStart => exact ⟨0, Nat.zero_le _, rfl, fun j hj => by omega⟩
  case round =>
    obtain ⟨k, hk, rfl, HA⟩ := hrel
    by_cases hlt : k < zs.length
    · obtain ⟨b, o, rfl, hc⟩ := h.at_ (j := k) hlt
      by_cases hz : nth zs k = v
      · have hr : r = k := by rw [← HG.out]; exact idxI_at hlt hz HA.out
        subst hr
        have hzb : (v == nth zs k) = true := by simpa using hz.symm
        clear hz
        go_wp2
        go_ret
        exact ⟨rfl, rfl⟩
      · have hzb : (v == nth zs k) = false := by simpa using fun e : v = nth zs k => hz e.symm
        have HA' : Hid (∀ j, j < k + 1 → nth zs j ≠ v) := fun j hj => by
          by_cases e : j = k
          · subst e; exact hz
          · exact HA.out j (by omega)
        clear hz
        go_wp2
        go_round
        case rel => exact ⟨k + 1, by omega, by go_num, HA'⟩
        case measure => simp [intOf]; omega
    · have hr : r = -1 := by rw [← HG.out]; exact idxI_none fun j hj => HA.out j (by omega)
      subst hr
      go_wp2
      go_ret
      exact ⟨rfl, rfl⟩
theorem contains_any (A : Option Addr) (c : Nat) (zs : List Int) (v : Int) (w : World) (h : IntS w A zs) (hn : zs.length ≤ 2000000) :
    Calls Try.prog 99 #[.slice A zs.length c, .int .i64 v] w fun e w' => e = .returned (.bool (hasB zs v)) ∧ w = w' := by
  have HI := Lib.hid (index_any A c zs v w h hn)
  rcases idxI_cases zs v with ⟨h1, h2⟩ | ⟨h1, q, h2, _⟩
  · rw [h1]
    rw [h2] at HI
    clear h1 h2
    go_enter Try.func99, Try.ntmps99
    go_wp2_with fail
    refine HI.out.mono ?_
    rintro e1 w1 ⟨rfl, rfl⟩
    go_wp2
    go_ret
    exact ⟨rfl, rfl⟩
  · rw [h1]
    rw [h2] at HI
    clear h1 h2
    go_enter Try.func99, Try.ntmps99
    go_wp2_with fail
    refine HI.out.mono ?_
    rintro e1 w1 ⟨rfl, rfl⟩
    go_wp2
    go_ret
    exact ⟨rfl, rfl⟩

/-- Strictly ascending. -/
def riseB (zs : List Int) : Bool := (List.range zs.length).all fun j => j == 0 || decide (nth zs (j - 1) < nth zs j)
theorem riseB_no {zs : List Int} {j : Nat} (hj : j + 1 < zs.length) (h : ¬ nth zs j < nth zs (j + 1)) : riseB zs = false := by
  rw [Bool.eq_false_iff]; intro ha
  have := List.all_eq_true.1 ha (j + 1) (List.mem_range.2 hj)
  simp at this; exact h this
theorem riseB_yes {zs : List Int} (h : ∀ j, j + 1 < zs.length → nth zs j < nth zs (j + 1)) : riseB zs = true :=
  List.all_eq_true.2 fun j hj => by
    cases j with
    | zero => rfl
    | succ j => simp; exact h j (List.mem_range.1 hj)
theorem riseB_iff {zs : List Int} : riseB zs = true ↔ ∀ j, j + 1 < zs.length → nth zs j < nth zs (j + 1) :=
  ⟨fun ha j hj => by have := List.all_eq_true.1 ha (j + 1) (List.mem_range.2 hj); simpa using this, riseB_yes⟩
theorem rise_lt {zs : List Int} (h : riseB zs = true) {i j : Nat} (hij : i < j) (hj : j < zs.length) : nth zs i < nth zs j := by
  induction j with
  | zero => omega
  | succ j ih =>
    have h1 := riseB_iff.1 h j hj
    by_cases e : i = j
    · subst e; exact h1
    · have := ih (by omega) (by omega); omega
theorem rise_len {zs : List Int} {n : Nat} (h : riseB zs = true) (h0 : ∀ j, j < zs.length → 0 ≤ nth zs j ∧ nth zs j < n) : zs.length ≤ n := by
  have hj : ∀ j, j < zs.length → (j : Int) ≤ nth zs j := by
    intro j
    induction j with
    | zero => intro h1; exact (h0 0 h1).1
    | succ j ih => intro h1; have := ih (by omega); have := riseB_iff.1 h j h1; omega
  by_cases e : zs.length = 0
  · omega
  · have := hj (zs.length - 1) (by omega); have := h0 (zs.length - 1) (by omega); omega

set_option maxRecDepth 100000
set_option maxHeartbeats 400000 in
theorem rising_any (A : Option Addr) (c : Nat) (zs : List Int) (w : World) (h : IntS w A zs) (hn : zs.length ≤ 2000000) :
    Calls Try.prog 144 #[.slice A zs.length c] w fun e w' => e = .returned (.bool (riseB zs)) ∧ Below w.heap.size w w' := by
  generalize hg : riseB zs = r
  have HG := Lib.hid hg
  clear hg
  go_enter Try.func144, Try.ntmps144
  go_wp2
  go_loopw [3] (fun i wr => ∃ k : Nat, k ≤ zs.length ∧ i = .int .i64 ((k : Int) + 1) ∧ Hid (∀ j, j < k → j + 1 < zs.length → nth zs j < nth zs (j + 1)) ∧ Below w.heap.size w wr) (fun i _ => zs.length + 1 - (intOf i).toNat)
  case atStart => exact ⟨0, Nat.zero_le _, rfl, fun j hj => by omega, Below.refl _ _⟩
  case round =>
    obtain ⟨k, hk, rfl, HA, hb⟩ := hrel
    by_cases hlt : k + 1 < zs.length
    · obtain ⟨b, o, rfl, hc⟩ := (h.below hb).at_ (j := k) (by omega)
      obtain ⟨b', o', hbo, hc'⟩ := (h.below hb).at_ (j := k + 1) hlt
      cases hbo
      have w1 : IntKind.i64.wrap ((k : Int) + 1 - 1) = (k : Int) := by rw [show (k : Int) + 1 - 1 = (k : Int) from by omega]; exact IntWalk.i64_in _ (by omega)
      have w2 : IntKind.i64.wrap (k : Int) = (k : Int) := IntWalk.i64_in _ (by omega)
      have w3 : (0 : Int) ≤ (k : Int) + 1 := by omega
      have w4 : (k : Int) + 1 < (zs.length : Int) := by omega
      have w5 : (k : Int) < (zs.length : Int) := by omega
      have w6 : ((k : Int) + 1).toNat = k + 1 := by omega
      by_cases hz : nth zs k < nth zs (k + 1)
      · have HA' : Hid (∀ j, j < k + 1 → j + 1 < zs.length → nth zs j < nth zs (j + 1)) := fun j hj h2 => by
          by_cases e : j = k
          · subst e; exact hz
          · exact HA.out j (by omega) h2
        have hz2 : ¬ (nth zs (k + 1) ≤ nth zs k) := by omega
        have hz3 : decide (nth zs (k + 1) ≤ nth zs k) = false := decide_eq_false hz2
        go_wp2
        go_still (by kernel_rfl)
        go_wp2
        go_roundw
        case rel => exact ⟨k + 1, by omega, by go_num, HA', hb.drew⟩
        case measure => simp [intOf]; omega
      · have hr : r = false := by rw [← HG.out]; exact riseB_no hlt hz
        subst hr
        have hz2 : nth zs (k + 1) ≤ nth zs k := by omega
        have hz3 : decide (nth zs (k + 1) ≤ nth zs k) = true := decide_eq_true hz2
        go_wp2
        go_still (by kernel_rfl)
        go_wp2
        go_ret
        exact ⟨rfl, hb.drew⟩
    · have hr : r = true := by rw [← HG.out]; exact riseB_yes fun j hj => HA.out j (by omega) hj
      subst hr
      go_wp2
      go_ret
      exact ⟨rfl, hb⟩
end Go.Proofs.Ytombfbmcplefgaa
