/- Contracts: is a number in a list, and where; is a list rising. -/
import Derived.StillTactics
import Derived.Test.YtombfbmcplefgaaMgMn6
import Derived.Test.YtombfbmcplefgaaMgMn5
namespace Go.Proofs.Ytombfbmcplefgaa
open Go.ChangeShapes Go.WideShapes Go.ChangeAt Go.RowKit

/-- v is in the list. -/
def hasB (zs : List Int) (v : Int) : Bool := (List.range zs.length).any fun j => nth zs j == v
theorem hasB_yes {zs : List Int} {v : Int} {j : Nat} (hj : j < zs.length) (h : nth zs j = v) : hasB zs v = true := List.any_eq_true.2 ⟨j, List.mem_range.2 hj, by simp [h]⟩
theorem hasB_no {zs : List Int} {v : Int} (h : ∀ j, j < zs.length → nth zs j ≠ v) : hasB zs v = false := by
  rw [Bool.eq_false_iff]; intro ha
  obtain ⟨j, hj, he⟩ := List.any_eq_true.1 ha
  exact h j (List.mem_range.1 hj) (by simpa using he)
theorem hasB_iff {zs : List Int} {v : Int} : hasB zs v = true ↔ ∃ j, j < zs.length ∧ nth zs j = v := by
  constructor
  · intro ha
    obtain ⟨j, hj, he⟩ := List.any_eq_true.1 ha
    exact ⟨j, List.mem_range.1 hj, by simpa using he⟩
  · rintro ⟨j, hj, h⟩; exact hasB_yes hj h
/-- The first place of v among the first k numbers, or -1. -/
def idxN (zs : List Int) (v : Int) : Nat → Int
  | 0 => -1
  | k + 1 => if 0 ≤ idxN zs v k then idxN zs v k else if nth zs k = v then k else -1
def idxI (zs : List Int) (v : Int) : Int := idxN zs v zs.length
theorem idxN_none {zs : List Int} {v : Int} {k : Nat} (h : ∀ j, j < k → nth zs j ≠ v) : idxN zs v k = -1 := by
  induction k with
  | zero => rfl
  | succ k ih => rw [idxN, ih (fun j hj => h j (by omega)), if_neg (by omega), if_neg (h k (by omega))]
theorem idxN_at {zs : List Int} {v : Int} {q k : Nat} (hq : q < k) (he : nth zs q = v) (h : ∀ j, j < q → nth zs j ≠ v) : idxN zs v k = q := by
  induction k with
  | zero => omega
  | succ k ih =>
    rw [idxN]
    by_cases e : q = k
    · subst e; rw [idxN_none h, if_neg (by omega), if_pos he]
    · rw [ih (by omega), if_pos (by omega)]
theorem idxI_none {zs : List Int} {v : Int} (h : ∀ j, j < zs.length → nth zs j ≠ v) : idxI zs v = -1 := idxN_none h
theorem idxI_at {zs : List Int} {v : Int} {q : Nat} (hq : q < zs.length) (he : nth zs q = v) (h : ∀ j, j < q → nth zs j ≠ v) : idxI zs v = q := idxN_at hq he h
theorem idxI_cases (zs : List Int) (v : Int) : (hasB zs v = false ∧ idxI zs v = -1) ∨ (hasB zs v = true ∧ ∃ q : Nat, idxI zs v = q ∧ q < zs.length ∧ nth zs q = v ∧ ∀ j, j < q → nth zs j ≠ v) := by
  by_cases h : ∃ q, q < zs.length ∧ nth zs q = v
  · right
    have hf : ∃ q, (q < zs.length ∧ nth zs q = v) ∧ ∀ j, j < q → ¬ (j < zs.length ∧ nth zs j = v) := by
      obtain ⟨q, hq⟩ := h
      induction q using Nat.strongRecOn with
      | ind q ih =>
        by_cases hx : ∃ j, j < q ∧ (j < zs.length ∧ nth zs j = v)
        · obtain ⟨j, hj, hj2⟩ := hx; exact ih j hj hj2
        · exact ⟨q, hq, fun j hj h2 => hx ⟨j, hj, h2⟩⟩
    obtain ⟨q, ⟨h1, h2⟩, h3⟩ := hf
    have h4 : ∀ j, j < q → nth zs j ≠ v := fun j hj e => h3 j hj ⟨by omega, e⟩
    exact ⟨hasB_yes h1 h2, q, idxI_at h1 h2 h4, h1, h2, h4⟩
  · left
    have h1 : ∀ j, j < zs.length → nth zs j ≠ v := fun j hj e => h ⟨j, hj, e⟩
    exact ⟨hasB_no h1, idxI_none h1⟩

set_option maxHeartbeats 400000 in
theorem l1Has_any (A : Option Addr) (c : Nat) (zs : List Int) (v : Int) (w : World) (h : IntS w A zs) (hn : zs.length ≤ 2000000) :
    Calls Try.prog 127 #[.slice A zs.length c, .int .i64 v] w fun e w' => e = .returned (.bool (hasB zs v)) ∧ w = w' := by
  generalize hg : hasB zs v = r
  have HG := Lib.hid hg
  clear hg
  go_enter Try.func127, Try.ntmps127
  go_wp2
  go_loop [5] (fun i => ∃ k : Nat, k ≤ zs.length ∧ i = .int .i64 k ∧ Hid (∀ j, j < k → nth zs j ≠ v)) (fun i => zs.length - (intOf i).toNat)
  case atStart => exact ⟨0, Nat.zero_le _, rfl, fun j hj => by omega⟩
  case round =>
    obtain ⟨k, hk, rfl, HA⟩ := hrel
    by_cases hlt : k < zs.length
    · obtain ⟨b, o, rfl, hc⟩ := h.at_ (j := k) hlt
      by_cases hz : nth zs k = v
      · have hr : r = true := by rw [← HG.out]; exact hasB_yes hlt hz
        subst hr
        have hzb : (nth zs k == v) = true := by simpa using hz
        clear hz
        go_wp2
        go_ret
        exact ⟨rfl, rfl⟩
      · have hzb : (nth zs k == v) = false := by simpa using hz
        have HA' : Hid (∀ j, j < k + 1 → nth zs j ≠ v) := fun j hj => by
          by_cases e : j = k
          · subst e; exact hz
          · exact HA.out j (by omega)
        clear hz
        go_wp2
        go_round
        case rel => exact ⟨k + 1, by omega, by go_num, HA'⟩
        case measure => simp [intOf]; omega
    · have hr : r = false := by rw [← HG.out]; exact hasB_no fun j hj => HA.out j (by omega)
      subst hr
      go_wp2
      go_ret
      exact ⟨rfl, rfl⟩
set_option maxHeartbeats 400000 in
theorem index_any (A : Option Addr) (c : Nat) (zs : List Int) (v : Int) (w : World) (h : IntS w A zs) (hn : zs.length ≤ 2000000) :
    Calls Try.prog 142 #[.slice A zs.length c, .int .i64 v] w fun e w' => e = .returned (.int .i64 (idxI zs v)) ∧ w = w' := by
  generalize hg : idxI zs v = r
  have HG := Lib.hid hg
  clear hg
  go_enter Try.func142, Try.ntmps142
  go_wp2
  go_loop [8] (fun i => ∃ k : Nat, k ≤ zs.length ∧ i = .int .i64 k ∧ Hid (∀ j, j < k → nth zs j ≠ v)) (fun i => zs.length - (intOf i).toNat)
  case atStart => exact ⟨0, Nat.zero_le _, rfl, fun j hj => by omega⟩
  case round =>
    obtain ⟨k, hk, rfl, HA⟩ := hrel
    by_cases hlt : k < zs.length
    · obtain ⟨b, o, rfl, hc⟩ := h.at_ (j := k) hlt
      by_cases hz : nth zs k = v
      · have hr : r = k := by rw [← HG.out]; exact idxI_at hlt hz HA.out
        subst hr
        have hzb : (v == nth zs k) = true := by simpa using hz.symm
        clear hz
        go_wp2
        go_ret
        exact ⟨rfl, rfl⟩
      · have hzb : (v == nth zs k) = false := by simpa using fun e : v = nth zs k => hz e.symm
        have HA' : Hid (∀ j, j < k + 1 → nth zs j ≠ v) := fun j hj => by
          by_cases e : j = k
          · subst e; exact hz
          · exact HA.out j (by omega)
        clear hz
        go_wp2
        go_round
        case rel => exact ⟨k + 1, by omega, by go_num, HA'⟩
        case measure => simp [intOf]; omega
    · have hr : r = -1 := by rw [← HG.out]; exact idxI_none fun j hj => HA.out j (by omega)
      subst hr
      go_wp2
      go_ret
      exact ⟨rfl, rfl⟩
theorem contains_any (A : Option Addr) (c : Nat) (zs : List Int) (v : Int) (w : World) (h : IntS w A zs) (hn : zs.length ≤ 2000000) :
    Calls Try.prog 99 #[.slice A zs.length c, .int .i64 v] w fun e w' => e = .returned (.bool (hasB zs v)) ∧ w = w' := by
  have HI := Lib.hid (index_any A c zs v w h hn)
  rcases idxI_cases zs v with ⟨h1, h2⟩ | ⟨h1, q, h2, _⟩
  · rw [h1]
    rw [h2] at HI
    clear h1 h2
    go_enter Try.func99, Try.ntmps99
    go_wp2_with fail
    refine HI.out.mono ?_
    rintro e1 w1 ⟨rfl, rfl⟩
    go_wp2
    go_ret
    exact ⟨rfl, rfl⟩
  · rw [h1]
    rw [h2] at HI
    clear h1 h2
    go_enter Try.func99, Try.ntmps99
    go_wp2_with fail
    refine HI.out.mono ?_
    rintro e1 w1 ⟨rfl, rfl⟩
    go_wp2
    go_ret
    exact ⟨rfl, rfl⟩

/-- Strictly ascending. -/
def riseB (zs : List Int) : Bool := (List.range zs.length).all fun j => j == 0 || decide (nth zs (j - 1) < nth zs j)
theorem riseB_no {zs : List Int} {j : Nat} (hj : j + 1 < zs.length) (h : ¬ nth zs j < nth zs (j + 1)) : riseB zs = false := by
  rw [Bool.eq_false_iff]; intro ha
  have := List.all_eq_true.1 ha (j + 1) (List.mem_range.2 hj)
  simp at this; exact h this
theorem riseB_yes {zs : List Int} (h : ∀ j, j + 1 < zs.length → nth zs j < nth zs (j + 1)) : riseB zs = true :=
  List.all_eq_true.2 fun j hj => by
    cases j with
    | zero => rfl
    | succ j => simp; exact h j (List.mem_range.1 hj)
theorem riseB_iff {zs : List Int} : riseB zs = true ↔ ∀ j, j + 1 < zs.length → nth zs j < nth zs (j + 1) :=
  ⟨fun ha j hj => by have := List.all_eq_true.1 ha (j + 1) (List.mem_range.2 hj); simpa using this, riseB_yes⟩
theorem rise_lt {zs : List Int} (h : riseB zs = true) {i j : Nat} (hij : i < j) (hj : j < zs.length) : nth zs i < nth zs j := by
  induction j with
  | zero => omega
  | succ j ih =>
    have h1 := riseB_iff.1 h j hj
    by_cases e : i = j
    · subst e; exact h1
    · have := ih (by omega) (by omega); omega
theorem rise_len {zs : List Int} {n : Nat} (h : riseB zs = true) (h0 : ∀ j, j < zs.length → 0 ≤ nth zs j ∧ nth zs j < n) : zs.length ≤ n := by
  have hj : ∀ j, j < zs.length → (j : Int) ≤ nth zs j := by
    intro j
    induction j with
    | zero => intro h1; exact (h0 0 h1).1
    | succ j ih => intro h1; have := ih (by omega); have := riseB_iff.1 h j h1; omega
  by_cases e : zs.length = 0
  · omega
  · have := hj (zs.length - 1) (by omega); have := h0 (zs.length - 1) (by omega); omega

set_option maxRecDepth 100000
set_option maxHeartbeats 400000 in
theorem rising_any (A : Option Addr) (c : Nat) (zs : List Int) (w : World) (h : IntS w A zs) (hn : zs.length ≤ 2000000) :
    Calls Try.prog 144 #[.slice A zs.length c] w fun e w' => e = .returned (.bool (riseB zs)) ∧ Below w.heap.size w w' := by
  generalize hg : riseB zs = r
  have HG := Lib.hid hg
  clear hg
  go_enter Try.func144, Try.ntmps144
  go_wp2
  go_loopw [3] (fun i wr => ∃ k : Nat, k ≤ zs.length ∧ i = .int .i64 ((k : Int) + 1) ∧ Hid (∀ j, j < k → j + 1 < zs.length → nth zs j < nth zs (j + 1)) ∧ Below w.heap.size w wr) (fun i _ => zs.length + 1 - (intOf i).toNat)
  case atStart => exact ⟨0, Nat.zero_le _, rfl, fun j hj => by omega, Below.refl _ _⟩
  case round =>
    obtain ⟨k, hk, rfl, HA, hb⟩ := hrel
    by_cases hlt : k + 1 < zs.length
    · obtain ⟨b, o, rfl, hc⟩ := (h.below hb).at_ (j := k) (by omega)
      obtain ⟨b', o', hbo, hc'⟩ := (h.below hb).at_ (j := k + 1) hlt
      cases hbo
      have w1 : IntKind.i64.wrap ((k : Int) + 1 - 1) = (k : Int) := by rw [show (k : Int) + 1 - 1 = (k : Int) from by omega]; exact IntWalk.i64_in _ (by omega)
      have w2 : IntKind.i64.wrap (k : Int) = (k : Int) := IntWalk.i64_in _ (by omega)
      have w3 : (0 : Int) ≤ (k : Int) + 1 := by omega
      have w4 : (k : Int) + 1 < (zs.length : Int) := by omega
      have w5 : (k : Int) < (zs.length : Int) := by omega
      have w6 : ((k : Int) + 1).toNat = k + 1 := by omega
      by_cases hz : nth zs k < nth zs (k + 1)
      · have HA' : Hid (∀ j, j < k + 1 → j + 1 < zs.length → nth zs j < nth zs (j + 1)) := fun j hj h2 => by
          by_cases e : j = k
          · subst e; exact hz
          · exact HA.out j (by omega) h2
        have hz2 : ¬ (nth zs (k + 1) ≤ nth zs k) := by omega
        have hz3 : decide (nth zs (k + 1) ≤ nth zs k) = false := decide_eq_false hz2
        go_wp2
        go_still (by kernel_rfl)
        go_wp2
        go_roundw
        case rel => exact ⟨k + 1, by omega, by go_num, HA', hb.drew⟩
        case measure => simp [intOf]; omega
      · have hr : r = false := by rw [← HG.out]; exact riseB_no hlt hz
        subst hr
        have hz2 : nth zs (k + 1) ≤ nth zs k := by omega
        have hz3 : decide (nth zs (k + 1) ≤ nth zs k) = true := decide_eq_true hz2
        go_wp2
        go_still (by kernel_rfl)
        go_wp2
        go_ret
        exact ⟨rfl, hb.drew⟩
    · have hr : r = true := by rw [← HG.out]; exact riseB_yes fun j hj => HA.out j (by omega) hj
      subst hr
      go_wp2
      go_ret
      exact ⟨rfl, hb⟩
end Go.Proofs.Ytombfbmcplefgaa
/- Contracts: events of a tree, the sum of their weights, what two lists have in common. -/
namespace Go.Proofs.Ytombfbmcplefgaa
open Go.ChangeShapes Go.WideShapes Go.ChangeAt Go.RowKit

set_option maxHeartbeats 1000000 in
set_option maxRecDepth 100000 in
theorem l1Rising_any (A : Option Addr) (c : Nat) (zs : List Int) (lo hi : Int) (w : World) (h : IntS w A zs) (hn : zs.length ≤ 2000000) :
    Calls Try.prog 152 #[.slice A zs.length c, .int .i64 lo, .int .i64 hi] w fun e w' => e = .returned (.bool (allIn zs lo hi && riseB zs)) ∧ Below w.heap.size w w' := by
  generalize hg : (allIn zs lo hi && riseB zs) = r
  have HG := Lib.hid hg
  clear hg
  go_enter Try.func152, Try.ntmps152
  go_wp2
  go_loopw [7] (fun i wr => ∃ k : Nat, k ≤ zs.length ∧ i = .int .i64 (k : Int) ∧ Hid (∀ j, j < k → lo ≤ nth zs j ∧ nth zs j ≤ hi) ∧ Hid (∀ j, j + 1 < k → nth zs j < nth zs (j + 1)) ∧ Below w.heap.size w wr) (fun i _ => zs.length - (intOf i).toNat)
  case atStart => exact ⟨0, Nat.zero_le _, rfl, fun j hj => by omega, fun j hj => by omega, Below.refl _ _⟩
  case round =>
    obtain ⟨k, hk, rfl, HA, HR, hb⟩ := hrel
    by_cases hlt : k < zs.length
    · obtain ⟨b, o, rfl, hc⟩ := (h.below hb).at_ (j := k) hlt
      have v1 : (k : Int) < (zs.length : Int) := by omega
      have v0 : (0 : Int) ≤ (k : Int) := by omega
      by_cases hz : lo ≤ nth zs k ∧ nth zs k ≤ hi
      · have HA' : Hid (∀ j, j < k + 1 → lo ≤ nth zs j ∧ nth zs j ≤ hi) := fun j hj => by
          by_cases e : j = k
          · subst e; exact hz
          · exact HA.out j (by omega)
        by_cases h0 : k = 0
        · subst h0
          have HR' : Hid (∀ j, j + 1 < 0 + 1 → nth zs j < nth zs (j + 1)) := fun j hj => by omega
          obtain ⟨z1, z2⟩ := hz
          rw [Nat.add_zero] at hc
          have v3 : 0 < zs.length := hlt
          go_wp2_with fail
          go_quiet (first | (go_at_call 115; exact quiet_eq (l1In_yes _ _ _ _ (by omega) (by omega))))
          go_wp2
          go_roundw
          case rel => exact ⟨0 + 1, by omega, by go_num, HA', HR', Below.drewN' hb _⟩
          case measure => simp [intOf]; omega
        · obtain ⟨q, rfl⟩ : ∃ q, k = q + 1 := ⟨k - 1, by omega⟩
          obtain ⟨b', o', hbo, hc'⟩ := (h.below hb).at_ (j := q) (by omega)
          cases hbo
          obtain ⟨z1, z2⟩ := hz
          have w1 : IntKind.i64.wrap (((q + 1 : Nat) : Int) - 1) = (q : Int) := by rw [show ((q + 1 : Nat) : Int) - 1 = (q : Int) from by omega]; exact IntWalk.i64_in _ (by omega)
          have w2 : IntKind.i64.wrap ((q : Int) + 1 - 1) = (q : Int) := by rw [show (q : Int) + 1 - 1 = (q : Int) from by omega]; exact IntWalk.i64_in _ (by omega)
          have w3 : IntKind.i64.wrap (q : Int) = (q : Int) := IntWalk.i64_in _ (by omega)
          have w4 : (0 : Int) < ((q + 1 : Nat) : Int) := by omega
          have w5 : (q : Int) < (zs.length : Int) := by omega
          have w6 : ((q : Int) + 1).toNat = q + 1 := by omega
          have w7 : (q : Int) + 1 < (zs.length : Int) := by omega
          have w8 : (0 : Int) ≤ (q : Int) := by omega
          have w9 : (0 : Int) ≤ (q : Int) + 1 := by omega
          have w10 : (0 : Int) < (q : Int) + 1 := by omega
          by_cases hy : nth zs q < nth zs (q + 1)
          · have HR' : Hid (∀ j, j + 1 < q + 1 + 1 → nth zs j < nth zs (j + 1)) := fun j hj => by
              by_cases e : j = q
              · subst e; exact hy
              · exact HR.out j (by omega)
            have hz2 : ¬ (nth zs (q + 1) ≤ nth zs q) := by omega
            have hz3 : decide (nth zs (q + 1) ≤ nth zs q) = false := decide_eq_false hz2
            go_wp2_with fail
            go_quiet (first | (go_at_call 115; exact quiet_eq (l1In_yes _ _ _ _ (by omega) (by omega))))
            go_wp2
            go_roundw
            case rel => exact ⟨q + 1 + 1, by omega, by go_num, HA', HR', Below.drewN' hb _⟩
            case measure => simp [intOf]; omega
          · have hr : r = false := by rw [← HG.out, riseB_no hlt hy]; simp
            subst hr
            have hz2 : nth zs (q + 1) ≤ nth zs q := by omega
            have hz3 : decide (nth zs (q + 1) ≤ nth zs q) = true := decide_eq_true hz2
            go_wp2_with fail
            go_quiet (first | (go_at_call 115; exact quiet_eq (l1In_yes _ _ _ _ (by omega) (by omega))))
            go_wp2
            go_ret
            exact ⟨rfl, Below.drewN' hb _⟩
      · have hr : r = false := by rw [← HG.out, allIn_no hlt hz]; rfl
        subst hr
        go_wp2_with fail
        go_quiet (first | (go_at_call 115; exact quiet_eq (l1In_no _ _ _ _ hz)))
        go_wp2
        go_ret
        exact ⟨rfl, Below.drewN' hb _⟩
    · have hr : r = true := by
        rw [← HG.out, allIn_yes fun j hj => HA.out j (by omega), riseB_yes fun j hj => HR.out j (by omega)]; rfl
      subst hr
      go_wp2
      go_ret
      exact ⟨rfl, hb⟩

/-- All of a list are ends of the tree. -/
def evIn (xs zs : List Int) : Bool := (List.range zs.length).all fun j => isNd xs.length (nth zs j) && noKid xs xs.length (nth zs j).toNat
/-- An event of a valid tree. -/
def isEv (xs zs : List Int) : Bool := evIn xs zs && riseB zs
theorem evIn_no {xs zs : List Int} {j : Nat} (hj : j < zs.length) (h : (isNd xs.length (nth zs j) && noKid xs xs.length (nth zs j).toNat) = false) : evIn xs zs = false := by
  rw [Bool.eq_false_iff]; intro ha
  have := List.all_eq_true.1 ha j (List.mem_range.2 hj)
  rw [h] at this; cases this
theorem evIn_iff {xs zs : List Int} : evIn xs zs = true ↔ ∀ j, j < zs.length → isNd xs.length (nth zs j) = true ∧ noKid xs xs.length (nth zs j).toNat = true :=
  ⟨fun ha j hj => Bool.and_eq_true_iff.1 (List.all_eq_true.1 ha j (List.mem_range.2 hj)), fun h => List.all_eq_true.2 fun j hj => Bool.and_eq_true_iff.2 (h j (List.mem_range.1 hj))⟩
theorem ev_node {xs zs : List Int} (h : isEv xs zs = true) : ∀ j, j < zs.length → ∃ q : Nat, nth zs j = q ∧ q < xs.length := fun j hj =>
  nd_nat (evIn_iff.1 (Bool.and_eq_true_iff.1 h).1 j hj).1
theorem ev_len {xs zs : List Int} (h : isEv xs zs = true) : zs.length ≤ xs.length :=
  rise_len (Bool.and_eq_true_iff.1 h).2 fun j hj => by obtain ⟨q, h1, h2⟩ := ev_node h j hj; omega

set_option maxHeartbeats 2000000 in
set_option maxRecDepth 100000 in
theorem l2Event_good {xs ys : List Int} (hg : good xs ys = true) (A B P : Option Addr) (c e cz : Nat) (zs : List Int) (w : World) (h : IntS w A xs) (k : IntS w B ys) (z : IntS w P zs) (hx : Bd xs) (hy : Bd ys) (hz : zs.length ≤ 1048576) :
    Calls Try.prog 123 #[.agg #[.slice A xs.length c, .slice B ys.length e], .slice P zs.length cz] w fun e1 w' => e1 = .returned (.bool (isEv xs zs)) ∧ Below w.heap.size w w' := by
  have hgl := good_len hg
  have HG := Lib.hid (fun W (h : IntS W A xs) (k : IntS W B ys) => l2Good_r hg A B c e W h k hx hy (by omega) (by omega))
  have HR := Lib.hid (fun W (z : IntS W P zs) => l1Rising_any P cz zs 0 ((xs.length : Int) - 1) W z (by omega))
  have HW : Hid (∀ q, q < xs.length → decide (0 < nth ys q) = noKid xs xs.length q ∧ 0 ≤ nth ys q) := fun q hq => ⟨wt_end hg hq, (good_wt hg q).1⟩
  clear hx hy hg
  obtain ⟨r1, q1⟩ : ∃ r, (allIn zs 0 ((xs.length : Int) - 1) && riseB zs) = r := ⟨_, rfl⟩
  rw [q1] at HR
  generalize hr : isEv xs zs = r
  have HE := Lib.hid hr
  clear hr
  cases r1
  · have hr : r = false := by
      rw [← HE.out]; unfold isEv
      rcases Bool.and_eq_false_iff.1 q1 with h1 | h1
      · cases he : evIn xs zs
        · rfl
        · have : allIn zs 0 ((xs.length : Int) - 1) = true := allIn_yes fun j hj => of_decide_eq_true (evIn_iff.1 he j hj).1
          rw [this] at h1; cases h1
      · rw [h1]; simp
    subst hr
    have n1 : 1 ≤ xs.length := hgl.1
    have n2 : xs.length ≤ 24 := hgl.2.1
    clear q1 HE HW hgl
    go_enter Try.func123, Try.ntmps123
    go_wp2_with fail
    refine (HG.out _ (h.alloc _) (k.alloc _)).mono ?_
    rintro e1 w1 ⟨rfl, hb1⟩
    have hx0 : w1.cell? ⟨w.heap.size, 0, none⟩ = some (.slice A xs.length c) := keep_cell hb1 (by simp)
    have hx1 : w1.cell? ⟨w.heap.size, 1, none⟩ = some (.slice B ys.length e) := keep_cell hb1 (by simp)
    have hw : Below w.heap.size w w1 := below_alloc hb1
    clear hb1
    go_wp2_with fail
    refine (HR.out _ (z.below hw)).mono ?_
    rintro e1 w2 ⟨rfl, hb2⟩
    go_wp2
    go_ret
    exact ⟨rfl, keep_below hb2 hw⟩
  · have hq := Bool.and_eq_true_iff.1 q1
    have HN : Hid (∀ j, j < zs.length → ∃ q : Nat, nth zs j = q ∧ q < xs.length) := fun j hj => by have := allIn_iff.1 hq.1 j hj; exact ⟨(nth zs j).toNat, by omega, by omega⟩
    have HR2 : Hid (riseB zs = true) := hq.2
    clear q1 hq
    obtain ⟨n, e1⟩ : ∃ n, xs.length = n := ⟨_, rfl⟩
    have e2 : ys.length = n := by rw [hgl.2.2]; exact e1
    have HY : Hid (n = ys.length) := e2.symm
    have HX : Hid (n = xs.length) := e1.symm
    simp only [e1, e2] at HG HR HN HW hgl ⊢
    obtain ⟨g1, g2, _⟩ := hgl
    clear e1 e2
    go_enter Try.func123, Try.ntmps123
    go_wp2_with fail
    refine (HG.out _ (h.alloc _) (k.alloc _)).mono ?_
    rintro e1 w1 ⟨rfl, hb1⟩
    have hx0 : w1.cell? ⟨w.heap.size, 0, none⟩ = some (.slice A n c) := keep_cell hb1 (by simp)
    have hx1 : w1.cell? ⟨w.heap.size, 1, none⟩ = some (.slice B n e) := keep_cell hb1 (by simp)
    have hw : Below w.heap.size w w1 := below_alloc hb1
    clear hb1
    go_wp2_with fail
    refine (HR.out _ (z.below hw)).mono ?_
    rintro e1 w2 ⟨rfl, hb2⟩
    replace hx0 := keep_cell hb2 hx0
    replace hx1 := keep_cell hb2 hx1
    replace hw := keep_below hb2 hw
    clear hb2 HG HR
    go_wp2
    go_loopw [5] (fun i wr => ∃ j : Nat, j ≤ zs.length ∧ i = .int .i64 (j : Int) ∧ Hid (∀ q, q < j → isNd n (nth zs q) = true ∧ noKid xs n (nth zs q).toNat = true) ∧ wr.cell? ⟨w.heap.size, 0, none⟩ = some (.slice A n c) ∧ wr.cell? ⟨w.heap.size, 1, none⟩ = some (.slice B n e) ∧ Below w.heap.size w wr) (fun i _ => zs.length - (intOf i).toNat)
    case atStart => exact ⟨0, Nat.zero_le _, rfl, fun j hj => by omega, hx0, hx1, hw⟩
    case round =>
      clear hx0 hx1 hw
      obtain ⟨j, hj, rfl, HA, hx0, hx1, hw⟩ := hrel
      by_cases hlt : j < zs.length
      · obtain ⟨b, o, rfl, hc⟩ := (z.below hw).at_ (j := j) hlt
        obtain ⟨q, hq, hqn⟩ := HN.out j hlt
        obtain ⟨b2, o2, rfl, hc2⟩ := (k.below hw).at_ (j := q) (by rw [← HY.out]; exact hqn)
        obtain ⟨t1, t2⟩ := HW.out q hqn
        rw [hq] at hc
        have v1 : (j : Int) < (zs.length : Int) := by omega
        have v2 : (0 : Int) ≤ (j : Int) := by omega
        have v3 : (q : Int) < (n : Int) := by omega
        have v4 : (0 : Int) ≤ (q : Int) := by omega
        cases hk : noKid xs n q
        · have hr : r = false := by
            rw [← HE.out]; unfold isEv
            rw [evIn_no hlt (by rw [hq, Int.toNat_natCast, ← HX.out, hk]; simp)]; rfl
          subst hr
          rw [hk] at t1
          have hy0 : nth ys q = 0 := by have := of_decide_eq_false t1; omega
          rw [hy0] at hc2
          clear t1 t2 hk hy0 HE hq
          go_wp2
          go_still (by kernel_rfl)
          go_wp2
          go_ret
          exact ⟨rfl, hw.drew⟩
        · have HA' : Hid (∀ q, q < j + 1 → isNd n (nth zs q) = true ∧ noKid xs n (nth zs q).toNat = true) := fun i hi => by
            by_cases e : i = j
            · subst e; rw [hq, Int.toNat_natCast]; exact ⟨by unfold isNd; exact decide_eq_true (by omega), hk⟩
            · exact HA.out i (by omega)
          rw [hk] at t1
          have hy0 : (nth ys q == 0) = false := by have := of_decide_eq_true t1; simp; omega
          clear t1 t2 hk hq
          generalize nth ys q = y at *
          go_wp2
          go_still (by kernel_rfl)
          go_wp2
          go_roundw
          case rel => exact ⟨j + 1, by omega, by go_num, HA', hx0, hx1, hw.drew⟩
          case measure => simp [intOf]; omega
      · have hr : r = true := by
          rw [← HE.out]; unfold isEv
          rw [HR2.out, evIn_iff.2 fun i hi => by rw [← HX.out]; exact HA.out i (by omega)]; rfl
        subst hr
        go_wp2
        go_ret
        exact ⟨rfl, hw⟩
theorem l2Event_any (A B P : Option Addr) (c e cz : Nat) (xs ys zs : List Int) (w : World) (h : IntS w A xs) (k : IntS w B ys) (z : IntS w P zs) (hx : Bd xs) (hy : Bd ys) (hn : xs.length ≤ 1048576) (hm : ys.length ≤ 1048576) (hz : zs.length ≤ 1048576) :
    Calls Try.prog 123 #[.agg #[.slice A xs.length c, .slice B ys.length e], .slice P zs.length cz] w fun e1 w' => e1 = .returned (.bool (good xs ys && isEv xs zs)) ∧ Below w.heap.size w w' := by
  cases hg : good xs ys
  · have HG := Lib.hid (fun W (h : IntS W A xs) (k : IntS W B ys) => l2Good_r hg A B c e W h k hx hy hn hm)
    clear hx hy hg
    simp only [Bool.false_and]
    go_enter Try.func123, Try.ntmps123
    go_wp2_with fail
    refine (HG.out _ (h.alloc _) (k.alloc _)).mono ?_
    rintro e1 w1 ⟨rfl, hb1⟩
    go_wp2
    go_ret
    exact ⟨rfl, below_alloc hb1⟩
  · rw [Bool.true_and]; exact l2Event_good hg A B P c e cz zs w h k z hx hy hz
set_option maxHeartbeats 2000000 in
set_option maxRecDepth 100000 in
theorem isEvent_good {xs ys : List Int} (hg : good xs ys = true) (A B P : Option Addr) (c m e cz : Nat) (zs : List Int) (w : World) (h : IntS w A xs) (z : IntS w P zs) (hz : zs.length ≤ 1048576) :
    Calls Try.prog 120 #[.agg #[.slice A xs.length c, .slice B m e], .slice P zs.length cz] w fun e1 w' => e1 = .returned (.bool (isEv xs zs)) ∧ Below w.heap.size w w' := by
  have hgl := good_len hg
  have HE := Lib.hid (fun W (h : IntS W A xs) => isEnd_any A B c m e xs W h (by omega) (Lib.hid ((good_iff.1 hg).2.1.lt (good_iff.1 hg).1.2.2)))
  have HD := Lib.hid (fun W x => isNode_any A B c m e xs.length x W (by omega))
  have HR := Lib.hid (fun W (z : IntS W P zs) => rising_any P cz zs W z (by omega))
  generalize hr : isEv xs zs = r
  have HV := Lib.hid hr
  obtain ⟨n, e1⟩ : ∃ n, xs.length = n := ⟨_, rfl⟩
  have HX : Hid (n = xs.length) := e1.symm
  simp only [e1] at HE HD hgl ⊢
  obtain ⟨g1, g2, _⟩ := hgl
  clear e1 hg hr
  go_enter Try.func120, Try.ntmps120
  go_wp2_with fail
  refine (HE.out _ (h.alloc _)).mono ?_
  rintro e1 w1 ⟨g, rfl, hrb, hge, hb1⟩
  have hx0 : w1.cell? ⟨w.heap.size, 0, none⟩ = some (.slice A n c) := keep_cell hb1 (by simp)
  have hx1 : w1.cell? ⟨w.heap.size, 1, none⟩ = some (.slice B m e) := keep_cell hb1 (by simp)
  have hw : Below w.heap.size w w1 := below_alloc hb1
  clear hb1 hge HE
  go_wp2
  go_loopw [12] (fun i wr => ∃ j : Nat, j ≤ zs.length ∧ i = .int .i64 (j : Int) ∧ Hid (∀ q, q < j → isNd n (nth zs q) = true ∧ noKid xs n (nth zs q).toNat = true) ∧ RowB wr g n (noKid xs n) ∧ wr.cell? ⟨w.heap.size, 0, none⟩ = some (.slice A n c) ∧ wr.cell? ⟨w.heap.size, 1, none⟩ = some (.slice B m e) ∧ Below w.heap.size w wr) (fun i _ => zs.length - (intOf i).toNat)
  case atStart => exact ⟨0, Nat.zero_le _, rfl, fun j hj => by omega, hrb, hx0, hx1, hw⟩
  case round =>
    clear hx0 hx1 hw hrb
    obtain ⟨j, hj, rfl, HA, hrb, hx0, hx1, hw⟩ := hrel
    by_cases hlt : j < zs.length
    · obtain ⟨b, o, rfl, hc⟩ := (z.below hw).at_ (j := j) hlt
      cases hd : isNd n (nth zs j)
      · have hr : r = false := by
          rw [← HV.out]; unfold isEv
          rw [evIn_no hlt (by rw [← HX.out, hd]; rfl)]; rfl
        subst hr
        have HD' := Lib.hid (fun W => HD.out W (nth zs j))
        rw [hd] at HD'
        clear hd HV
        generalize nth zs j = x at *
        go_wp2_with fail
        refine (HD'.out _).mono ?_
        rintro e1 w2 ⟨rfl, hb2⟩
        replace hw := keep_below hb2 hw
        clear hb2
        go_wp2
        go_ret
        exact ⟨rfl, hw⟩
      · obtain ⟨q, hq, hqn⟩ := nd_nat hd
        have HD' := Lib.hid (fun W => HD.out W (nth zs j))
        rw [hd, hq] at HD'
        have HAq : Hid (noKid xs n q = true → ∀ q, q < j + 1 → isNd n (nth zs q) = true ∧ noKid xs n (nth zs q).toNat = true) := fun hk i hi => by
          by_cases e : i = j
          · subst e; rw [hq, Int.toNat_natCast]; rw [hq] at hd; exact ⟨hd, hk⟩
          · exact HA.out i (by omega)
        have HNo : Hid (noKid xs n q = false → r = false) := fun hk => by
          rw [← HV.out]; unfold isEv
          rw [evIn_no hlt (by rw [hq, Int.toNat_natCast, ← HX.out, hk]; simp)]; rfl
        rw [hq] at hc
        clear hd hq
        go_wp2_with fail
        refine (HD'.out _).mono ?_
        rintro e1 w2 ⟨rfl, hb2⟩
        replace hx0 := keep_cell hb2 hx0
        replace hx1 := keep_cell hb2 hx1
        replace hrb := hrb.below hb2
        replace hw := keep_below hb2 hw
        clear hb2 HD'
        have hcb := hrb.cell hqn
        have v3 : (q : Int) < (n : Int) := by omega
        cases hk : noKid xs n q
        · have hr : r = false := HNo.out hk
          subst hr
          rw [hk] at hcb
          clear hk
          go_wp2
          go_ret
          exact ⟨rfl, hw⟩
        · have HA' := Lib.hid (HAq.out hk)
          rw [hk] at hcb
          clear hk
          go_wp2
          go_roundw
          case rel => exact ⟨j + 1, by omega, by go_num, HA', hrb, hx0, hx1, hw⟩
          case measure => simp [intOf]; omega
    · have hr : r = riseB zs := by
        rw [← HV.out]; unfold isEv
        rw [evIn_iff.2 fun i hi => by rw [← HX.out]; exact HA.out i (by omega)]; rfl
      clear HV HA
      subst hr
      go_wp2_with fail
      refine (HR.out _ (z.below hw)).mono ?_
      rintro e1 w2 ⟨rfl, hb2⟩
      go_wp2
      go_ret
      exact ⟨rfl, keep_below hb2 hw⟩

/-- The sum of the weights of the first k numbers of a list of nodes. -/
def sumW (ys zs : List Int) : Nat → Int
  | 0 => 0
  | k + 1 => sumW ys zs k + nth ys (nth zs k).toNat
theorem sumW_bd {xs ys : List Int} (hg : good xs ys = true) (zs : List Int) (k : Nat) : 0 ≤ sumW ys zs k ∧ sumW ys zs k ≤ 20 * (k : Int) := by
  induction k with
  | zero => simp [sumW]
  | succ k ih => rw [sumW]; have := good_wt hg (nth zs k).toNat; omega
def heavy (ys zs : List Int) : Int := sumW ys zs zs.length

set_option maxHeartbeats 1000000 in
set_option maxRecDepth 100000 in
theorem l2Heavy_any {xs ys : List Int} (hg : good xs ys = true) (A B P : Option Addr) (n c e cz : Nat) (zs : List Int) (w : World) (k : IntS w B ys) (z : IntS w P zs) (hz : zs.length ≤ 1048576) (hnd : ∀ j, j < zs.length → ∃ q : Nat, nth zs j = q ∧ q < ys.length) :
    Calls Try.prog 124 #[.agg #[.slice A n c, .slice B ys.length e], .slice P zs.length cz] w fun e1 w' => e1 = .returned (.int .i64 (heavy ys zs)) ∧ Below w.heap.size w w' := by
  have HB := Lib.hid (fun k => sumW_bd hg zs k)
  have HN := Lib.hid hnd
  have HW := Lib.hid (fun q => good_wt hg q)
  unfold heavy
  clear hnd hg
  go_enter Try.func124, Try.ntmps124
  go_wp2
  go_loopw [5, 6] (fun s i wr => ∃ j : Nat, j ≤ zs.length ∧ i = .int .i64 (j : Int) ∧ s = .int .i64 (sumW ys zs j) ∧ wr.cell? ⟨w.heap.size, 1, none⟩ = some (.slice B ys.length e) ∧ Below w.heap.size w wr) (fun _ i _ => zs.length - (intOf i).toNat)
  case atStart => exact ⟨0, Nat.zero_le _, rfl, rfl, by simp, by (repeat (first | with_reducible exact Below.refl _ _ | with_reducible assumption | with_reducible refine Below.alloc' ?_ ?_ _ | with_reducible refine Below.setCell' ?_ ?_ _ | with_reducible refine Below.drewN' ?_ _ | with_reducible refine Below.drew ?_ | with_reducible refine Below.transA ?_ (by assumption) ?_ | omega | (focus (simp; done)) | (focus (simp; omega))))⟩
  case round =>
    obtain ⟨j, hj, rfl, rfl, hx1, hw⟩ := hrel
    have hbd := HB.out j
    by_cases hlt : j < zs.length
    · obtain ⟨b, o, rfl, hc⟩ := (z.below hw).at_ (j := j) hlt
      obtain ⟨q, hq, hqn⟩ := HN.out j hlt
      obtain ⟨b2, o2, rfl, hc2⟩ := (k.below hw).at_ (j := q) hqn
      have hwq := HW.out q
      rw [hq] at hc
      have HS : Hid (sumW ys zs (j + 1) = sumW ys zs j + nth ys q) := by show sumW _ _ _ + _ = _; rw [hq]; rfl
      have v1 : (j : Int) < (zs.length : Int) := by omega
      have v3 : (q : Int) < (ys.length : Int) := by omega
      clear hq
      generalize nth ys q = y at *
      generalize sumW ys zs j = s at *
      have v5 : IntKind.i64.wrap (s + y) = s + y := IntWalk.i64_in _ (by omega)
      go_wp2
      go_still (by kernel_rfl)
      go_wp2
      go_roundw
      case rel => exact ⟨j + 1, by omega, by go_num, by rw [HS.out], hx1, hw.drew⟩
      case measure => simp [intOf]; omega
    · have hje : j = zs.length := by omega
      have HR : Hid (sumW ys zs j = sumW ys zs zs.length) := by show _ = _; rw [hje]
      clear hje
      go_wp2
      go_ret
      exact ⟨ret_int HR.out, hw⟩
set_option maxHeartbeats 1000000 in
set_option maxRecDepth 100000 in
theorem weighed_any {xs ys : List Int} (hg : good xs ys = true) (A B P : Option Addr) (n c e cz : Nat) (zs : List Int) (w : World) (k : IntS w B ys) (z : IntS w P zs) (hz : zs.length ≤ 1048576) (hnd : ∀ j, j < zs.length → ∃ q : Nat, nth zs j = q ∧ q < ys.length) :
    Calls Try.prog 121 #[.agg #[.slice A n c, .slice B ys.length e], .slice P zs.length cz] w fun e1 w' => e1 = .returned (.int .i64 (heavy ys zs)) ∧ Below w.heap.size w w' := by
  have HB := Lib.hid (fun k => sumW_bd hg zs k)
  have HN := Lib.hid hnd
  have HW := Lib.hid (fun q => good_wt hg q)
  unfold heavy
  clear hnd hg
  go_enter Try.func121, Try.ntmps121
  go_wp2
  go_loopw [5, 10] (fun s i wr => ∃ j : Nat, j ≤ zs.length ∧ i = .int .i64 (j : Int) ∧ s = .int .i64 (sumW ys zs j) ∧ wr.cell? ⟨w.heap.size, 1, none⟩ = some (.slice B ys.length e) ∧ Below w.heap.size w wr) (fun _ i _ => zs.length - (intOf i).toNat)
  case atStart => exact ⟨0, Nat.zero_le _, rfl, rfl, by simp, by (repeat (first | with_reducible exact Below.refl _ _ | with_reducible assumption | with_reducible refine Below.alloc' ?_ ?_ _ | with_reducible refine Below.setCell' ?_ ?_ _ | with_reducible refine Below.drewN' ?_ _ | with_reducible refine Below.drew ?_ | with_reducible refine Below.transA ?_ (by assumption) ?_ | omega | (focus (simp; done)) | (focus (simp; omega))))⟩
  case round =>
    obtain ⟨j, hj, rfl, rfl, hx1, hw⟩ := hrel
    have hbd := HB.out j
    by_cases hlt : j < zs.length
    · obtain ⟨b, o, rfl, hc⟩ := (z.below hw).at_ (j := j) hlt
      obtain ⟨q, hq, hqn⟩ := HN.out j hlt
      obtain ⟨b2, o2, rfl, hc2⟩ := (k.below hw).at_ (j := q) hqn
      have hwq := HW.out q
      rw [hq] at hc
      have HS : Hid (sumW ys zs (j + 1) = sumW ys zs j + nth ys q) := by show sumW _ _ _ + _ = _; rw [hq]; rfl
      clear hq
      generalize nth ys q = y at *
      generalize sumW ys zs j = s at *
      go_wp2
      go_roundw
      case rel => exact ⟨j + 1, by omega, by go_num, by rw [HS.out], hx1, hw⟩
      case measure => simp [intOf]; omega
    · have hje : j = zs.length := by omega
      have HR : Hid (sumW ys zs j = sumW ys zs zs.length) := by show _ = _; rw [hje]
      clear hje
      go_wp2
      go_ret
      exact ⟨ret_int HR.out, hw⟩

/-- What is in both of two lists, among the first k numbers of the first one. -/
def bothK (a b : List Int) (k : Nat) : List Int := (a.take k).filter (hasB b)
def bothL (a b : List Int) : List Int := a.filter (hasB b)
theorem bothK_all (a b : List Int) : bothK a b a.length = bothL a b := by simp [bothK, bothL]
theorem bothK_yes {a b : List Int} {k : Nat} (h : k < a.length) (hb : hasB b (nth a k) = true) : bothK a b (k + 1) = bothK a b k ++ [nth a k] := by
  have e : nth a k = a[k] := by simp [nth, List.getD, h]
  unfold bothK
  rw [List.take_succ_eq_append_getElem h, List.filter_append, ← e]
  simp [hb]
theorem bothK_no {a b : List Int} {k : Nat} (h : k < a.length) (hb : hasB b (nth a k) = false) : bothK a b (k + 1) = bothK a b k := by
  have e : nth a k = a[k] := by simp [nth, List.getD, h]
  unfold bothK
  rw [List.take_succ_eq_append_getElem h, List.filter_append, ← e]
  simp [hb]
theorem bothK_len (a b : List Int) (k : Nat) : (bothK a b k).length ≤ k := by
  unfold bothK
  exact Nat.le_trans (List.length_filter_le _ _) (List.length_take_le _ _)
theorem bothL_len (a b : List Int) : (bothL a b).length ≤ a.length := List.length_filter_le _ _
theorem bothL_nth {a b : List Int} {j : Nat} (h : j < (bothL a b).length) : ∃ i, i < a.length ∧ nth (bothL a b) j = nth a i := by
  have h1 := List.mem_filter.1 (nth_mem h)
  obtain ⟨i, hi, he⟩ := mem_nth h1.1
  exact ⟨i, hi, he.symm⟩

set_option maxHeartbeats 1000000 in
set_option maxRecDepth 100000 in
theorem l2Both_any (P Q : Option Addr) (cp cq : Nat) (us bs : List Int) (w : World) (ha : IntS w P us) (hb : IntS w Q bs) (la : us.length ≤ 1048576) (lb : bs.length ≤ 1048576) :
    Calls Try.prog 125 #[.slice P us.length cp, .slice Q bs.length cq] w (RetI w (bothL us bs)) := by
  obtain ⟨i0, hi, hz0, hz1, hz2⟩ := info_parts info_int
  have HH := Lib.hid (fun W v (h : IntS W Q bs) => l1Has_any Q cq bs v W h (by omega))
  rw [← bothK_all]
  go_enter Try.func125, Try.ntmps125
  go_wp2
  go_loopw [5, 6] (fun v i wr => ∃ j : Nat, j ≤ us.length ∧ i = .int .i64 (j : Int) ∧ wr.ownsRow w.heap.size 3 1 v (bothK us bs j).length (i64s (bothK us bs j)) ∧ Below w.heap.size w wr) (fun _ i _ => us.length - (intOf i).toNat)
  case atStart => exact ⟨0, Nat.zero_le _, rfl, own_empty _ _ _ rfl (Nat.le_refl _), by (repeat (first | with_reducible exact Below.refl _ _ | with_reducible assumption | with_reducible refine Below.alloc' ?_ ?_ _ | with_reducible refine Below.setCell' ?_ ?_ _ | with_reducible refine Below.drewN' ?_ _ | with_reducible refine Below.drew ?_ | with_reducible refine Below.transA ?_ (by assumption) ?_ | omega | (focus (simp; done)) | (focus (simp; omega))))⟩
  case round =>
    obtain ⟨j, hj, rfl, hown, hw⟩ := hrel
    have hlen := bothK_len us bs j
    by_cases hlt : j < us.length
    · obtain ⟨b, o, rfl, hc⟩ := (ha.below hw).at_ (j := j) hlt
      have HQ := Lib.hid (fun W (h : IntS W Q bs) => HH.out W (nth us j) h)
      have hsz := hw.size
      cases hv : hasB bs (nth us j)
      · have hp := bothK_no hlt hv
        rw [hv] at HQ
        rw [← hp] at hown
        clear hp hv
        generalize nth us j = x at *
        go_wp2_with fail
        refine (HQ.out _ (hb.below hw)).mono ?_
        rintro e1 w1 ⟨rfl, rfl⟩
        go_wp2
        go_roundw
        case rel => exact ⟨j + 1, by omega, by go_num, hown, hw⟩
        case measure => simp [intOf]; omega
      · have HP : Hid (i64s (bothK us bs (j + 1)) = i64s (bothK us bs j) ++ [Value.int .i64 (nth us j)] ∧ (bothK us bs (j + 1)).length = (bothK us bs j).length + 1) := by
          rw [bothK_yes hlt hv]; exact ⟨i64s_app _ _, by simp⟩
        rw [hv] at HQ
        clear hv
        generalize nth us j = x at *
        generalize bothK us bs j = L at *
        go_wp2_with fail
        refine (HQ.out _ (hb.below hw)).mono ?_
        rintro e1 w1 ⟨rfl, rfl⟩
        go_wp2_with (at_builtin; (refine wpList_append_own_at _ rfl _ _ 22 rfl (w.heap.size) 3 i0 (.int .i64 0) 1 8 Try.underlying22 hi hz0 hz1 hz2 rfl (by decide) _ _ _ rfl (hown.alloc _) ⟨wr.heap.size, 0, none⟩ 1 1 [.int .i64 (x)] rfl rfl (cell_one_new _ _ _) (by simp [Value.oneCell']) (by unfold maxLen; omega) (by omega) (by simp; omega) ?_); intro v' w1 hown1 hgrow _ hat)
        have hb3 : Below w.heap.size w w1 := Below.grown (hw.alloc hsz _) hgrow (by simp; omega) (fun g hg => by have := (hown.lt g hg).1; omega)
        rw [← HP.out.1, ← HP.out.2] at hown1
        clear hown hgrow hw HP hat
        go_wp2
        go_roundw
        case rel => exact ⟨j + 1, by omega, by go_num, hown1, hb3⟩
        case measure => simp [intOf]; omega
    · have hje : j = us.length := by omega
      rw [hje] at hown
      obtain ⟨A', c', rfl, hO⟩ := own_form hown
      clear hje hown
      go_wp2
      go_ret
      exact ⟨A', c', rfl, hO, hw⟩
set_option maxHeartbeats 1000000 in
set_option maxRecDepth 100000 in
theorem both_any (P Q : Option Addr) (cp cq : Nat) (us bs : List Int) (w : World) (ha : IntS w P us) (hb : IntS w Q bs) (la : us.length ≤ 1048576) (lb : bs.length ≤ 1048576) :
    Calls Try.prog 122 #[.slice P us.length cp, .slice Q bs.length cq] w (RetI w (bothL us bs)) := by
  obtain ⟨i0, hi, hz0, hz1, hz2⟩ := info_parts info_int
  have HH := Lib.hid (fun W v (h : IntS W Q bs) => contains_any Q cq bs v W h (by omega))
  rw [← bothK_all]
  go_enter Try.func122, Try.ntmps122
  go_wp2
  go_loopw [5, 11] (fun v i wr => ∃ j : Nat, j ≤ us.length ∧ i = .int .i64 (j : Int) ∧ wr.ownsRow w.heap.size 3 1 v (bothK us bs j).length (i64s (bothK us bs j)) ∧ Below w.heap.size w wr) (fun _ i _ => us.length - (intOf i).toNat)
  case atStart => exact ⟨0, Nat.zero_le _, rfl, own_empty _ _ _ rfl (Nat.le_refl _), by (repeat (first | with_reducible exact Below.refl _ _ | with_reducible assumption | with_reducible refine Below.alloc' ?_ ?_ _ | with_reducible refine Below.setCell' ?_ ?_ _ | with_reducible refine Below.drewN' ?_ _ | with_reducible refine Below.drew ?_ | with_reducible refine Below.transA ?_ (by assumption) ?_ | omega | (focus (simp; done)) | (focus (simp; omega))))⟩
  case round =>
    obtain ⟨j, hj, rfl, hown, hw⟩ := hrel
    have hlen := bothK_len us bs j
    by_cases hlt : j < us.length
    · obtain ⟨b, o, rfl, hc⟩ := (ha.below hw).at_ (j := j) hlt
      have HQ := Lib.hid (fun W (h : IntS W Q bs) => HH.out W (nth us j) h)
      have hsz := hw.size
      cases hv : hasB bs (nth us j)
      · have hp := bothK_no hlt hv
        rw [hv] at HQ
        rw [← hp] at hown
        clear hp hv
        generalize nth us j = x at *
        go_wp2_with fail
        refine (HQ.out _ (hb.below hw)).mono ?_
        rintro e1 w1 ⟨rfl, rfl⟩
        go_wp2
        go_roundw
        case rel => exact ⟨j + 1, by omega, by go_num, hown, hw⟩
        case measure => simp [intOf]; omega
      · have HP : Hid (i64s (bothK us bs (j + 1)) = i64s (bothK us bs j) ++ [Value.int .i64 (nth us j)] ∧ (bothK us bs (j + 1)).length = (bothK us bs j).length + 1) := by
          rw [bothK_yes hlt hv]; exact ⟨i64s_app _ _, by simp⟩
        rw [hv] at HQ
        clear hv
        generalize nth us j = x at *
        generalize bothK us bs j = L at *
        go_wp2_with fail
        refine (HQ.out _ (hb.below hw)).mono ?_
        rintro e1 w1 ⟨rfl, rfl⟩
        go_wp2_with (at_builtin; (refine wpList_append_own_at _ rfl _ _ 22 rfl (w.heap.size) 3 i0 (.int .i64 0) 1 8 Try.underlying22 hi hz0 hz1 hz2 rfl (by decide) _ _ _ rfl (hown.alloc _) ⟨wr.heap.size, 0, none⟩ 1 1 [.int .i64 (x)] rfl rfl (cell_one_new _ _ _) (by simp [Value.oneCell']) (by unfold maxLen; omega) (by omega) (by simp; omega) ?_); intro v' w1 hown1 hgrow _ hat)
        have hb3 : Below w.heap.size w w1 := Below.grown (hw.alloc hsz _) hgrow (by simp; omega) (fun g hg => by have := (hown.lt g hg).1; omega)
        rw [← HP.out.1, ← HP.out.2] at hown1
        clear hown hgrow hw HP hat
        go_wp2
        go_roundw
        case rel => exact ⟨j + 1, by omega, by go_num, hown1, hb3⟩
        case measure => simp [intOf]; omega
    · have hje : j = us.length := by omega
      rw [hje] at hown
      obtain ⟨A', c', rfl, hO⟩ := own_form hown
      clear hje hown
      go_wp2
      go_ret
      exact ⟨A', c', rfl, hO, hw⟩
end Go.Proofs.Ytombfbmcplefgaa
