/- Contracts: the laws' own comparisons of lists and of lists of fractions, and whether a list has a number. -/
import Derived.StillTailTactics
import Derived.Test.YtombfbmcplefgaaMgMn10
import Derived.Test.YtombfbmcplefgaaMgMn11
import Derived.Test.YtombfbmcplefgaaMgMn9
namespace Go.Proofs.Ytombfbmcplefgaa
open Go.ChangeShapes Go.WideShapes Go.ChangeAt Go.RowKit

set_option maxHeartbeats 1000000 in
theorem rInts_same (A B : Option Addr) (c e : Nat) (xs : List Int) (w : World) (h : IntS w A xs) (k : IntS w B xs) (hn : xs.length ≤ 2000000) :
    Calls Try.prog 55 #[.slice A xs.length c, .slice B xs.length e] w fun e w' => e = .returned (.bool true) ∧ Below w.heap.size w w' := by
  go_enter Try.func55, Try.ntmps55
  go_wp2
  go_loopw [5] (fun i wr => ∃ k : Nat, k ≤ xs.length ∧ i = .int .i64 k ∧ ∃ n, wr = w.drewN n) (fun i _ => xs.length - (intOf i).toNat)
  case atStart => exact ⟨0, Nat.zero_le _, rfl, 0, rfl⟩
  case round =>
    obtain ⟨j, hj, rfl, nq, rfl⟩ := hrel
    by_cases hlt : j < xs.length
    · obtain ⟨b, o, rfl, hc⟩ := h.at_ hlt
      obtain ⟨b', o', rfl, hc'⟩ := k.at_ hlt
      have i0 : (0 : Int) ≤ (j : Int) := by omega
      have i1 : (j : Int) < (xs.length : Int) := by omega
      clear h k
      go_wp2_with fail
      go_quiet (fail)
      go_wp2
      go_roundw
      case rel => exact ⟨j + 1, by omega, by go_num, _, rfl⟩
      case measure => simp [intOf]; omega
    · go_wp2
      go_ret
      exact ⟨rfl, Below.drewN' (Below.refl _ _) _⟩
set_option maxHeartbeats 1000000 in
set_option maxRecDepth 100000 in
theorem rFracs_same (A B : Option Addr) (c e : Nat) (L : List (Int × Int)) (w : World) (h : Prs w A L) (k : Prs w B L) (hn : L.length ≤ 2000000) :
    Calls Try.prog 63 #[.slice A L.length c, .slice B L.length e] w fun e w' => e = .returned (.bool true) ∧ Below w.heap.size w w' := by
  go_enter Try.func63, Try.ntmps63
  go_wp2
  go_loopw [5] (fun i wr => ∃ k : Nat, k ≤ L.length ∧ i = .int .i64 k ∧ Below w.heap.size w wr) (fun i _ => L.length - (intOf i).toNat)
  case atStart => exact ⟨0, Nat.zero_le _, rfl, Below.refl _ _⟩
  case round =>
    obtain ⟨j, hj, rfl, hw⟩ := hrel
    by_cases hlt : j < L.length
    · obtain ⟨g1, rfl, hr1⟩ := (h.below hw) (by omega)
      obtain ⟨g2, rfl, hr2⟩ := (k.below hw) (by omega)
      have c1 := hr1.cell0 hlt
      have c2 := hr1.cell1 hlt
      have c3 := hr2.cell0 hlt
      have c4 := hr2.cell1 hlt
      have i1 : (j : Int) < L.length := by omega
      have i0 : (0 : Int) ≤ (j : Int) := by omega
      clear h k hr1 hr2
      obtain ⟨a, ha⟩ : ∃ a, (nthp L j).1 = a := ⟨_, rfl⟩
      obtain ⟨b, hb⟩ : ∃ b, (nthp L j).2 = b := ⟨_, rfl⟩
      rw [ha] at c1 c3
      rw [hb] at c2 c4
      clear ha hb
      have hQ := eqA2_same a b
      go_wp2
      go_still (by kernel_rfl)
      go_wp2
      go_roundw
      case rel => exact ⟨j + 1, by omega, by go_num, by (repeat (first | with_reducible exact Below.refl _ _ | with_reducible assumption | with_reducible refine Below.alloc' ?_ ?_ _ | with_reducible refine Below.setCell' ?_ ?_ _ | with_reducible refine Below.drewN' ?_ _ | with_reducible refine Below.drew ?_ | with_reducible refine Below.transA ?_ (by assumption) ?_ | omega | (focus (simp; done)) | (focus (simp; omega))))⟩
      case measure => simp [intOf]; omega
    · go_wp2
      go_ret
      exact ⟨rfl, hw⟩
set_option maxHeartbeats 1000000 in
set_option maxRecDepth 100000 in
theorem rFracs_q (A B : Option Addr) (c e : Nat) (L : List (Int × Int)) (w : World) (h : Prs w A L) (k : Prs w B L) (hn : L.length ≤ 2000000) :
    Calls Try.prog 63 #[.slice A L.length c, .slice B L.length e] w fun e w' => e = .returned (.bool true) ∧ ∃ n, w' = w.drewN n := by
  go_enter Try.func63, Try.ntmps63
  go_wp2
  go_loopw [5] (fun i wr => ∃ k : Nat, k ≤ L.length ∧ i = .int .i64 k ∧ ∃ n, wr = w.drewN n) (fun i _ => L.length - (intOf i).toNat)
  case atStart => exact ⟨0, Nat.zero_le _, rfl, 0, rfl⟩
  case round =>
    obtain ⟨j, hj, rfl, nq, rfl⟩ := hrel
    by_cases hlt : j < L.length
    · obtain ⟨g1, rfl, hr1⟩ := h (by omega)
      obtain ⟨g2, rfl, hr2⟩ := k (by omega)
      have c1 := hr1.cell0 hlt
      have c2 := hr1.cell1 hlt
      have c3 := hr2.cell0 hlt
      have c4 := hr2.cell1 hlt
      have i1 : (j : Int) < L.length := by omega
      have i0 : (0 : Int) ≤ (j : Int) := by omega
      clear h k hr1 hr2
      obtain ⟨a, ha⟩ : ∃ a, (nthp L j).1 = a := ⟨_, rfl⟩
      obtain ⟨b, hb⟩ : ∃ b, (nthp L j).2 = b := ⟨_, rfl⟩
      rw [ha] at c1 c3
      rw [hb] at c2 c4
      clear ha hb
      have hQ := eqA2_same a b
      go_wp2
      go_quiet (fail)
      go_wp2
      go_roundw
      case rel => exact ⟨j + 1, by omega, by go_num, _, rfl⟩
      case measure => simp [intOf]; omega
    · go_wp2
      go_ret
      exact ⟨rfl, nq, rfl⟩
set_option maxHeartbeats 400000 in
theorem rHas_any (A : Option Addr) (c : Nat) (zs : List Int) (v : Int) (w : World) (h : IntS w A zs) (hn : zs.length ≤ 2000000) :
    Calls Try.prog 64 #[.slice A zs.length c, .int .i64 v] w fun e w' => e = .returned (.bool (hasB zs v)) ∧ w' = w := by
  generalize hg : hasB zs v = r
  have HG := Lib.hid hg
  clear hg
  go_enter Try.func64, Try.ntmps64
  go_wp2
  go_loop [5] (fun i => ∃ k : Nat, k ≤ zs.length ∧ i = .int .i64 k ∧ Hid (∀ j, j < k → nth zs j ≠ v)) (fun i => zs.length - (intOf i).toNat)
  case atStart => exact ⟨0, Nat.zero_le _, rfl, fun j hj => by omega⟩
  case round =>
    obtain ⟨k, hk, rfl, HA⟩ := hrel
    by_cases hlt : k < zs.length
    · obtain ⟨b, o, rfl, hc⟩ := h.at_ (j := k) hlt
      by_cases hz : nth zs k = v
      · have hr : r = true := by rw [← HG.out]; exact hasB_yes hlt hz
        subst hr
        have hzb : (nth zs k == v) = true := by simpa using hz
        clear hz
        go_wp2
        go_ret
        exact ⟨rfl, rfl⟩
      · have hzb : (nth zs k == v) = false := by simpa using hz
        have HA' : Hid (∀ j, j < k + 1 → nth zs j ≠ v) := fun j hj => by
          by_cases e : j = k
          · subst e; exact hz
          · exact HA.out j (by omega)
        clear hz
        go_wp2
        go_round
        case rel => exact ⟨k + 1, by omega, by go_num, HA'⟩
        case measure => simp [intOf]; omega
    · have hr : r = false := by rw [← HG.out]; exact hasB_no fun j hj => HA.out j (by omega)
      subst hr
      go_wp2
      go_ret
      exact ⟨rfl, rfl⟩
end Go.Proofs.Ytombfbmcplefgaa
