/- Contracts: the laws' own comparisons of lists and of lists of fractions, and whether a list has a number. -/
import Derived.StillTailTactics
import Derived.Test.YtgccidkkfalaeaaGreatDoorMgTr15
import Derived.Test.YtgccidkkfalaeaaGreatDoorMgTr16
import Derived.Test.YtgccidkkfalaeaaGreatDoorMgTr14
namespace Go.Proofs.YtgccidkkfalaeaaGreatDoor
open Go.ChangeShapes Go.WideShapes Go.ChangeAt Go.RowKit

set_option maxHeartbeats 1000000 in
theorem rInts_same (A B : Option Addr) (c e : Nat) (xs : List Int) (w : World) (h : IntS w A xs) (k : IntS w B xs) (hn : xs.length ≤ 2000000) :
    Calls Tryz.prog 8 #[.slice A xs.length c, .slice B xs.length e] w fun e w' => e = .returned (.bool true) ∧ Below w.heap.size w w' := by
  go_enter Tryz.func8, Tryz.ntmps8
  go_wp2
  go_loopw [5] (fun i wr => ∃ k : Nat, k ≤ xs.length ∧ i = .int .i64 k ∧ ∃ n, wr = w.drewN n) (fun i _ => xs.length - (intOf i).toNat)
  case atStart => exact ⟨0, Nat.zero_le _, rfl, 0, rfl⟩
  case round =>
    obtain ⟨j, hj, rfl, nq, rfl⟩ := hrel
    by_cases hlt : j < xs.length
    · obtain ⟨b, o, rfl, hc⟩ := h.at_ hlt
      obtain ⟨b', o', rfl, hc'⟩ := k.at_ hlt
      have i0 : (0 : Int) ≤ (j : Int) := by omega
      have i1 : (j : Int) < (xs.length : Int) := by omega
      clear h k
      go_wp2_with fail
      go_quiet (fail)
      go_wp2
      go_roundw
      case rel => exact ⟨j + 1, by omega, by go_num, _, rfl⟩
      case measure => simp [intOf]; omega
    · go_wp2
      go_ret
      exact ⟨rfl, Below.drewN' (Below.refl _ _) _⟩
set_option maxHeartbeats 400000 in
theorem rHas_any (A : Option Addr) (c : Nat) (zs : List Int) (v : Int) (w : World) (h : IntS w A zs) (hn : zs.length ≤ 2000000) :
    Calls Tryz.prog 31 #[.slice A zs.length c, .int .i64 v] w fun e w' => e = .returned (.bool (hasB zs v)) ∧ w' = w := by
  generalize hg : hasB zs v = r
  have HG := Lib.hid hg
  clear hg
  go_enter Tryz.func31, Tryz.ntmps31
  go_wp2
  go_loop [5] (fun i => ∃ k : Nat, k ≤ zs.length ∧ i = .int .i64 k ∧ Hid (∀ j, j < k → nth zs j ≠ v)) (fun i => zs.length - (intOf i).toNat)
  case atStart => exact ⟨0, Nat.zero_le _, rfl, fun j hj => by omega⟩
  case round =>
    obtain ⟨k, hk, rfl, HA⟩ := hrel
    by_cases hlt : k < zs.length
    · obtain ⟨b, o, rfl, hc⟩ := h.at_ (j := k) hlt
      by_cases hz : nth zs k = v
      · have hr : r = true := by rw [← HG.out]; exact hasB_yes hlt hz
        subst hr
        have hzb : (nth zs k == v) = true := by simpa using hz
        clear hz
        go_wp2
        go_ret
        exact ⟨rfl, rfl⟩
      · have hzb : (nth zs k == v) = false := by simpa using hz
        have HA' : Hid (∀ j, j < k + 1 → nth zs j ≠ v) := fun j hj => by
          by_cases e : j = k
          · subst e; exact hz
          · exact HA.out j (by omega)
        clear hz
        go_wp2
        go_round
        case rel => exact ⟨k + 1, by omega, by go_num, HA'⟩
        case measure => simp [intOf]; omega
    · have hr : r = false := by rw [← HG.out]; exact hasB_no fun j hj => HA.out j (by omega)
      subst hr
      go_wp2
      go_ret
      exact ⟨rfl, rfl⟩
set_option maxHeartbeats 1000000 in
theorem rTree_same (A B A' B' : Option Addr) (c e c' e' : Nat) (xs ys : List Int) (w : World) (h : IntS w A xs) (k : IntS w B ys) (h' : IntS w A' xs) (k' : IntS w B' ys) (hn : xs.length ≤ 2000000) (hm : ys.length ≤ 2000000) :
    Calls Tryz.prog 21 #[.agg #[.slice A xs.length c, .slice B ys.length e], .agg #[.slice A' xs.length c', .slice B' ys.length e']] w fun e1 w' => e1 = .returned (.bool true) ∧ Below w.heap.size w w' := by
  go_enter Tryz.func21, Tryz.ntmps21
  go_wp2_with fail
  refine (rInts_same A A' c c' xs _ ((h.alloc _).alloc _) ((h'.alloc _).alloc _) hn).mono ?_
  rintro e1 w1 ⟨rfl, hb⟩
  have hx1 : w1.cell? ⟨w.heap.size, 1, none⟩ = some (.slice B ys.length e) := keep_cell hb (by simp)
  have hy1 : w1.cell? ⟨w.heap.size + 1, 1, none⟩ = some (.slice B' ys.length e') := keep_cell hb (by simp)
  have hk := ((k.alloc _).alloc _).below hb
  have hk' := ((k'.alloc _).alloc _).below hb
  have hw : Below w.heap.size w w1 := below_alloc (below_alloc hb)
  clear hb
  go_wp2_with fail
  refine (rInts_same B B' e e' ys _ hk hk' hm).mono ?_
  rintro e1 w2 ⟨rfl, hb⟩
  replace hw := keep_below hb hw
  clear hb hx1 hy1
  go_wp2
  go_ret
  exact ⟨rfl, hw⟩
end Go.Proofs.YtgccidkkfalaeaaGreatDoor
