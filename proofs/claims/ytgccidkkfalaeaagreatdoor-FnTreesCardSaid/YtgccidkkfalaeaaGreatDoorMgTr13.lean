/- Contracts: the reference's cursor, which draws choices from bytes. -/
import Derived.Deep.QuietTactic
import Derived.BigQuiet
import Derived.IntWalk
import Derived.Test.YtgccidkkfalaeaaGreatDoorMgTr10
namespace Go.Proofs.YtgccidkkfalaeaaGreatDoor
open Go.ChangeShapes Go.WideShapes Go.ChangeAt Go.RowKit

/-- Block g is a cursor over n bytes at C that has drawn m choices at most. -/
def CurB (w : World) (g : Nat) (C : Option Addr) (n cc m : Nat) : Prop := ∃ k : Nat, ∃ sd : Int, w.heap[g]? = some (.cells #[.slice C n cc, .int .i64 k, .int .u64 sd] 48 (0, 0)) ∧ k ≤ m ∧ 0 ≤ sd ∧ sd < 18446744073709551616
/-- n bytes lie at C. -/
def Byt (w : World) (C : Option Addr) (n : Nat) : Prop := ∀ j, j < n → ∃ (b o : Nat) (v : Int), C = some ⟨b, o, none⟩ ∧ w.cell? ⟨b, o + j, none⟩ = some (.int .u8 v) ∧ 0 ≤ v ∧ v ≤ 255
theorem Byt.kept {w w' : World} {C : Option Addr} {n g : Nat} (h : Byt w C n) (hk : KeptBut w w' g g) (hne : ∀ b o, 0 < n → C = some ⟨b, o, none⟩ → b ≠ g) : Byt w' C n := fun j hj => by
  obtain ⟨b, o, v, e, hc, hv⟩ := h j hj
  exact ⟨b, o, v, e, hk.cell hc (hne b o (by omega) e) (hne b o (by omega) e), hv⟩
theorem Byt.below {w w' : World} {C : Option Addr} {n : Nat} (h : Byt w C n) (hb : Below w.heap.size w w') : Byt w' C n := fun j hj => by
  obtain ⟨b, o, v, e, hc, hv⟩ := h j hj
  exact ⟨b, o, v, e, keep_cell hb hc, hv⟩
theorem u64_bd (x : Int) : 0 ≤ IntKind.u64.wrap x ∧ IntKind.u64.wrap x < 18446744073709551616 := by
  have e : IntKind.u64.wrap x = x % 18446744073709551616 := by simp [IntKind.wrap, IntKind.bits, IntKind.signed]
  rw [e]; omega
theorem and_255 (x : Int) : 0 ≤ bits .and .u64 x 255 ∧ bits .and .u64 x 255 ≤ 255 := by
  have h : (BitVec.ofInt 64 x &&& BitVec.ofInt 64 255).toNat ≤ 255 := by
    rw [BitVec.toNat_and]
    exact Nat.and_le_right
  have e : bits .and .u64 x 255 = IntKind.u64.wrap ((BitVec.ofInt 64 x &&& BitVec.ofInt 64 255).toNat : Nat) := rfl
  rw [e]
  generalize (BitVec.ofInt 64 x &&& BitVec.ofInt 64 255).toNat = k at *
  have e2 : IntKind.u64.wrap (k : Int) = (k : Int) % 18446744073709551616 := by simp [IntKind.wrap, IntKind.bits, IntKind.signed]
  rw [e2]; omega
theorem cur_end {w : World} {g n cc m : Nat} {C : Option Addr} {sd : Int} {o1 o2 : Value} (k : Nat) (hh : w.heap[g]? = some (.cells #[.slice C n cc, o1, o2] 48 (0, 0))) (hk : k ≤ m) {a : Int} (ha : a = (k : Int)) (j1 j2 : Nat) :
    CurB (((w.drewN j1).setCell ⟨g, 1, none⟩ (.int .i64 a)).setCell ⟨g, 2, none⟩ (.int .u64 (IntKind.u64.wrap sd)) |>.drewN j2) g C n cc m := by
  subst ha
  have e1 := set_block hh 1 (.int .i64 k)
  have e2 := set_block (w := w.setCell ⟨g, 1, none⟩ (.int .i64 k)) e1 2 (.int .u64 (IntKind.u64.wrap sd))
  have hb := u64_bd sd
  exact ⟨k, IntKind.u64.wrap sd, e2, hk, hb.1, hb.2⟩
theorem cur_kept {w : World} {g : Nat} (j1 j2 : Nat) (a b : Value) : KeptBut w (((w.drewN j1).setCell ⟨g, 1, none⟩ a).setCell ⟨g, 2, none⟩ b |>.drewN j2) g g := by
  have h := ((KeptBut.refl2 w g).setg 1 a).setg 2 b
  exact ⟨h.os, h.tape, h.output, h.size, h.block⟩
set_option maxHeartbeats 4000000 in
set_option maxRecDepth 100000 in
theorem next_any {g n cc m : Nat} {C : Option Addr} (w : World) (h : CurB w g C n cc m) (hB : Byt w C n) (hne : ∀ b o, 0 < n → C = some ⟨b, o, none⟩ → b ≠ g) (hm : m ≤ 1000000) (_hn : n ≤ 1000000) :
    Calls Tryz.prog 81 #[.pointer (some ⟨g, 0, none⟩)] w fun e w' => ∃ r : Int, e = .returned (.int .i64 r) ∧ 0 ≤ r ∧ r ≤ 255 ∧ CurB w' g C n cc (m + 1) ∧ KeptBut w w' g g := by
  obtain ⟨k, sd, hh, hk, hs0, hs1⟩ := h
  have hc0 : w.cell? ⟨g, 0, none⟩ = some (.slice C n cc) := by rw [cell_of_row _ _ _ _ _ _ hh]; rfl
  have hc1 : w.cell? ⟨g, 1, none⟩ = some (.int .i64 k) := by rw [cell_of_row _ _ _ _ _ _ hh]; rfl
  have hc2 : w.cell? ⟨g, 2, none⟩ = some (.int .u64 sd) := by rw [cell_of_row _ _ _ _ _ _ hh]; rfl
  have hf1 : w.frozen? ⟨g, 1, none⟩ = false := frozen_of_row _ _ _ _ _ hh
  have hf2 : w.frozen? ⟨g, 2, none⟩ = false := frozen_of_row _ _ _ _ _ hh
  by_cases hlt : k < n
  · obtain ⟨b, o, v, rfl, hcv, hv0, hv1⟩ := hB k hlt
    have i1 : (k : Int) < n := by omega
    have i2 : decide ((k : Int) < n) = true := decide_eq_true i1
    have i3 : (k : Int) + 1 ≤ n := by omega
    have i4 : decide ((k : Int) + 1 ≤ n) = true := decide_eq_true i3
    go_enter Tryz.func81, Tryz.ntmps81
    go_wp2
    go_quiet (fail)
    go_wp2
    go_quiet (fail)
    go_wp2
    go_quiet (fail)
    go_wp2
    go_ret
    exact ⟨v, rfl, hv0, hv1, cur_end (k + 1) hh (by omega) (by omega) _ _, cur_kept _ _ _ _⟩
  · have i1 : ¬ (k : Int) < n := by omega
    have i2 : decide ((k : Int) < n) = false := decide_eq_false i1
    have i3 : ¬ (k : Int) + 1 ≤ n := by omega
    have i4 : decide ((k : Int) + 1 ≤ n) = false := decide_eq_false i3
    go_enter Tryz.func81, Tryz.ntmps81
    go_wp2
    go_quiet (fail)
    go_wp2
    go_quiet (fail)
    go_wp2
    go_ret
    have h2 := and_255 (IntKind.u64.wrap (IntKind.u64.wrap (IntKind.u64.wrap (sd * 6364136223846793005)) + 462197) / 1099511627776)
    exact ⟨_, rfl, by unfold wrap64; omega, by unfold wrap64; omega, cur_end (k + 1) hh (by omega) (by omega) _ _, cur_kept _ _ _ _⟩
/-- What a draw leaves: the cursor, m choices on, and all else but its block. -/
def Drew (w : World) (g : Nat) (C : Option Addr) (n cc m : Nat) (w' : World) : Prop := CurB w' g C n cc m ∧ KeptBut w w' g g
set_option maxHeartbeats 1000000 in
set_option maxRecDepth 100000 in
theorem pick_draw {g n cc m : Nat} {C : Option Addr} (q : Int) (w : World) (h : CurB w g C n cc m) (hB : Byt w C n) (hne : ∀ b o, 0 < n → C = some ⟨b, o, none⟩ → b ≠ g) (hm : m + 1 ≤ 1000000) (hn : n ≤ 1000000) (hq : 1 ≤ q ∧ q ≤ 1000000000) :
    Calls Tryz.prog 64 #[.pointer (some ⟨g, 0, none⟩), .int .i64 q] w fun e w' => ∃ r : Int, e = .returned (.int .i64 r) ∧ 0 ≤ r ∧ r < q ∧ Drew w g C n cc (m + 2) w' := by
  have mono : ∀ {W} {m' : Nat}, m' ≤ m + 2 → CurB W g C n cc m' → CurB W g C n cc (m + 2) := fun hm' ⟨k, sd, a, b, c⟩ => ⟨k, sd, a, by omega, c⟩
  have HM := Lib.hid (fun W m' (a : m' ≤ m + 2) (b : CurB W g C n cc m') => mono a b)
  have HN := Lib.hid (fun W m' (a : CurB W g C n cc m') (b : Byt W C n) (c : m' ≤ 1000000) => next_any W a b hne c hn)
  have HK := Lib.hid (fun W (hk : KeptBut w W g g) => hB.kept hk hne)
  clear mono hne
  by_cases h1 : q ≤ 1
  · have e1 : q = 1 := by omega
    subst e1
    go_enter Tryz.func64, Tryz.ntmps64
    go_wp2
    go_ret
    exact ⟨0, rfl, by omega, by omega, HM.out _ _ (by omega) h, KeptBut.refl2 _ _⟩
  · have d1 : ¬ q ≤ 1 := h1
    by_cases h2 : q > 200
    · go_enter Tryz.func64, Tryz.ntmps64
      go_wp2_with fail
      refine (HN.out _ _ h hB (by omega)).mono ?_
      rintro e1 w1 ⟨r1, rfl, a1, b1, hc1, hk1⟩
      have u1 : IntKind.i64.wrap (r1 * 256) = r1 * 256 := IntWalk.i64_in _ (by omega)
      go_wp2_with fail
      refine (HN.out _ _ hc1 (HK.out _ hk1) (by omega)).mono ?_
      rintro e1 w2 ⟨r2, rfl, a2, b2, hc2, hk2⟩
      have u2 : IntKind.i64.wrap (r1 * 256 + r2) = r1 * 256 + r2 := IntWalk.i64_in _ (by omega)
      have hq0 : ¬ q = 0 := by omega
      have t0 : 0 ≤ (r1 * 256 + r2) % q := Int.emod_nonneg _ (by omega)
      have t1 : (r1 * 256 + r2) % q < q := Int.emod_lt_of_pos _ (by omega)
      go_wp2
      go_ret
      exact ⟨_, rfl, t0, t1, HM.out _ _ (by omega) hc2, hk1.trans2 hk2⟩
    · go_enter Tryz.func64, Tryz.ntmps64
      go_wp2_with fail
      refine (HN.out _ _ h hB (by omega)).mono ?_
      rintro e1 w1 ⟨r1, rfl, a1, b1, hc1, hk1⟩
      have hq0 : ¬ q = 0 := by omega
      have t0 : 0 ≤ r1 % q := Int.emod_nonneg _ (by omega)
      have t1 : r1 % q < q := Int.emod_lt_of_pos _ (by omega)
      go_wp2
      go_ret
      exact ⟨_, rfl, t0, t1, HM.out _ _ (by omega) hc1, hk1⟩
set_option maxHeartbeats 1000000 in
theorem one_draw {g n cc m : Nat} {C : Option Addr} (q : Int) (w : World) (h : CurB w g C n cc m) (hB : Byt w C n) (hne : ∀ b o, 0 < n → C = some ⟨b, o, none⟩ → b ≠ g) (hm : m + 1 ≤ 1000000) (hn : n ≤ 1000000) (hq : 1 ≤ q ∧ q ≤ 1000000000) :
    Calls Tryz.prog 47 #[.pointer (some ⟨g, 0, none⟩), .int .i64 q] w fun e w' => ∃ r : Bool, e = .returned (.bool r) ∧ Drew w g C n cc (m + 2) w' := by
  have HP := Lib.hid (pick_draw q w h hB hne hm hn hq)
  clear hne
  go_enter Tryz.func47, Tryz.ntmps47
  go_wp2_with fail
  refine HP.out.mono ?_
  rintro e1 w1 ⟨r, rfl, _, _, hd⟩
  go_wp2
  go_ret
  exact ⟨_, rfl, hd⟩
set_option maxHeartbeats 1000000 in
theorem among_draw {g n cc m : Nat} {C : Option Addr} (A : Option Addr) (c : Nat) (xs : List Int) (w : World) (h : CurB w g C n cc m) (hB : Byt w C n) (hne : ∀ b o, 0 < n → C = some ⟨b, o, none⟩ → b ≠ g) (hm : m + 1 ≤ 1000000) (hn : n ≤ 1000000) (hA : IntS w A xs) (hAg : ∀ b o, A = some ⟨b, o, none⟩ → b ≠ g) (hx : 1 ≤ xs.length ∧ xs.length ≤ 1000) :
    Calls Tryz.prog 33 #[.pointer (some ⟨g, 0, none⟩), .slice A xs.length c] w fun e w' => ∃ j : Nat, j < xs.length ∧ e = .returned (.int .i64 (nth xs j)) ∧ Drew w g C n cc (m + 2) w' := by
  have HP := Lib.hid (pick_draw (xs.length : Int) w h hB hne hm hn (by omega))
  clear hne
  go_enter Tryz.func33, Tryz.ntmps33
  go_wp2_with fail
  refine HP.out.mono ?_
  rintro e1 w1 ⟨r, rfl, h0, h1, hd⟩
  obtain ⟨j, rfl⟩ := Int.eq_ofNat_of_zero_le h0
  obtain ⟨b, o, rfl, hc⟩ := hA.at_ (j := j) (by omega)
  have hc2 := hd.2.cell hc (hAg b o rfl) (hAg b o rfl)
  have i1 : (j : Int) < xs.length := h1
  clear hAg
  go_wp2
  go_ret
  exact ⟨j, by omega, rfl, hd⟩
end Go.Proofs.YtgccidkkfalaeaaGreatDoor
