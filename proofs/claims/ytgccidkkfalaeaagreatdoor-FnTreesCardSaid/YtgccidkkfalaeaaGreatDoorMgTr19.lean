/- The decimal text of a number: the reference's l1Num and the library's Itoa give the same bytes. -/
import Derived.IntWalk
import Derived.Lib.ItoaLen
import Derived.Lib.AppendIntMem
import Derived.Test.YtgccidkkfalaeaaGreatDoorMgTr5
import Derived.Test.YtgccidkkfalaeaaGreatDoorMgTr4
import Derived.Test.YtgccidkkfalaeaaGreatDoorMgTr2
namespace Go.Proofs.YtgccidkkfalaeaaGreatDoor
open Go.ChangeShapes Go.WideShapes Go.ChangeAt Go.RowKit
open Go.ChangeMaps (open_string shut_string)

theorem ret_str {a b : ByteArray} (h : a = b) : Ending.returned (.string a) = .returned (.string b) := by rw [h]
theorem decDigits_ge {u : Nat} (h : ¬ u < 10) : Lib.decDigits u = Lib.decDigits (u / 10) ++ [UInt8.ofNat (48 + u % 10)] := by
  conv => lhs; rw [Lib.decDigits, dif_neg h]
theorem decDigits_le (u : Nat) (h : u ≤ 1000000) : (Lib.decDigits u).length ≤ 21 := by
  have := Lib.itoa_length_le (u : Int) (by omega) (by omega)
  rwa [Lib.itoa_nonneg] at this
theorem decDigits_lt {u : Nat} (h : u < 10) : Lib.decDigits u = [UInt8.ofNat (48 + u)] := Lib.decDigits_one h

def dgt (d : Nat) : UInt8 := UInt8.ofNat (48 + d)
theorem digs_cut : ∀ d : Fin 10, (⟨#[48, 49, 50, 51, 52, 53, 54, 55, 56, 57]⟩ : ByteArray).extract d.val (d.val + 1) = ⟨#[dgt d.val]⟩ := by decide +kernel
theorem dig_slice (d : Nat) (hd : d < 10) (w : World) : (Instr.slice 9 (.string ⟨#[48, 49, 50, 51, 52, 53, 54, 55, 56, 57]⟩) (some (.int .i64 (d : Int))) (some (.int .i64 ((d : Int) + 1))) none).run Tryz.prog w = .ok (.string ⟨#[dgt d]⟩) w := by
  rw [run_slice_string w 9 _ .i64 .i64 (d : Int) ((d : Int) + 1) Tryz.underlying9 (by omega) (by omega) (by show (d : Int) + 1 ≤ 10; omega)]
  have e1 : (d : Int).toNat = d := by omega
  have e2 : ((d : Int) + 1).toNat = d + 1 := by omega
  rw [e1, e2, digs_cut ⟨d, hd⟩]

set_option maxRecDepth 100000 in
set_option maxHeartbeats 400000 in
theorem l1Num_nat : ∀ (u : Nat) (w : World), u ≤ 1000000 → Calls Tryz.prog 70 #[.int .i64 u] w fun e w' => e = .returned (.string ⟨(Lib.decDigits u).toArray⟩) ∧ ∃ k, w' = w.drewN k := by
  intro u
  induction u using Nat.strongRecOn with
  | ind u ih =>
    intro w hu
    by_cases h : u < 10
    · clear ih
      have hs := dig_slice u h w
      go_enter Tryz.func70, Tryz.ntmps70
      go_wp2
      go_ret
      exact ⟨by rw [decDigits_lt h]; rfl, 0, rfl⟩
    · have h1 : ∀ w, Calls Tryz.prog 70 #[.int .i64 ((u : Int) / 10)] w fun e w' => e = .returned (.string ⟨(Lib.decDigits (u / 10)).toArray⟩) ∧ ∃ k, w' = w.drewN k := fun w => ih (u / 10) (by omega) w (by omega)
      clear ih
      have hl := decDigits_le (u / 10) (by omega)
      have hs0 := fun w => dig_slice (u % 10) (by omega) w
      have hs : ∀ w, (Instr.slice 9 (.string ⟨#[48, 49, 50, 51, 52, 53, 54, 55, 56, 57]⟩) (some (.int .i64 ((u : Int) % 10))) (some (.int .i64 ((u : Int) % 10 + 1))) none).run Tryz.prog w = .ok (.string ⟨#[dgt (u % 10)]⟩) w := hs0
      clear hs0
      go_enter Tryz.func70, Tryz.ntmps70
      go_wp2_with fail
      have e1 : (u : Int).tdiv 10 = (u : Int) / 10 := Int.tdiv_eq_ediv_of_nonneg (by omega)
      have e2 : (u : Int).tmod 10 = (u : Int) % 10 := Int.tmod_eq_emod_of_nonneg (by omega)
      have e4 : IntKind.i64.wrap ((u : Int) / 10) = (u : Int) / 10 := IntWalk.i64_in _ (by omega)
      have e3 : IntKind.i64.wrap ((u : Int) % 10 + 1) = (u : Int) % 10 + 1 := IntWalk.i64_in _ (by omega)
      go_quiet ((go_at_call 70; exact Calls.quiet_of (h1 _)))
      go_wp2
      go_ret
      refine ⟨ret_str ?_, nq, rfl⟩
      rw [decDigits_ge h]
      exact ba_ext (by simp [dgt])
theorem l1Num_any (n : Int) (w : World) (h0 : -1000000 ≤ n) (h1 : n ≤ 1000000) : Calls Tryz.prog 70 #[.int .i64 n] w fun e w' => e = .returned (.string ⟨(Lib.itoa n).toArray⟩) ∧ ∃ k, w' = w.drewN k := by
  by_cases h : n < 0
  · obtain ⟨u, rfl⟩ : ∃ u : Nat, n = -(u : Int) := ⟨n.natAbs, by omega⟩
    have hc := l1Num_nat u
    have hu : u ≤ 1000000 := by omega
    have hu1 : 1 ≤ u := by omega
    have hl := decDigits_le u hu
    have e0 : Hid (Lib.itoa (-(u : Int)) = 45 :: Lib.decDigits u) := Lib.hid (Lib.itoa_neg u hu1)
    have hc' : ∀ w, Calls Tryz.prog 70 #[.int .i64 (- -(u : Int))] w fun e w' => e = .returned (.string ⟨(Lib.decDigits u).toArray⟩) ∧ ∃ k, w' = w.drewN k := fun w => by rw [Int.neg_neg]; exact hc w hu
    have hc2 : ∀ w, Calls Tryz.prog 70 #[.int .i64 (u : Int)] w fun e w' => e = .returned (.string ⟨(Lib.decDigits u).toArray⟩) ∧ ∃ k, w' = w.drewN k := fun w => hc w hu
    clear hc
    go_enter Tryz.func70, Tryz.ntmps70
    go_wp2_with (go_at_call 70; (first | (refine (hc2 _).mono ?_) | (refine (hc' _).mono ?_)); rintro e w' ⟨rfl, k, rfl⟩)
    go_ret
    refine ⟨ret_str ?_, k, rfl⟩
    rw [e0.out]
    exact ba_ext (by simp)
  · obtain ⟨u, rfl⟩ : ∃ u : Nat, n = (u : Int) := ⟨n.natAbs, by omega⟩
    rw [Lib.itoa_nonneg]
    exact l1Num_nat u w (by omega)
/-- The table that the library's Itoa reads. -/
def TabE (w : World) : Prop := Lib.TabIs Tryz.prog w "internal/strconv.uint64pow10" .u64 Lib.pow10Tab
theorem TabE.below {w w' : World} (h : TabE w) (hb : Below w.heap.size w w') : TabE w' := by
  have hg : Tryz.prog.globalNamed "internal/strconv.uint64pow10" = some 3 := by kernel_rfl
  exact Joins.tab_stays hg h hb (Nat.le_refl _)
/-- A number lies in the variable that the library's Index reads. -/
def MaxC (w : World) : Prop := ∃ m, w.cell? ⟨0, 0, none⟩ = some (.int .i64 m)
theorem MaxC.below {w w' : World} (h : MaxC w) (hb : Below w.heap.size w w') : MaxC w' := by
  obtain ⟨m, h⟩ := h
  exact ⟨m, (hb.cell (World.block_lt_of_cell? w _ h)).trans h⟩
theorem itoa_any (n : Int) (w : World) (h0 : -1000000 ≤ n) (h1 : n ≤ 1000000) (hT : TabE w) : Calls Tryz.prog 68 #[.int .i64 n] w fun e w' => e = .returned (.string ⟨(Lib.itoa n).toArray⟩) ∧ Below w.heap.size w w' := by
  refine (Tryz.strconv_Itoa n (by omega) (by omega) w hT).mono ?_
  rintro e w' ⟨rfl, k, os, rfl⟩
  exact ⟨rfl, Lib.below_grow _ _ (Nat.le_refl _) _ _⟩
end Go.Proofs.YtgccidkkfalaeaaGreatDoor
/- FormatInt: what the reference's and the program's return. -/
namespace Go.Proofs.YtgccidkkfalaeaaGreatDoor
open Go.ChangeShapes Go.WideShapes Go.ChangeAt Go.RowKit
open Go.ChangeMaps (open_string shut_string)

def itoaB (n : Int) : ByteArray := ⟨(Lib.itoa n).toArray⟩
def fmtV (n : Int) : Value := if -999999 ≤ n ∧ n ≤ 999999 then .tuple #[.string (itoaB n), .bool true] else .tuple #[.string ⟨#[]⟩, .bool false]
theorem drewN_below (w : World) (k : Nat) : Below w.heap.size w (w.drewN k) := Below.drewN' (Below.refl _ _) k

end Go.Proofs.YtgccidkkfalaeaaGreatDoor
/- A text with its checksum: what the reference's l1Seal and AppendChecksum and the program's AppendChecksum return. -/
namespace Go.Proofs.YtgccidkkfalaeaaGreatDoor
open Go.ChangeShapes Go.WideShapes Go.ChangeAt Go.RowKit
open Go.ChangeMaps (open_string shut_string)

def sealB (s : ByteArray) : ByteArray := s ++ ⟨#[35]⟩ ++ itoaB (csum s.data.toList)
def apOk (s : ByteArray) : Prop := s.size ≤ 4000 ∧ (35 : UInt8) ∉ s.data.toList ∧ (sealB s).size ≤ 4000
instance (s : ByteArray) : Decidable (apOk s) := by unfold apOk; infer_instance
def apV (s : ByteArray) : Value := if apOk s then .tuple #[.string (sealB s), .bool true] else .tuple #[.string ⟨#[]⟩, .bool false]
theorem itoaB_csum_size (s : ByteArray) : (itoaB (csum s.data.toList)).size ≤ 21 := by
  have := csum_bd s.data.toList
  have h := Lib.itoa_length_le (csum s.data.toList) (by omega) (by omega)
  simpa [itoaB, ByteArray.size] using h
theorem sealB_size (s : ByteArray) : (sealB s).size = s.size + 1 + (itoaB (csum s.data.toList)).size := by
  unfold sealB; rw [ByteArray.size_append, ByteArray.size_append]; rfl

end Go.Proofs.YtgccidkkfalaeaaGreatDoor
