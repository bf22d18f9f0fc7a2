/- Contracts: nodes, children, processes. -/
import Derived.Test.YtfpokpgkkjibfaaDoorTree8
namespace Go.Proofs.YtfpokpgkkjibfaaDoor
open Go.ChangeShapes Go.WideShapes Go.ChangeAt Go.RowKit

/-- Contracts of IsTree with the answer given. -/
theorem isTree_r {xs ys : List Int} {r : Bool} (hr : good xs ys = r) (A B : Option Addr) (c e : Nat) (w : World) (h : IntS w A xs) (k : IntS w B ys) (hx : Bd xs) (hy : Bd ys) (hn : xs.length ≤ 1048576) (hm : ys.length ≤ 1048576) :
    Calls Tryd.prog 66 #[.agg #[.slice A xs.length c, .slice B ys.length e]] w fun e' w' => e' = .returned (.bool r) ∧ Below w.heap.size w w' := by
  rw [← hr]; exact isTree_any A B c e xs ys w h k hx hy hn hm
theorem l2Good_r {xs ys : List Int} {r : Bool} (hr : good xs ys = r) (A B : Option Addr) (c e : Nat) (w : World) (h : IntS w A xs) (k : IntS w B ys) (hx : Bd xs) (hy : Bd ys) (hn : xs.length ≤ 1048576) (hm : ys.length ≤ 1048576) :
    Calls Tryd.prog 63 #[.agg #[.slice A xs.length c, .slice B ys.length e]] w fun e' w' => e' = .returned (.bool r) ∧ Below w.heap.size w w' := by
  rw [← hr]; exact l2Good_any A B c e xs ys w h k hx hy hn hm

/-- All of a list lie between two numbers. -/
def allIn (zs : List Int) (lo hi : Int) : Bool := (List.range zs.length).all fun j => decide (lo ≤ nth zs j ∧ nth zs j ≤ hi)
theorem allIn_no {zs : List Int} {lo hi : Int} {j : Nat} (hj : j < zs.length) (h : ¬ (lo ≤ nth zs j ∧ nth zs j ≤ hi)) : allIn zs lo hi = false := by
  rw [Bool.eq_false_iff]
  intro ha
  have := List.all_eq_true.1 ha j (List.mem_range.2 hj)
  exact h (of_decide_eq_true this)
theorem allIn_yes {zs : List Int} {lo hi : Int} (h : ∀ j, j < zs.length → lo ≤ nth zs j ∧ nth zs j ≤ hi) : allIn zs lo hi = true :=
  List.all_eq_true.2 fun j hj => decide_eq_true (h j (List.mem_range.1 hj))
theorem allIn_iff {zs : List Int} {lo hi : Int} : allIn zs lo hi = true ↔ ∀ j, j < zs.length → lo ≤ nth zs j ∧ nth zs j ≤ hi :=
  ⟨fun h j hj => of_decide_eq_true (List.all_eq_true.1 h j (List.mem_range.2 hj)), allIn_yes⟩

/-- A process of a tree with n nodes. -/
def isProc (n : Nat) (zs : List Int) : Bool := decide (zs.length = n) && allIn zs (-999) 999
end Go.Proofs.YtfpokpgkkjibfaaDoor
