/- Contracts: IsTree of the reference; comparing trees. -/
import Derived.Test.YtfpokpgkkjibfaaDoorTree6
import Derived.Deep.RegionHeld3
namespace Go.Proofs.YtfpokpgkkjibfaaDoor
open Go.ChangeShapes Go.WideShapes Go.ChangeAt Go.RowKit

theorem IntS.drew {w : World} {A : Option Addr} {xs : List Int} (h : IntS w A xs) : IntS w.drew A xs := h
theorem Row.ints {w : World} {g : Nat} {xs : List Int} (h : Row w g xs) : IntS w (some ⟨g, 0, none⟩) xs := OwnS.ints (B := 0) (.inr ⟨g, rfl, Nat.zero_le _, h⟩)
theorem below_szr {w w1 : World} {n : Nat} (h : Below w.heap.size w w1) (hn : n < w.heap.size) : n < w1.heap.size := Nat.lt_of_lt_of_le hn h.size
theorem good_len {xs ys : List Int} (h : good xs ys = true) : 1 ≤ xs.length ∧ xs.length ≤ 24 ∧ ys.length = xs.length := by
  have := (good_iff.1 h).1
  exact ⟨this.1.1, this.1.2, this.2.1⟩

set_option maxHeartbeats 1000000 in
theorem eqTree_same (A B A' B' : Option Addr) (c e c' e' : Nat) (xs ys : List Int) (w : World) (h : IntS w A xs) (k : IntS w B ys) (h' : IntS w A' xs) (k' : IntS w B' ys) (hn : xs.length ≤ maxLen) (hm : ys.length ≤ maxLen) :
    Calls Tryd.prog 26 #[.agg #[.slice A xs.length c, .slice B ys.length e], .agg #[.slice A' xs.length c', .slice B' ys.length e']] w fun e1 w' => e1 = .returned (.bool true) ∧ Below w.heap.size w w' := by
  go_enter Tryd.func26, Tryd.ntmps26
  go_wp2_with fail
  refine (eqIntS_same A A' c c' xs _ ((h.alloc _).alloc _) ((h'.alloc _).alloc _) hn).mono ?_
  rintro e1 w1 ⟨rfl, nq, rfl⟩
  go_wp2_with fail
  refine (eqIntS_same B B' e e' ys _ (IntS.drewN ((k.alloc _).alloc _) _) (IntS.drewN ((k'.alloc _).alloc _) _) hm).mono ?_
  rintro e1 w1 ⟨rfl, nq2, rfl⟩
  go_wp2
  go_ret
  exact ⟨rfl, by (repeat (first | with_reducible exact Below.refl _ _ | with_reducible assumption | with_reducible refine Below.alloc' ?_ ?_ _ | with_reducible refine Below.setCell' ?_ ?_ _ | with_reducible refine Below.drewN' ?_ _ | with_reducible refine Below.drew ?_ | with_reducible refine Below.transA ?_ (by assumption) ?_ | omega | (focus (simp; done)) | (focus (simp; omega))))⟩
end Go.Proofs.YtfpokpgkkjibfaaDoor
