/- Contracts: IsProcess and ChildrenOf. -/
import Derived.Test.YtkghljcahbkfdaaTree9
namespace Go.Proofs.Ytkghljcahbkfdaa
open Go.ChangeShapes Go.WideShapes Go.ChangeAt Go.RowKit

/-- x is a node of a tree with n nodes. -/
def isNd (n : Nat) (x : Int) : Bool := decide (0 ≤ x ∧ x ≤ (n : Int) - 1)
theorem l1In_nd (n : Nat) (x : Int) (w : World) : Calls Try.prog 79 #[.int .i64 x, .int .i64 0, .int .i64 ((n : Int) - 1)] w fun e w' => e = .returned (.bool (isNd n x)) ∧ w = w' := l1In_any _ _ _ _
theorem within_nd (n : Nat) (x : Int) (w : World) : Calls Try.prog 81 #[.int .i64 x, .int .i64 0, .int .i64 ((n : Int) - 1)] w fun e w' => e = .returned (.bool (isNd n x)) ∧ w = w' := within_any _ _ _ _
set_option maxHeartbeats 400000 in
theorem l2Node_any (A B : Option Addr) (c e : Nat) (xs ys : List Int) (x : Int) (w : World) (h : IntS w A xs) (k : IntS w B ys) (hx : Bd xs) (hy : Bd ys) (hn : xs.length ≤ 1048576) (hm : ys.length ≤ 1048576) :
    Calls Try.prog 58 #[.agg #[.slice A xs.length c, .slice B ys.length e], .int .i64 x] w fun e1 w' => e1 = .returned (.bool (good xs ys && isNd xs.length x)) ∧ Below w.heap.size w w' := by
  have HG := Lib.hid (fun W (h : IntS W A xs) (k : IntS W B ys) => l2Good_any A B c e xs ys W h k hx hy hn hm)
  clear hx hy
  generalize good xs ys = g at *
  cases g
  · go_enter Try.func58, Try.ntmps58
    go_wp2_with fail
    refine (HG.out _ (h.alloc _) (k.alloc _)).mono ?_
    rintro e1 w1 ⟨rfl, hb1⟩
    go_wp2
    go_ret
    exact ⟨rfl, by (repeat (first | with_reducible exact Below.refl _ _ | with_reducible assumption | with_reducible refine Below.alloc' ?_ ?_ _ | with_reducible refine Below.setCell' ?_ ?_ _ | with_reducible refine Below.drewN' ?_ _ | with_reducible refine Below.drew ?_ | with_reducible refine Below.transA ?_ (by assumption) ?_ | omega | (focus (simp; done)) | (focus (simp; omega))))⟩
  · go_enter Try.func58, Try.ntmps58
    go_wp2_with fail
    refine (HG.out _ (h.alloc _) (k.alloc _)).mono ?_
    rintro e1 w1 ⟨rfl, hb1⟩
    (obtain ⟨hc1, hf1, hz1⟩ := bcell hb1; have hy1 := hb1.size; (try simp at hz1); (try simp at hy1); (try simp at hc1); (try simp at hf1))
    go_wp2_with (go_at_call 79; refine (l1In_nd _ _ _).mono ?_; rintro e w' ⟨rfl, rfl⟩)
    go_ret
    exact ⟨by simp, by (repeat (first | with_reducible exact Below.refl _ _ | with_reducible assumption | with_reducible refine Below.alloc' ?_ ?_ _ | with_reducible refine Below.setCell' ?_ ?_ _ | with_reducible refine Below.drewN' ?_ _ | with_reducible refine Below.drew ?_ | with_reducible refine Below.transA ?_ (by assumption) ?_ | omega | (focus (simp; done)) | (focus (simp; omega))))⟩
theorem isNode_any (A B : Option Addr) (c m e n : Nat) (x : Int) (w : World) (hn : n ≤ 1048576) :
    Calls Try.prog 60 #[.agg #[.slice A n c, .slice B m e], .int .i64 x] w fun e1 w' => e1 = .returned (.bool (isNd n x)) ∧ Below w.heap.size w w' := by
  go_enter Try.func60, Try.ntmps60
  go_wp2_with (go_at_call 81; refine (within_nd _ _ _).mono ?_; rintro e w' ⟨rfl, rfl⟩)
  go_ret
  exact ⟨rfl, by (repeat (first | with_reducible exact Below.refl _ _ | with_reducible assumption | with_reducible refine Below.alloc' ?_ ?_ _ | with_reducible refine Below.setCell' ?_ ?_ _ | with_reducible refine Below.drewN' ?_ _ | with_reducible refine Below.drew ?_ | with_reducible refine Below.transA ?_ (by assumption) ?_ | omega | (focus (simp; done)) | (focus (simp; omega))))⟩

def isKidI (xs : List Int) (x : Int) (y : Nat) : Bool := nth xs y == x
noncomputable def chOk (xs ys : List Int) (x : Int) : Bool := good xs ys && isNd xs.length x
noncomputable def chR (xs ys : List Int) (x : Int) : List Int := if chOk xs ys x then pick (isKidI xs x) xs.length else []
theorem chR_len (xs ys : List Int) (x : Int) (hn : xs.length ≤ 1048576) : (chR xs ys x).length ≤ 2000000 := by
  unfold chR; split
  · have := pick_len (isKidI xs x) xs.length; omega
  · simp
theorem pick_congr {f g : Nat → Bool} {k : Nat} (h : ∀ j, j < k → f j = g j) : pick f k = pick g k := by
  unfold pick
  rw [List.filter_congr fun j hj => h j (List.mem_range.1 hj)]
theorem kid_same {xs ys : List Int} (hg : good xs ys = true) (x : Nat) : pick (isKid xs x) xs.length = pick (isKidI xs x) xs.length := by
  refine pick_congr fun y hy => ?_
  have hG := good_iff.1 hg
  unfold isKid isKidI
  by_cases e : nth xs y = (x : Int)
  · have : x < y := by
      by_cases e0 : y = 0
      · subst e0; have := hG.1.2.2; omega
      · have := of_decide_eq_true (hG.2.1 y (by omega) hy); omega
    simp [this]
  · simp [e]
theorem nd_nat {n : Nat} {x : Int} (h : isNd n x = true) : ∃ k : Nat, x = k ∧ k < n := by
  have := of_decide_eq_true h
  exact ⟨x.toNat, by omega, by omega⟩

end Go.Proofs.Ytkghljcahbkfdaa
