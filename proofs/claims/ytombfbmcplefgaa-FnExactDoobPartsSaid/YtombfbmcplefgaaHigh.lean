/- Contracts: the greatest number on the way to each end. -/
import Derived.Test.YtombfbmcplefgaaWay
import Derived.Test.YtombfbmcplefgaaCut
import Derived.Test.YtombfbmcplefgaaStake
namespace Go.Proofs.Ytombfbmcplefgaa
open Go.ChangeShapes Go.WideShapes Go.ChangeAt Go.RowKit

theorem up_mem {xs : List Int} (hu : ∀ j, 1 ≤ j → j < xs.length → ∃ p : Nat, nth xs j = p ∧ p < j) : ∀ x, x < xs.length → ∀ v ∈ up xs x, ∃ q : Nat, v = q ∧ q ≤ x := by
  intro x
  induction x using Nat.strongRecOn with
  | ind x ih =>
    intro hx v hv
    by_cases h0 : x = 0
    · subst h0; rw [up_zero] at hv; simp at hv; exact ⟨0, hv, Nat.le_refl _⟩
    · obtain ⟨p, hp, hpx⟩ := hu x (by omega) hx
      rw [up_step hu (by omega) hx hp hpx] at hv
      rcases List.mem_cons.1 hv with rfl | hv
      · exact ⟨x, rfl, Nat.le_refl _⟩
      · obtain ⟨q, hq, hqp⟩ := ih p hpx (by omega) v hv
        exact ⟨q, hq, by omega⟩
theorem way_mem {xs : List Int} (hu : ∀ j, 1 ≤ j → j < xs.length → ∃ p : Nat, nth xs j = p ∧ p < j) {x : Nat} (hx : x < xs.length) {j : Nat} (hj : j < (wayL xs x).length) : ∃ q : Nat, nth (wayL xs x) j = q ∧ q ≤ x :=
  up_mem hu x hx _ (List.mem_reverse.1 (show nth (wayL xs x) j ∈ (up xs x).reverse from nth_mem hj))
theorem ends_mem {xs : List Int} {j : Nat} (h : j < (endsL xs).length) : ∃ y : Nat, nth (endsL xs) j = y ∧ y < xs.length ∧ noKid xs xs.length y = true := pick_mem h
theorem ends_len (xs : List Int) : (endsL xs).length ≤ xs.length := pick_len _ _
/-- What a function gives at the first i numbers of a list. -/
def mapI (f : Int → Int) (E : List Int) (i : Nat) : List Int := (E.take i).map f
theorem mapI_zero (f : Int → Int) (E : List Int) : mapI f E 0 = [] := rfl
theorem mapI_succ (f : Int → Int) (E : List Int) {i : Nat} (h : i < E.length) : mapI f E (i + 1) = mapI f E i ++ [f (nth E i)] := by
  unfold mapI
  rw [List.take_succ_eq_append_getElem h, List.map_append]
  congr 1
  simp [nth, List.getD, h]
theorem mapI_all (f : Int → Int) (E : List Int) : mapI f E E.length = E.map f := by simp [mapI]
theorem mapI_len (f : Int → Int) (E : List Int) {i : Nat} (h : i ≤ E.length) : (mapI f E i).length = i := by simp [mapI]; omega

theorem ite_max (a b : Int) : (if b < a then a else b) = max b a := by split <;> omega
/-- The greatest of the pays of the first k nodes of a way, and of the root's. -/
def maxW (ps W : List Int) : Nat → Int
  | 0 => nth ps 0
  | k + 1 => max (maxW ps W k) (nth ps (nth W k).toNat)
def highE (xs ps : List Int) (y : Int) : Int := maxW ps (wayL xs y.toNat) (wayL xs y.toNat).length
def highL (xs ps : List Int) : List Int := mapI (highE xs ps) (endsL xs) (endsL xs).length
theorem highL_len (xs ps : List Int) : (highL xs ps).length ≤ xs.length := by
  unfold highL; rw [mapI_len _ _ (Nat.le_refl _)]; exact ends_len xs
theorem ends_pos {xs ys : List Int} (h : good xs ys = true) : 1 ≤ (endsL xs).length := by
  have hl := good_len h
  have h1 := last_end h
  have h2 := wt_end h (x := xs.length - 1) (by omega)
  have h3 : noKid xs xs.length (xs.length - 1) = true := by rw [← h2]; simpa using (by omega : 0 < nth ys (xs.length - 1))
  unfold endsL pick
  have h4 : ((xs.length - 1 : Nat) : Int) ∈ ((List.range xs.length).filter (noKid xs xs.length)).map (fun x : Nat => (x : Int)) :=
    List.mem_map.2 ⟨xs.length - 1, List.mem_filter.2 ⟨List.mem_range.2 (by omega), h3⟩, rfl⟩
  exact List.length_pos_of_mem h4
noncomputable def procOk (xs ys ps : List Int) : Bool := good xs ys && isProc xs.length ps
noncomputable def highR (xs ys ps : List Int) : List Int := if procOk xs ys ps then highL xs ps else []
theorem highR_no {xs ys ps : List Int} (h : procOk xs ys ps = false) : highR xs ys ps = [] := by unfold highR; rw [h]; rfl
theorem highR_yes {xs ys ps : List Int} (h : procOk xs ys ps = true) : highR xs ys ps = highL xs ps := by unfold highR; rw [h]; rfl
theorem highR_len (xs ys ps : List Int) (hn : xs.length ≤ 1048576) : (highR xs ys ps).length ≤ 2000000 := by
  unfold highR; split
  · have := highL_len xs ps; omega
  · simp
end Go.Proofs.Ytombfbmcplefgaa
