/- Contracts: the node of a stopping on the way to an end. -/
import Derived.Test.YtombfbmcplefgaaOver
import Derived.Test.YtombfbmcplefgaaIsStop
import Derived.Test.YtombfbmcplefgaaAsc
namespace Go.Proofs.Ytombfbmcplefgaa
open Go.ChangeShapes Go.WideShapes Go.ChangeAt Go.RowKit

theorem end_wt {xs ys : List Int} (hg : good xs ys = true) {q : Nat} (hq : q < xs.length) : hasB (endsL xs) q = decide (nth ys q ≠ 0) := by
  have h1 := wt_end hg hq
  have h2 := good_wt hg q
  have h3 : decide (nth ys q ≠ 0) = decide (0 < nth ys q) := by
    by_cases h : nth ys q = 0
    · rw [decide_eq_false (by omega), decide_eq_false (by omega)]
    · rw [decide_eq_true h, decide_eq_true (by omega)]
  rw [h3, h1, Bool.eq_iff_iff, hasB_mem]
  unfold endsL
  rw [mem_pick]
  constructor
  · rintro ⟨x, h4, _, h5⟩
    have : q = x := by omega
    rw [this]; exact h5
  · intro h4; exact ⟨q, rfl, hq, h4⟩
theorem end_in {xs : List Int} {x : Int} (h : hasB (endsL xs) x = true) : ∃ q : Nat, x = q ∧ q < xs.length := by
  obtain ⟨j, hj, he⟩ := hasB_iff.1 h
  obtain ⟨y, h1, h2, _⟩ := ends_mem hj
  exact ⟨y, by omega, h2⟩
theorem stp_end {xs qs : List Int} (h : isStp xs qs = true) {q : Nat} (he : hasB (endsL xs) q = true) : (bothL qs (wayL xs q)).length = 1 := by
  obtain ⟨j, hj, hq⟩ := hasB_iff.1 he
  have := stp_on h j hj
  rw [hq, Int.toNat_natCast] at this; exact this
theorem ovU_some {ns : List Int} : ∀ {U : List Int}, (∃ v ∈ U, v ∈ ns) → ∃ i : Nat, ovU ns U = i ∧ i < ns.length ∧ nth ns i ∈ U
  | [], h => by obtain ⟨v, hv, _⟩ := h; simp at hv
  | a :: U, h => by
    rcases idxI_cases ns a with ⟨h1, h2⟩ | ⟨h1, i, h2, h3, h4, _⟩
    · have : ∃ v ∈ U, v ∈ ns := by
        obtain ⟨v, hv, hn⟩ := h
        rcases List.mem_cons.1 hv with rfl | hv
        · rw [hasB_mem.2 hn] at h1; cases h1
        · exact ⟨v, hv, hn⟩
      obtain ⟨i, h3, h4, h5⟩ := ovU_some this
      exact ⟨i, by unfold ovU; rw [if_neg (by omega)]; exact h3, h4, List.mem_cons_of_mem _ h5⟩
    · exact ⟨i, by unfold ovU; rw [if_pos (by omega)]; exact h2, h3, by rw [h4]; simp⟩
theorem mapI_nth (f : Int → Int) (E : List Int) {i : Nat} (h : i < E.length) : nth (mapI f E E.length) i = f (nth E i) := by
  rw [mapI_all]; simp [nth, List.getD, h]
theorem one_mem {L : List Int} {v : Int} (h : L.length = 1) (hv : v ∈ L) : nth L 0 = v := by
  obtain ⟨j, hj, he⟩ := mem_nth hv
  have : j = 0 := by omega
  rw [← he, this]
theorem sa_over {xs qs : List Int} (h : isStp xs qs = true) {q : Nat} (he : hasB (endsL xs) q = true) :
    ∃ i m : Nat, idxI (endsL xs) q = i ∧ i < (endsL xs).length ∧ nth (ovL xs qs) i = m ∧ m < qs.length ∧ nth qs m = nth (bothL qs (wayL xs q)) 0 := by
  have hone := stp_end h he
  rcases idxI_cases (endsL xs) q with ⟨h1, _⟩ | ⟨_, i, h2, h3, h4, _⟩
  · rw [he] at h1; cases h1
  · have hb : nth (bothL qs (wayL xs q)) 0 ∈ bothL qs (wayL xs q) := nth_mem (by omega)
    have hb2 := both_mem.1 hb
    obtain ⟨m, h5, h6, h7⟩ := ovU_some (ns := qs) (U := up xs q) ⟨_, List.mem_reverse.1 (show _ ∈ (up xs q).reverse from hb2.2), hb2.1⟩
    refine ⟨i, m, h2, h3, ?_, h6, ?_⟩
    · unfold ovL; rw [mapI_nth _ _ h3, h4]; unfold ovX; rw [Int.toNat_natCast]; exact h5
    · exact (one_mem hone (both_mem.2 ⟨nth_mem h6, List.mem_reverse.2 h7⟩)).symm
noncomputable def saOk (xs ys qs : List Int) (x : Int) : Bool := good xs ys && isNd xs.length x && isStp xs qs && decide (nth ys x.toNat ≠ 0)
noncomputable def saOk2 (xs ys qs : List Int) (x : Int) : Bool := good xs ys && isStp xs qs && hasB (endsL xs) x
noncomputable def saR (xs ys qs : List Int) (x : Int) : Int := if saOk xs ys qs x then nth (bothL qs (wayL xs x.toNat)) 0 else 0
noncomputable def saR2 (xs ys qs : List Int) (x : Int) : Int := if saOk2 xs ys qs x then nth (bothL qs (wayL xs x.toNat)) 0 else 0
theorem saR_no {xs ys qs : List Int} {x : Int} (h : saOk xs ys qs x = false) : saR xs ys qs x = 0 := by unfold saR; rw [h]; rfl
theorem saR_yes {xs ys qs : List Int} {x : Int} (h : saOk xs ys qs x = true) : saR xs ys qs x = nth (bothL qs (wayL xs x.toNat)) 0 := by unfold saR; rw [h]; rfl
theorem saR2_no {xs ys qs : List Int} {x : Int} (h : saOk2 xs ys qs x = false) : saR2 xs ys qs x = 0 := by unfold saR2; rw [h]; rfl
theorem saR2_yes {xs ys qs : List Int} {x : Int} (h : saOk2 xs ys qs x = true) : saR2 xs ys qs x = nth (bothL qs (wayL xs x.toNat)) 0 := by unfold saR2; rw [h]; rfl
theorem nd_of {n : Nat} {q : Nat} (h : q < n) : isNd n q = true := by unfold isNd; simp; omega
theorem of_nd {n : Nat} {x : Int} (h : isNd n x = true) : ∃ q : Nat, x = q ∧ q < n := by
  unfold isNd at h; simp at h; exact ⟨x.toNat, by omega, by omega⟩
theorem sa_same (xs ys qs : List Int) (x : Int) : saOk2 xs ys qs x = saOk xs ys qs x := by
  unfold saOk saOk2
  cases hg : good xs ys with
  | false => rfl
  | true =>
    simp only [Bool.true_and]
    by_cases hx : isNd xs.length x = true
    · obtain ⟨q, rfl, hq⟩ := of_nd hx
      rw [hx, end_wt hg hq]; simp
    · have h1 : isNd xs.length x = false := by simpa using hx
      rw [h1]
      have h2 : hasB (endsL xs) x = false := by
        cases he : hasB (endsL xs) x with
        | false => rfl
        | true => obtain ⟨q, rfl, hq⟩ := end_in he; rw [nd_of hq] at h1; cases h1
      rw [h2]; simp
theorem saR_same (xs ys qs : List Int) (x : Int) : saR2 xs ys qs x = saR xs ys qs x := by unfold saR saR2; rw [sa_same]
end Go.Proofs.Ytombfbmcplefgaa
