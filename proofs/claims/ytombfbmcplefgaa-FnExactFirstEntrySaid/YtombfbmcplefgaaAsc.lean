/- Plain: ascending lists. -/
import Derived.Test.YtombfbmcplefgaaEvent
import Derived.Test.YtombfbmcplefgaaHigh
namespace Go.Proofs.Ytombfbmcplefgaa
open Go.ChangeShapes Go.WideShapes Go.ChangeAt Go.RowKit

def Asc (L : List Int) : Prop := L.Pairwise (· < ·)
theorem asc_ext : ∀ {L M : List Int}, Asc L → Asc M → (∀ v, v ∈ L ↔ v ∈ M) → L = M
  | [], [], _, _, _ => rfl
  | [], b :: M, _, _, h => by have := (h b).2 (by simp); cases this
  | a :: L, [], _, _, h => by have := (h a).1 (by simp); cases this
  | a :: L, b :: M, hL, hM, h => by
    have hL' := List.pairwise_cons.1 hL
    have hM' := List.pairwise_cons.1 hM
    have hab : a = b := by
      have h1 := (h a).1 (by simp)
      have h2 := (h b).2 (by simp)
      rcases List.mem_cons.1 h1 with e | h1
      · exact e
      · rcases List.mem_cons.1 h2 with e | h2
        · exact e.symm
        · have := hL'.1 b h2; have := hM'.1 a h1; omega
    subst hab
    rw [asc_ext hL'.2 hM'.2 fun v => ?_]
    have hv := h v
    constructor
    · intro hm
      have := hL'.1 v hm
      rcases List.mem_cons.1 (hv.1 (List.mem_cons_of_mem _ hm)) with e | hm'
      · omega
      · exact hm'
    · intro hm
      have := hM'.1 v hm
      rcases List.mem_cons.1 (hv.2 (List.mem_cons_of_mem _ hm)) with e | hm'
      · omega
      · exact hm'
theorem nth_get {L : List Int} {j : Nat} (h : j < L.length) : nth L j = L[j] := by simp [nth, List.getD, h]
theorem asc_rise {L : List Int} : riseB L = true ↔ Asc L := by
  constructor
  · intro h
    refine List.pairwise_iff_getElem.2 fun i j hi hj hij => ?_
    have := rise_lt h hij hj
    rwa [nth_get hi, nth_get hj] at this
  · intro h
    refine riseB_yes fun j hj => ?_
    rw [nth_get (by omega), nth_get hj]
    exact List.pairwise_iff_getElem.1 h j (j + 1) (by omega) hj (by omega)
theorem hasB_mem {L : List Int} {v : Int} : hasB L v = true ↔ v ∈ L := by
  rw [hasB_iff]
  constructor
  · rintro ⟨j, hj, he⟩; rw [← he]; exact nth_mem hj
  · exact fun h => mem_nth h
theorem both_mem {L M : List Int} {v : Int} : v ∈ bothL L M ↔ v ∈ L ∧ v ∈ M := by
  unfold bothL; rw [List.mem_filter, hasB_mem]
theorem asc_both {L : List Int} (h : Asc L) (M : List Int) : Asc (bothL L M) := List.Pairwise.filter _ h
theorem both_comm {L M : List Int} (hL : Asc L) (hM : Asc M) : bothL L M = bothL M L :=
  asc_ext (asc_both hL M) (asc_both hM L) fun v => by rw [both_mem, both_mem, and_comm]
theorem asc_way {xs : List Int} (hu : ∀ j, 1 ≤ j → j < xs.length → ∃ p : Nat, nth xs j = p ∧ p < j) : ∀ x, x < xs.length → Asc (wayL xs x) := by
  intro x
  induction x using Nat.strongRecOn with
  | ind x ih =>
    intro hx
    by_cases h0 : x = 0
    · subst h0; rw [way_zero]; exact List.pairwise_singleton _ _
    · obtain ⟨p, hp, hpx⟩ := hu x (by omega) hx
      rw [way_step hu (by omega) hx hp hpx]
      refine List.pairwise_append.2 ⟨ih p hpx (by omega), List.pairwise_singleton _ _, fun a ha b hb => ?_⟩
      have hb' : b = (x : Int) := by simpa using hb
      obtain ⟨q, hq, hqp⟩ := up_mem hu p (by omega) a (by unfold wayL at ha; exact List.mem_reverse.1 ha)
      omega
theorem asc_pick (f : Nat → Bool) (n : Nat) : Asc (pick f n) := by
  unfold pick
  refine List.Pairwise.map _ (fun a b h => ?_) (List.Pairwise.filter _ List.pairwise_lt_range)
  show (a : Int) < b
  omega
theorem mem_pick {f : Nat → Bool} {n : Nat} {v : Int} : v ∈ pick f n ↔ ∃ x : Nat, v = x ∧ x < n ∧ f x = true := by
  unfold pick
  rw [List.mem_map]
  constructor
  · rintro ⟨x, hx, rfl⟩
    have := List.mem_filter.1 hx
    exact ⟨x, rfl, List.mem_range.1 this.1, this.2⟩
  · rintro ⟨x, rfl, hx, hf⟩
    exact ⟨x, List.mem_filter.2 ⟨List.mem_range.2 hx, hf⟩, rfl⟩
end Go.Proofs.Ytombfbmcplefgaa
