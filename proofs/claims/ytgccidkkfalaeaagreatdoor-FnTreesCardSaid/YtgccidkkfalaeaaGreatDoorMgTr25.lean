/- Plain: ascending lists. -/
import Derived.StillTailTactics
import Derived.Test.YtgccidkkfalaeaaGreatDoorMgTr14
import Derived.Test.YtgccidkkfalaeaaGreatDoorMgTr23
import Derived.Test.YtgccidkkfalaeaaGreatDoorMgTr9
import Derived.Test.YtgccidkkfalaeaaGreatDoorMgTr10
namespace Go.Proofs.YtgccidkkfalaeaaGreatDoor
open Go.ChangeShapes Go.WideShapes Go.ChangeAt Go.RowKit

def Asc (L : List Int) : Prop := L.Pairwise (· < ·)
theorem asc_ext : ∀ {L M : List Int}, Asc L → Asc M → (∀ v, v ∈ L ↔ v ∈ M) → L = M
  | [], [], _, _, _ => rfl
  | [], b :: M, _, _, h => by have := (h b).2 (by simp); cases this
  | a :: L, [], _, _, h => by have := (h a).1 (by simp); cases this
  | a :: L, b :: M, hL, hM, h => by
    have hL' := List.pairwise_cons.1 hL
    have hM' := List.pairwise_cons.1 hM
    have hab : a = b := by
      have h1 := (h a).1 (by simp)
      have h2 := (h b).2 (by simp)
      rcases List.mem_cons.1 h1 with e | h1
      · exact e
      · rcases List.mem_cons.1 h2 with e | h2
        · exact e.symm
        · have := hL'.1 b h2; have := hM'.1 a h1; omega
    subst hab
    rw [asc_ext hL'.2 hM'.2 fun v => ?_]
    have hv := h v
    constructor
    · intro hm
      have := hL'.1 v hm
      rcases List.mem_cons.1 (hv.1 (List.mem_cons_of_mem _ hm)) with e | hm'
      · omega
      · exact hm'
    · intro hm
      have := hM'.1 v hm
      rcases List.mem_cons.1 (hv.2 (List.mem_cons_of_mem _ hm)) with e | hm'
      · omega
      · exact hm'
theorem nth_get {L : List Int} {j : Nat} (h : j < L.length) : nth L j = L[j] := by simp [nth, List.getD, h]
theorem asc_rise {L : List Int} : riseB L = true ↔ Asc L := by
  constructor
  · intro h
    refine List.pairwise_iff_getElem.2 fun i j hi hj hij => ?_
    have := rise_lt h hij hj
    rwa [nth_get hi, nth_get hj] at this
  · intro h
    refine riseB_yes fun j hj => ?_
    rw [nth_get (by omega), nth_get hj]
    exact List.pairwise_iff_getElem.1 h j (j + 1) (by omega) hj (by omega)
theorem hasB_mem {L : List Int} {v : Int} : hasB L v = true ↔ v ∈ L := by
  rw [hasB_iff]
  constructor
  · rintro ⟨j, hj, he⟩; rw [← he]; exact nth_mem hj
  · exact fun h => mem_nth h
theorem both_mem {L M : List Int} {v : Int} : v ∈ bothL L M ↔ v ∈ L ∧ v ∈ M := by
  unfold bothL; rw [List.mem_filter, hasB_mem]
theorem asc_both {L : List Int} (h : Asc L) (M : List Int) : Asc (bothL L M) := List.Pairwise.filter _ h
theorem both_comm {L M : List Int} (hL : Asc L) (hM : Asc M) : bothL L M = bothL M L :=
  asc_ext (asc_both hL M) (asc_both hM L) fun v => by rw [both_mem, both_mem, and_comm]
theorem asc_way {xs : List Int} (hu : ∀ j, 1 ≤ j → j < xs.length → ∃ p : Nat, nth xs j = p ∧ p < j) : ∀ x, x < xs.length → Asc (wayL xs x) := by
  intro x
  induction x using Nat.strongRecOn with
  | ind x ih =>
    intro hx
    by_cases h0 : x = 0
    · subst h0; rw [way_zero]; exact List.pairwise_singleton _ _
    · obtain ⟨p, hp, hpx⟩ := hu x (by omega) hx
      rw [way_step hu (by omega) hx hp hpx]
      refine List.pairwise_append.2 ⟨ih p hpx (by omega), List.pairwise_singleton _ _, fun a ha b hb => ?_⟩
      have hb' : b = (x : Int) := by simpa using hb
      obtain ⟨q, hq, hqp⟩ := up_mem hu p (by omega) a (by unfold wayL at ha; exact List.mem_reverse.1 ha)
      omega
theorem asc_pick (f : Nat → Bool) (n : Nat) : Asc (pick f n) := by
  unfold pick
  refine List.Pairwise.map _ (fun a b h => ?_) (List.Pairwise.filter _ List.pairwise_lt_range)
  show (a : Int) < b
  omega
theorem mem_pick {f : Nat → Bool} {n : Nat} {v : Int} : v ∈ pick f n ↔ ∃ x : Nat, v = x ∧ x < n ∧ f x = true := by
  unfold pick
  rw [List.mem_map]
  constructor
  · rintro ⟨x, hx, rfl⟩
    have := List.mem_filter.1 hx
    exact ⟨x, rfl, List.mem_range.1 this.1, this.2⟩
  · rintro ⟨x, rfl, hx, hf⟩
    exact ⟨x, List.mem_filter.2 ⟨List.mem_range.2 hx, hf⟩, rfl⟩
end Go.Proofs.YtgccidkkfalaeaaGreatDoor
/- Contracts: the ends that are not in an event; its pays. -/
namespace Go.Proofs.YtgccidkkfalaeaaGreatDoor
open Go.ChangeShapes Go.WideShapes Go.ChangeAt Go.RowKit

def filK (f : Int → Bool) (E : List Int) (k : Nat) : List Int := (E.take k).filter f
theorem filK_zero (f : Int → Bool) (E : List Int) : filK f E 0 = [] := rfl
theorem filK_all (f : Int → Bool) (E : List Int) : filK f E E.length = E.filter f := by simp [filK]
theorem filK_yes {f : Int → Bool} {a : List Int} {k : Nat} (h : k < a.length) (hb : f (nth a k) = true) : filK f a (k + 1) = filK f a k ++ [nth a k] := by
  have e : nth a k = a[k] := by simp [nth, List.getD, h]
  unfold filK
  rw [List.take_succ_eq_append_getElem h, List.filter_append, ← e]
  simp [hb]
theorem filK_no {f : Int → Bool} {a : List Int} {k : Nat} (h : k < a.length) (hb : f (nth a k) = false) : filK f a (k + 1) = filK f a k := by
  have e : nth a k = a[k] := by simp [nth, List.getD, h]
  unfold filK
  rw [List.take_succ_eq_append_getElem h, List.filter_append, ← e]
  simp [hb]
theorem filK_len (f : Int → Bool) (a : List Int) (k : Nat) : (filK f a k).length ≤ k := by
  unfold filK
  exact Nat.le_trans (List.length_filter_le _ _) (List.length_take_le _ _)
noncomputable def evOk (xs ys ps : List Int) : Bool := good xs ys && isEv xs ps
def othL (xs ps : List Int) : List Int := filK (fun v => !hasB ps v) (endsL xs) (endsL xs).length
noncomputable def othR (xs ys ps : List Int) : List Int := if evOk xs ys ps then othL xs ps else []
theorem othR_no {xs ys ps : List Int} (h : evOk xs ys ps = false) : othR xs ys ps = [] := by unfold othR; rw [h]; rfl
theorem othR_yes {xs ys ps : List Int} (h : evOk xs ys ps = true) : othR xs ys ps = othL xs ps := by unfold othR; rw [h]; rfl
theorem othR_len (xs ys ps : List Int) (hn : xs.length ≤ 1048576) : (othR xs ys ps).length ≤ 2000000 := by
  unfold othR; split
  · unfold othL; have := filK_len (fun v => !hasB ps v) (endsL xs) (endsL xs).length; have := ends_len xs; omega
  · simp
def indE (ps : List Int) (v : Int) : Int := if hasB ps v then 1 else 0
def indcL (xs ps : List Int) : List Int := mapI (indE ps) (endsL xs) (endsL xs).length
noncomputable def indcR (xs ys ps : List Int) : List Int := if evOk xs ys ps then indcL xs ps else []
theorem indcR_no {xs ys ps : List Int} (h : evOk xs ys ps = false) : indcR xs ys ps = [] := by unfold indcR; rw [h]; rfl
theorem indcR_yes {xs ys ps : List Int} (h : evOk xs ys ps = true) : indcR xs ys ps = indcL xs ps := by unfold indcR; rw [h]; rfl
theorem indcR_len (xs ys ps : List Int) (hn : xs.length ≤ 1048576) : (indcR xs ys ps).length ≤ 2000000 := by
  unfold indcR; split
  · unfold indcL; rw [mapI_len _ _ (Nat.le_refl _)]; have := ends_len xs; omega
  · simp
end Go.Proofs.YtgccidkkfalaeaaGreatDoor
/- Contracts: over. -/
namespace Go.Proofs.YtgccidkkfalaeaaGreatDoor
open Go.ChangeShapes Go.WideShapes Go.ChangeAt Go.RowKit

/-- The place in a list of the first node that is met on the way up, or -1. -/
def ovU (ns : List Int) : List Int → Int
  | [] => -1
  | v :: U => if 0 ≤ idxI ns v then idxI ns v else ovU ns U
def ovX (xs ns : List Int) (y : Int) : Int := ovU ns (up xs y.toNat)
def ovL (xs ns : List Int) : List Int := mapI (ovX xs ns) (endsL xs) (endsL xs).length
theorem ovL_len (xs ns : List Int) : (ovL xs ns).length = (endsL xs).length := mapI_len _ _ (Nat.le_refl _)
theorem ov_all {xs : List Int} (ns : List Int) (hu : ∀ j, 1 ≤ j → j < xs.length → ∃ p : Nat, nth xs j = p ∧ p < j) (h0 : nth xs 0 = -1) {q : Nat} (hq : q < xs.length) :
    ∃ a : Int, nth xs q = a ∧ -1 ≤ a ∧ a < q ∧ ((0 ≤ idxI ns q ∧ ovX xs ns q = idxI ns q) ∨ (idxI ns q = -1 ∧ ((a = -1 ∧ ovX xs ns q = -1) ∨ ∃ p : Nat, a = p ∧ p < xs.length ∧ ovX xs ns q = ovX xs ns p))) := by
  have hi : idxI ns q = -1 ∨ 0 ≤ idxI ns q := by
    rcases idxI_cases ns q with ⟨_, h⟩ | ⟨_, i, h, _⟩ <;> omega
  by_cases hz : q = 0
  · subst hz
    refine ⟨-1, h0, by omega, by omega, ?_⟩
    have e : ovX xs ns ((0 : Nat) : Int) = if 0 ≤ idxI ns ((0 : Nat) : Int) then idxI ns ((0 : Nat) : Int) else -1 := by
      unfold ovX; rw [Int.toNat_natCast, up_zero]; rfl
    rcases hi with h | h
    · exact .inr ⟨h, .inl ⟨rfl, by rw [e, if_neg (by omega)]⟩⟩
    · exact .inl ⟨h, by rw [e, if_pos h]⟩
  · obtain ⟨p, hp, hpq⟩ := hu q (by omega) hq
    refine ⟨p, hp, by omega, by omega, ?_⟩
    have e : ovX xs ns (q : Int) = if 0 ≤ idxI ns (q : Int) then idxI ns (q : Int) else ovX xs ns (p : Int) := by
      unfold ovX; rw [Int.toNat_natCast, Int.toNat_natCast, up_step hu (by omega) hq hp hpq]; rfl
    rcases hi with h | h
    · exact .inr ⟨h, .inr ⟨p, rfl, by omega, by rw [e, if_neg (by omega)]⟩⟩
    · exact .inl ⟨h, by rw [e, if_pos h]⟩

end Go.Proofs.YtgccidkkfalaeaaGreatDoor
/- Contracts: stoppings. -/
namespace Go.Proofs.YtgccidkkfalaeaaGreatDoor
open Go.ChangeShapes Go.WideShapes Go.ChangeAt Go.RowKit

/-- One node of the list is on the way to each end. -/
def onB (xs zs : List Int) : Bool := (List.range (endsL xs).length).all fun j => decide ((bothL zs (wayL xs (nth (endsL xs) j).toNat)).length = 1)
/-- A stopping of a valid tree. -/
def isStp (xs zs : List Int) : Bool := onB xs zs && (allIn zs 0 ((xs.length : Int) - 1) && riseB zs)
theorem onB_no {xs zs : List Int} {j : Nat} (hj : j < (endsL xs).length) (h : ¬ (bothL zs (wayL xs (nth (endsL xs) j).toNat)).length = 1) : onB xs zs = false := by
  rw [Bool.eq_false_iff]; intro ha
  exact h (of_decide_eq_true (List.all_eq_true.1 ha j (List.mem_range.2 hj)))
theorem onB_iff {xs zs : List Int} : onB xs zs = true ↔ ∀ j, j < (endsL xs).length → (bothL zs (wayL xs (nth (endsL xs) j).toNat)).length = 1 :=
  ⟨fun ha j hj => of_decide_eq_true (List.all_eq_true.1 ha j (List.mem_range.2 hj)), fun h => List.all_eq_true.2 fun j hj => decide_eq_true (h j (List.mem_range.1 hj))⟩
theorem stp_node {xs zs : List Int} (h : isStp xs zs = true) : ∀ j, j < zs.length → ∃ q : Nat, nth zs j = q ∧ q < xs.length := fun j hj => by
  have := allIn_iff.1 (Bool.and_eq_true_iff.1 (Bool.and_eq_true_iff.1 h).2).1 j hj
  exact ⟨(nth zs j).toNat, by omega, by omega⟩
theorem stp_rise {xs zs : List Int} (h : isStp xs zs = true) : riseB zs = true := (Bool.and_eq_true_iff.1 (Bool.and_eq_true_iff.1 h).2).2
theorem stp_len {xs zs : List Int} (h : isStp xs zs = true) : zs.length ≤ xs.length :=
  rise_len (stp_rise h) fun j hj => by obtain ⟨q, h1, h2⟩ := stp_node h j hj; omega
theorem stp_on {xs zs : List Int} (h : isStp xs zs = true) : ∀ j, j < (endsL xs).length → (bothL zs (wayL xs (nth (endsL xs) j).toNat)).length = 1 := onB_iff.1 (Bool.and_eq_true_iff.1 h).1

end Go.Proofs.YtgccidkkfalaeaaGreatDoor
/- Contracts: IsStopping. -/
namespace Go.Proofs.YtgccidkkfalaeaaGreatDoor
open Go.ChangeShapes Go.WideShapes Go.ChangeAt Go.RowKit

noncomputable def treeOk (xs ys : List Int) : Bool := good xs ys
noncomputable def stpR (xs ys ps : List Int) : Bool := treeOk xs ys && isStp xs ps
theorem stpR_no {xs ys ps : List Int} (h : treeOk xs ys = false) : stpR xs ys ps = false := by unfold stpR; rw [h]; rfl
theorem stpR_yes {xs ys ps : List Int} (h : treeOk xs ys = true) : stpR xs ys ps = isStp xs ps := by unfold stpR; rw [h]; rfl
end Go.Proofs.YtgccidkkfalaeaaGreatDoor
/- Contracts: the node of a stopping on the way to an end. -/
namespace Go.Proofs.YtgccidkkfalaeaaGreatDoor
open Go.ChangeShapes Go.WideShapes Go.ChangeAt Go.RowKit

theorem end_wt {xs ys : List Int} (hg : good xs ys = true) {q : Nat} (hq : q < xs.length) : hasB (endsL xs) q = decide (nth ys q ≠ 0) := by
  have h1 := wt_end hg hq
  have h2 := good_wt hg q
  have h3 : decide (nth ys q ≠ 0) = decide (0 < nth ys q) := by
    by_cases h : nth ys q = 0
    · rw [decide_eq_false (by omega), decide_eq_false (by omega)]
    · rw [decide_eq_true h, decide_eq_true (by omega)]
  rw [h3, h1, Bool.eq_iff_iff, hasB_mem]
  unfold endsL
  rw [mem_pick]
  constructor
  · rintro ⟨x, h4, _, h5⟩
    have : q = x := by omega
    rw [this]; exact h5
  · intro h4; exact ⟨q, rfl, hq, h4⟩
theorem end_in {xs : List Int} {x : Int} (h : hasB (endsL xs) x = true) : ∃ q : Nat, x = q ∧ q < xs.length := by
  obtain ⟨j, hj, he⟩ := hasB_iff.1 h
  obtain ⟨y, h1, h2, _⟩ := ends_mem hj
  exact ⟨y, by omega, h2⟩
theorem stp_end {xs qs : List Int} (h : isStp xs qs = true) {q : Nat} (he : hasB (endsL xs) q = true) : (bothL qs (wayL xs q)).length = 1 := by
  obtain ⟨j, hj, hq⟩ := hasB_iff.1 he
  have := stp_on h j hj
  rw [hq, Int.toNat_natCast] at this; exact this
theorem ovU_some {ns : List Int} : ∀ {U : List Int}, (∃ v ∈ U, v ∈ ns) → ∃ i : Nat, ovU ns U = i ∧ i < ns.length ∧ nth ns i ∈ U
  | [], h => by obtain ⟨v, hv, _⟩ := h; simp at hv
  | a :: U, h => by
    rcases idxI_cases ns a with ⟨h1, h2⟩ | ⟨h1, i, h2, h3, h4, _⟩
    · have : ∃ v ∈ U, v ∈ ns := by
        obtain ⟨v, hv, hn⟩ := h
        rcases List.mem_cons.1 hv with rfl | hv
        · rw [hasB_mem.2 hn] at h1; cases h1
        · exact ⟨v, hv, hn⟩
      obtain ⟨i, h3, h4, h5⟩ := ovU_some this
      exact ⟨i, by unfold ovU; rw [if_neg (by omega)]; exact h3, h4, List.mem_cons_of_mem _ h5⟩
    · exact ⟨i, by unfold ovU; rw [if_pos (by omega)]; exact h2, h3, by rw [h4]; simp⟩
theorem mapI_nth (f : Int → Int) (E : List Int) {i : Nat} (h : i < E.length) : nth (mapI f E E.length) i = f (nth E i) := by
  rw [mapI_all]; simp [nth, List.getD, h]
theorem one_mem {L : List Int} {v : Int} (h : L.length = 1) (hv : v ∈ L) : nth L 0 = v := by
  obtain ⟨j, hj, he⟩ := mem_nth hv
  have : j = 0 := by omega
  rw [← he, this]
theorem sa_over {xs qs : List Int} (h : isStp xs qs = true) {q : Nat} (he : hasB (endsL xs) q = true) :
    ∃ i m : Nat, idxI (endsL xs) q = i ∧ i < (endsL xs).length ∧ nth (ovL xs qs) i = m ∧ m < qs.length ∧ nth qs m = nth (bothL qs (wayL xs q)) 0 := by
  have hone := stp_end h he
  rcases idxI_cases (endsL xs) q with ⟨h1, _⟩ | ⟨_, i, h2, h3, h4, _⟩
  · rw [he] at h1; cases h1
  · have hb : nth (bothL qs (wayL xs q)) 0 ∈ bothL qs (wayL xs q) := nth_mem (by omega)
    have hb2 := both_mem.1 hb
    obtain ⟨m, h5, h6, h7⟩ := ovU_some (ns := qs) (U := up xs q) ⟨_, List.mem_reverse.1 (show _ ∈ (up xs q).reverse from hb2.2), hb2.1⟩
    refine ⟨i, m, h2, h3, ?_, h6, ?_⟩
    · unfold ovL; rw [mapI_nth _ _ h3, h4]; unfold ovX; rw [Int.toNat_natCast]; exact h5
    · exact (one_mem hone (both_mem.2 ⟨nth_mem h6, List.mem_reverse.2 h7⟩)).symm
noncomputable def saOk (xs ys qs : List Int) (x : Int) : Bool := good xs ys && isNd xs.length x && isStp xs qs && decide (nth ys x.toNat ≠ 0)
noncomputable def saOk2 (xs ys qs : List Int) (x : Int) : Bool := good xs ys && isStp xs qs && hasB (endsL xs) x
noncomputable def saR (xs ys qs : List Int) (x : Int) : Int := if saOk xs ys qs x then nth (bothL qs (wayL xs x.toNat)) 0 else 0
noncomputable def saR2 (xs ys qs : List Int) (x : Int) : Int := if saOk2 xs ys qs x then nth (bothL qs (wayL xs x.toNat)) 0 else 0
theorem saR_no {xs ys qs : List Int} {x : Int} (h : saOk xs ys qs x = false) : saR xs ys qs x = 0 := by unfold saR; rw [h]; rfl
theorem saR_yes {xs ys qs : List Int} {x : Int} (h : saOk xs ys qs x = true) : saR xs ys qs x = nth (bothL qs (wayL xs x.toNat)) 0 := by unfold saR; rw [h]; rfl
theorem saR2_no {xs ys qs : List Int} {x : Int} (h : saOk2 xs ys qs x = false) : saR2 xs ys qs x = 0 := by unfold saR2; rw [h]; rfl
theorem saR2_yes {xs ys qs : List Int} {x : Int} (h : saOk2 xs ys qs x = true) : saR2 xs ys qs x = nth (bothL qs (wayL xs x.toNat)) 0 := by unfold saR2; rw [h]; rfl
theorem nd_of {n : Nat} {q : Nat} (h : q < n) : isNd n q = true := by unfold isNd; simp; omega
theorem of_nd {n : Nat} {x : Int} (h : isNd n x = true) : ∃ q : Nat, x = q ∧ q < n := by
  unfold isNd at h; simp at h; exact ⟨x.toNat, by omega, by omega⟩
theorem sa_same (xs ys qs : List Int) (x : Int) : saOk2 xs ys qs x = saOk xs ys qs x := by
  unfold saOk saOk2
  cases hg : good xs ys with
  | false => rfl
  | true =>
    simp only [Bool.true_and]
    by_cases hx : isNd xs.length x = true
    · obtain ⟨q, rfl, hq⟩ := of_nd hx
      rw [hx, end_wt hg hq]; simp
    · have h1 : isNd xs.length x = false := by simpa using hx
      rw [h1]
      have h2 : hasB (endsL xs) x = false := by
        cases he : hasB (endsL xs) x with
        | false => rfl
        | true => obtain ⟨q, rfl, hq⟩ := end_in he; rw [nd_of hq] at h1; cases h1
      rw [h2]; simp
theorem saR_same (xs ys qs : List Int) (x : Int) : saR2 xs ys qs x = saR xs ys qs x := by unfold saR saR2; rw [sa_same]
end Go.Proofs.YtgccidkkfalaeaaGreatDoor
/- Contracts: l2Under. Plain: where a way meets a cut. -/
namespace Go.Proofs.YtgccidkkfalaeaaGreatDoor
open Go.ChangeShapes Go.WideShapes Go.ChangeAt Go.RowKit

/-- Node x is on the way to y. -/
def underB (xs : List Int) (x y : Nat) : Bool := hasB (up xs y) x
theorem under_self {xs : List Int} (hu : ∀ j, 1 ≤ j → j < xs.length → ∃ p : Nat, nth xs j = p ∧ p < j) {y : Nat} (hy : y < xs.length) : underB xs y y = true := by
  unfold underB; rw [hasB_mem]
  by_cases h : y = 0
  · subst h; rw [up_zero]; simp
  · obtain ⟨p, hp, hpy⟩ := hu y (by omega) hy
    rw [up_step hu (by omega) hy hp hpy]; simp
theorem under_low {xs : List Int} (hu : ∀ j, 1 ≤ j → j < xs.length → ∃ p : Nat, nth xs j = p ∧ p < j) {x y : Nat} (hy : y < xs.length) (h : y < x) : underB xs x y = false := by
  cases hb : underB xs x y with
  | false => rfl
  | true =>
    unfold underB at hb
    obtain ⟨q, hq, hqy⟩ := up_mem hu y hy _ (hasB_mem.1 hb)
    omega
theorem under_up {xs : List Int} (hu : ∀ j, 1 ≤ j → j < xs.length → ∃ p : Nat, nth xs j = p ∧ p < j) {x y p : Nat} (hy : y < xs.length) (hp : nth xs y = p) (hpy : p < y) (h : x < y) : underB xs x y = underB xs x p := by
  unfold underB
  rw [Bool.eq_iff_iff, hasB_mem, hasB_mem, up_step hu (by omega) hy hp hpy, List.mem_cons]
  constructor
  · rintro (h1 | h1)
    · omega
    · exact h1
  · exact .inr
theorem dep_more (xs : List Int) {k m j : Nat} (hj : j < k) (hk1 : 1 ≤ k) (hkm : k ≤ m) : nth (dep xs m) j = nth (dep xs k) j := by
  induction m with
  | zero => omega
  | succ m ih =>
    by_cases h : k = m + 1
    · rw [h]
    · rw [dep_succ xs (by omega), nth_app_lt (by rw [dep_len]; omega)]; exact ih (by omega)
/-- The depth of a node. -/
def dpt (xs : List Int) (x : Nat) : Int := nth (dep xs xs.length) x
theorem dpt_step {xs : List Int} {y p : Nat} (h1 : 1 ≤ y) (hy : y < xs.length) (hp : nth xs y = p) (hpy : p < y) : dpt xs y = dpt xs p + 1 := by
  unfold dpt
  rw [dep_more xs (k := y + 1) (by omega) (by omega) (by omega), dep_succ xs h1, hp, Int.toNat_natCast, dep_more xs (k := y) (m := xs.length) hpy h1 (by omega)]
  have e : y = (dep xs y).length := (dep_len xs y).symm
  conv => lhs; arg 2; rw [e]
  simp [nth, List.getD]
theorem dpt_low (xs : List Int) (x : Nat) : 0 ≤ dpt xs x := (dep_bd xs _ x).1
theorem dpt_root {xs : List Int} (h : 1 ≤ xs.length) : dpt xs 0 = 0 := by
  unfold dpt
  rw [dep_more xs (k := 1) (by omega) (by omega) h]; rfl
theorem noKid_no {xs : List Int} {y p : Nat} (hy : y < xs.length) (hp : nth xs y = p) : noKid xs xs.length p = false := by
  unfold noKid; rw [List.all_eq_false]; exact ⟨y, List.mem_range.2 hy, by simp [hp]⟩
theorem up_dpt {xs : List Int} (hu : ∀ j, 1 ≤ j → j < xs.length → ∃ p : Nat, nth xs j = p ∧ p < j) : ∀ y, y < xs.length → ∀ v ∈ up xs y, ∃ q : Nat, v = q ∧ q ≤ y ∧ dpt xs q ≤ dpt xs y ∧ (q ≠ y → dpt xs q < dpt xs y ∧ noKid xs xs.length q = false) := by
  intro y
  induction y using Nat.strongRecOn with
  | ind y ih =>
    intro hy v hv
    by_cases h0 : y = 0
    · subst h0; rw [up_zero] at hv; simp at hv; exact ⟨0, hv, Nat.le_refl _, Int.le_refl _, fun h => absurd rfl h⟩
    · obtain ⟨p, hp, hpy⟩ := hu y (by omega) hy
      have hd := dpt_step (by omega) hy hp hpy
      rw [up_step hu (by omega) hy hp hpy] at hv
      rcases List.mem_cons.1 hv with rfl | hv
      · exact ⟨y, rfl, Nat.le_refl _, Int.le_refl _, fun h => absurd rfl h⟩
      · obtain ⟨q, h1, h2, h3, h4⟩ := ih p hpy (by omega) v hv
        refine ⟨q, h1, by omega, by omega, fun _ => ⟨by omega, ?_⟩⟩
        by_cases e : q = p
        · rw [e]; exact noKid_no hy hp
        · exact (h4 e).2
theorem up_inj {xs : List Int} (hu : ∀ j, 1 ≤ j → j < xs.length → ∃ p : Nat, nth xs j = p ∧ p < j) : ∀ y, y < xs.length → ∀ a b : Nat, (a : Int) ∈ up xs y → (b : Int) ∈ up xs y → dpt xs a = dpt xs b → a = b := by
  intro y
  induction y using Nat.strongRecOn with
  | ind y ih =>
    intro hy a b ha hb hab
    by_cases h0 : y = 0
    · subst h0; rw [up_zero] at ha hb; simp at ha hb; omega
    · obtain ⟨p, hp, hpy⟩ := hu y (by omega) hy
      have hd := dpt_step (by omega) hy hp hpy
      rw [up_step hu (by omega) hy hp hpy] at ha hb
      rcases List.mem_cons.1 ha with ha | ha <;> rcases List.mem_cons.1 hb with hb | hb
      · omega
      · obtain ⟨q, h1, _, h3, _⟩ := up_dpt hu p (by omega) _ hb
        have e1 : a = y := by omega
        have e2 : b = q := by omega
        rw [e1, e2] at hab; omega
      · obtain ⟨q, h1, _, h3, _⟩ := up_dpt hu p (by omega) _ ha
        have e1 : b = y := by omega
        have e2 : a = q := by omega
        rw [e1, e2] at hab; omega
      · exact ih p hpy (by omega) a b ha hb hab
theorem up_has {xs : List Int} (hu : ∀ j, 1 ≤ j → j < xs.length → ∃ p : Nat, nth xs j = p ∧ p < j) {d : Int} (hd : 0 ≤ d) : ∀ y, y < xs.length → d ≤ dpt xs y → ∃ q : Nat, (q : Int) ∈ up xs y ∧ q ≤ y ∧ dpt xs q = d := by
  intro y
  induction y using Nat.strongRecOn with
  | ind y ih =>
    intro hy hdy
    by_cases e : dpt xs y = d
    · exact ⟨y, hasB_mem.1 (under_self hu hy), Nat.le_refl _, e⟩
    · by_cases h0 : y = 0
      · subst h0; rw [dpt_root (by omega)] at hdy e; omega
      · obtain ⟨p, hp, hpy⟩ := hu y (by omega) hy
        have hs := dpt_step (by omega) hy hp hpy
        obtain ⟨q, h1, h2, h3⟩ := ih p hpy (by omega) (by omega)
        exact ⟨q, by rw [up_step hu (by omega) hy hp hpy]; exact List.mem_cons_of_mem _ h1, by omega, h3⟩
theorem cut_iff {xs ys : List Int} {d : Int} {x : Nat} : inCut xs ys d x = true ↔ dpt xs x = d ∨ (dpt xs x < d ∧ 0 < nth ys x) := by
  unfold inCut dpt; simp
/-- A cut meets the way to an end once. -/
theorem cut_one {xs ys : List Int} (hg : good xs ys = true) {d : Int} {y : Nat} (hy : y < xs.length) {a b : Nat} (ha : (a : Int) ∈ up xs y) (hb : (b : Int) ∈ up xs y) (ca : inCut xs ys d a = true) (cb : inCut xs ys d b = true) : a = b := by
  have hu := good_upL hg
  rw [cut_iff] at ca cb
  have key : ∀ q : Nat, (q : Int) ∈ up xs y → (dpt xs q < d ∧ 0 < nth ys q) → q = y := fun q hq hh => by
    obtain ⟨z, h1, h2, _, h4⟩ := up_dpt hu y hy _ hq
    have e : q = z := by omega
    subst e
    by_cases e : q = y
    · exact e
    · have h5 := wt_end hg (x := q) (by omega)
      rw [(h4 e).2] at h5
      have := of_decide_eq_false h5
      omega
  have top : ∀ q : Nat, (q : Int) ∈ up xs y → dpt xs q ≤ dpt xs y := fun q hq => by
    obtain ⟨z, h1, _, h3, _⟩ := up_dpt hu y hy _ hq
    have e : q = z := by omega
    rw [e]; exact h3
  rcases ca with ca | ca <;> rcases cb with cb | cb
  · exact up_inj hu y hy a b ha hb (by omega)
  · have e := key b hb cb; have := top a ha; rw [e] at cb; omega
  · have e := key a ha ca; have := top b hb; rw [e] at ca; omega
  · rw [key a ha ca, key b hb cb]
theorem cut_some {xs ys : List Int} (hg : good xs ys = true) {d : Int} (hd : 0 ≤ d) {y : Nat} (hy : y < xs.length) (he : 0 < nth ys y) : ∃ q : Nat, (q : Int) ∈ up xs y ∧ q < xs.length ∧ inCut xs ys d q = true := by
  have hu := good_upL hg
  by_cases h : dpt xs y < d
  · exact ⟨y, hasB_mem.1 (under_self hu hy), hy, cut_iff.2 (.inr ⟨h, he⟩)⟩
  · obtain ⟨q, h1, h2, h3⟩ := up_has hu hd y hy (by omega)
    exact ⟨q, h1, by omega, cut_iff.2 (.inl h3)⟩
end Go.Proofs.YtgccidkkfalaeaaGreatDoor
/- Contracts: the pays that are known by a cut. -/
namespace Go.Proofs.YtgccidkkfalaeaaGreatDoor
open Go.ChangeShapes Go.WideShapes Go.ChangeAt Go.RowKit

theorem asc_lt {L : List Int} (h : Asc L) {k m : Nat} (hk : k < m) (hm : m < L.length) : nth L k < nth L m := by
  have := List.pairwise_iff_getElem.1 h k m (by omega) hm hk
  have e1 : nth L k = L[k] := by simp [nth, List.getD, show k < L.length by omega]
  have e2 : nth L m = L[m] := by simp [nth, List.getD, hm]
  rw [e1, e2]; exact this
def pcF (xs ys : List Int) (d : Int) (vs : List Int) (y : Int) : Int := nth vs (ovX xs (cutL xs ys d) y).toNat
theorem cut_at {xs ys : List Int} (hg : good xs ys = true) {d : Int} (hd : 0 ≤ d) {y : Nat} (hy : y < xs.length) (he : 0 < nth ys y) :
    ∃ m : Nat, ovX xs (cutL xs ys d) y = m ∧ m < (cutL xs ys d).length ∧ ∃ q : Nat, nth (cutL xs ys d) m = q ∧ q < xs.length ∧ underB xs q y = true ∧ ∀ k, k < m → ∃ z : Nat, nth (cutL xs ys d) k = z ∧ z < xs.length ∧ underB xs z y = false := by
  obtain ⟨q0, h1, h2, h3⟩ := cut_some hg hd hy he
  obtain ⟨m, h4, h5, h6⟩ := ovU_some (ns := cutL xs ys d) (U := up xs y) ⟨_, h1, mem_pick.2 ⟨q0, rfl, h2, h3⟩⟩
  obtain ⟨q, h7, h8, h9⟩ := pick_mem (f := inCut xs ys d) (k := xs.length) h5
  change nth (cutL xs ys d) m = q at h7
  rw [h7] at h6
  refine ⟨m, by unfold ovX; rw [Int.toNat_natCast]; exact h4, h5, q, h7, h8, hasB_mem.2 h6, fun k hk => ?_⟩
  obtain ⟨z, z1, z2, z3⟩ := pick_mem (f := inCut xs ys d) (k := xs.length) (show k < (pick (inCut xs ys d) xs.length).length from Nat.lt_trans hk h5)
  change nth (cutL xs ys d) k = z at z1
  refine ⟨z, z1, z2, ?_⟩
  cases hb : underB xs z y with
  | false => rfl
  | true =>
    have e := cut_one hg hy (hasB_mem.1 hb) h6 z3 h9
    have := asc_lt (asc_pick (inCut xs ys d) xs.length) hk h5
    change nth (cutL xs ys d) k < nth (cutL xs ys d) m at this
    omega
theorem end_pos {xs ys : List Int} (hg : good xs ys = true) {j : Nat} (hj : j < (endsL xs).length) : ∃ y : Nat, nth (endsL xs) j = y ∧ y < xs.length ∧ 0 < nth ys y := by
  obtain ⟨y, h1, h2, h3⟩ := ends_mem hj
  exact ⟨y, h1, h2, by have := wt_end hg h2; rw [h3] at this; exact of_decide_eq_true this⟩
theorem cut_pos {xs ys : List Int} (hg : good xs ys = true) {d : Int} (hd : 0 ≤ d) : 1 ≤ (cutL xs ys d).length := by
  obtain ⟨y, _, h2, h3⟩ := end_pos hg (ends_pos hg)
  obtain ⟨m, _, h4, _⟩ := cut_at hg hd h2 h3
  omega
theorem cut_len (xs ys : List Int) (d : Int) : (cutL xs ys d).length ≤ xs.length := pick_len _ _
noncomputable def pcOk (xs ys : List Int) (d : Int) (vs : List Int) : Bool := good xs ys && decide (0 ≤ d) && decide (vs.length = (cutL xs ys d).length) && allIn vs (-999) 999
noncomputable def pcR (xs ys : List Int) (d : Int) (vs : List Int) : List Int := if pcOk xs ys d vs then mapI (pcF xs ys d vs) (endsL xs) (endsL xs).length else []
theorem pcR_no {xs ys : List Int} {d : Int} {vs : List Int} (h : pcOk xs ys d vs = false) : pcR xs ys d vs = [] := by unfold pcR; rw [h]; rfl
theorem pcR_yes {xs ys : List Int} {d : Int} {vs : List Int} (h : pcOk xs ys d vs = true) : pcR xs ys d vs = mapI (pcF xs ys d vs) (endsL xs) (endsL xs).length := by unfold pcR; rw [h]; rfl
theorem pcR_len (xs ys : List Int) (d : Int) (vs : List Int) (hn : xs.length ≤ 1048576) : (pcR xs ys d vs).length ≤ 2000000 := by
  unfold pcR; split
  · rw [mapI_len _ _ (Nat.le_refl _)]; have := ends_len xs; omega
  · simp
end Go.Proofs.YtgccidkkfalaeaaGreatDoor
/- Plain: a tree up to a depth. -/
namespace Go.Proofs.YtgccidkkfalaeaaGreatDoor
open Go.ChangeShapes Go.WideShapes Go.ChangeAt Go.RowKit

def prKeep (xs : List Int) (d : Int) (x : Nat) : Bool := decide (dpt xs x ≤ d)
def prAt (xs : List Int) (d : Int) (x : Nat) : Int := ((pick (prKeep xs d) x).length : Nat)
def prPar (xs : List Int) (d : Int) (x : Nat) : Int := if x = 0 then -1 else prAt xs d (nth xs x).toNat
def prWt (xs ys : List Int) (d : Int) (x : Nat) : Int := if dpt xs x = d then nth (sumsL xs ys) x else nth ys x
def selK (keep : Nat → Bool) (f : Nat → Int) (k : Nat) : List Int := ((List.range k).filter keep).map f
theorem selK_yes {keep : Nat → Bool} {f : Nat → Int} {k : Nat} (h : keep k = true) : selK keep f (k + 1) = selK keep f k ++ [f k] := by
  unfold selK; rw [List.range_succ, List.filter_append]; simp [h]
theorem selK_no {keep : Nat → Bool} {f : Nat → Int} {k : Nat} (h : keep k = false) : selK keep f (k + 1) = selK keep f k := by
  unfold selK; rw [List.range_succ, List.filter_append]; simp [h]
theorem selK_len (keep : Nat → Bool) (f : Nat → Int) (k : Nat) : (selK keep f k).length = (pick keep k).length := by simp [selK, pick]
theorem selK_le (keep : Nat → Bool) (f : Nat → Int) (k : Nat) : (selK keep f k).length ≤ k := by rw [selK_len]; exact pick_len _ _
theorem selK_mem {keep : Nat → Bool} {f : Nat → Int} {k j : Nat} (h : j < (selK keep f k).length) : ∃ x, x < k ∧ keep x = true ∧ nth (selK keep f k) j = f x := by
  have hm := nth_mem h
  unfold selK at hm
  obtain ⟨x, hx, e⟩ := List.mem_map.1 hm
  obtain ⟨h1, h2⟩ := List.mem_filter.1 hx
  exact ⟨x, List.mem_range.1 h1, h2, e.symm⟩
def prP (xs : List Int) (d : Int) (k : Nat) : List Int := selK (prKeep xs d) (prPar xs d) k
def prW (xs ys : List Int) (d : Int) (k : Nat) : List Int := selK (prKeep xs d) (prWt xs ys d) k
def prA (xs : List Int) (d : Int) (k : Nat) : List Int := (List.range k).map (prAt xs d)
theorem prA_succ (xs : List Int) (d : Int) (k : Nat) : prA xs d (k + 1) = prA xs d k ++ [prAt xs d k] := by
  unfold prA; rw [List.range_succ, List.map_append]; rfl
theorem prA_len (xs : List Int) (d : Int) (k : Nat) : (prA xs d k).length = k := by simp [prA]
theorem prA_nth (xs : List Int) (d : Int) {k j : Nat} (h : j < k) : nth (prA xs d k) j = prAt xs d j := by simp [prA, nth, List.getD, h]
/-- The program's places, while they are laid. -/
def prT (xs : List Int) (d : Int) (n k : Nat) : List Int := (List.range n).map fun j => if j < k ∧ prKeep xs d j = true then prAt xs d j else 0
theorem prT_len (xs : List Int) (d : Int) (n k : Nat) : (prT xs d n k).length = n := by simp [prT]
theorem prT_nth {xs : List Int} {d : Int} {n k j : Nat} (h : j < n) : nth (prT xs d n k) j = if j < k ∧ prKeep xs d j = true then prAt xs d j else 0 := by
  simp [prT, nth, List.getD, h]
theorem prT_zero (xs : List Int) (d : Int) (n : Nat) : prT xs d n 0 = List.replicate n 0 := by
  refine list_nth (by simp [prT]) fun j hj => ?_
  rw [prT_len] at hj; rw [prT_nth hj, if_neg (by omega), nth_zero]
theorem prT_yes {xs : List Int} {d : Int} {n k : Nat} (h : k < n) (hk : prKeep xs d k = true) : (prT xs d n k).set k (prAt xs d k) = prT xs d n (k + 1) := by
  refine list_nth (by simp [prT_len]) fun j hj => ?_
  simp only [List.length_set, prT_len] at hj
  rw [nth_set _ _ _ _ (by rw [prT_len]; exact h), prT_nth hj, prT_nth hj]
  by_cases e : j = k
  · subst e; rw [if_pos rfl, if_pos ⟨by omega, hk⟩]
  · rw [if_neg e]
    by_cases e2 : j < k
    · by_cases e3 : prKeep xs d j = true
      · rw [if_pos ⟨e2, e3⟩, if_pos ⟨by omega, e3⟩]
      · rw [if_neg (fun h => e3 h.2), if_neg (fun h => e3 h.2)]
    · rw [if_neg (fun h => e2 h.1), if_neg (fun h => by omega)]
theorem prT_no {xs : List Int} {d : Int} {n k : Nat} (hk : prKeep xs d k = false) : prT xs d n (k + 1) = prT xs d n k := by
  refine list_nth (by simp [prT_len]) fun j hj => ?_
  rw [prT_len] at hj
  rw [prT_nth hj, prT_nth hj]
  by_cases e3 : prKeep xs d j = true
  · have : j ≠ k := fun e => by rw [e, hk] at e3; cases e3
    by_cases e2 : j < k
    · rw [if_pos ⟨by omega, e3⟩, if_pos ⟨e2, e3⟩]
    · rw [if_neg (fun h => by omega), if_neg (fun h => e2 h.1)]
  · rw [if_neg (fun h => e3 h.2), if_neg (fun h => e3 h.2)]
theorem pr_root {xs : List Int} {d : Int} (h : 1 ≤ xs.length) (hd : 0 ≤ d) : prKeep xs d 0 = true := by
  unfold prKeep; rw [dpt_root h]; exact decide_eq_true hd
theorem pr_par {xs : List Int} {d : Int} {x p : Nat} (h1 : 1 ≤ x) (hx : x < xs.length) (hp : nth xs x = p) (hpx : p < x) (hk : prKeep xs d x = true) : prKeep xs d p = true ∧ prPar xs d x = prAt xs d p := by
  have h2 := dpt_step h1 hx hp hpx
  unfold prKeep at *
  have h3 := of_decide_eq_true hk
  refine ⟨decide_eq_true (by omega), ?_⟩
  unfold prPar; rw [if_neg (by omega), hp, Int.toNat_natCast]
theorem pr_wt {xs ys : List Int} (hg : good xs ys = true) (d : Int) {x : Nat} (hx : x < xs.length) :
    ((dpt xs x = d ∨ noKid xs xs.length x = true) → prWt xs ys d x = nth (sumsL xs ys) x) ∧ (¬ dpt xs x = d → noKid xs xs.length x = false → prWt xs ys d x = 0) := by
  have hw := good_wt hg x
  have he := wt_end hg hx
  refine ⟨fun h => ?_, fun h1 h2 => ?_⟩
  · unfold prWt
    by_cases e : dpt xs x = d
    · rw [if_pos e]
    · rw [if_neg e]
      have hn := h.resolve_left e
      have := sums_node hg x
      rw [List.eq_nil_of_length_eq_zero ((kids_nil hg hx).2 hn)] at this
      rw [this]; simp [lsum]
  · unfold prWt; rw [if_neg h1]
    rw [h2] at he
    have := of_decide_eq_false he
    omega
theorem prWt_bd {xs ys : List Int} (hg : good xs ys = true) (d : Int) (x : Nat) : 0 ≤ prWt xs ys d x ∧ prWt xs ys d x ≤ 480 := by
  have h1 := good_wt hg x
  have h2 := sums_bd hg x
  unfold prWt; split
  · omega
  · omega
theorem prAt_bd (xs : List Int) (d : Int) (x : Nat) : 0 ≤ prAt xs d x ∧ prAt xs d x ≤ x := by
  have := pick_len (prKeep xs d) x
  unfold prAt; omega
theorem prP_bd {xs ys : List Int} (hg : good xs ys = true) (d : Int) : Bd (prP xs d xs.length) := by
  intro j
  by_cases h : j < (prP xs d xs.length).length
  · obtain ⟨x, hx, _, e⟩ := selK_mem h
    change nth (prP xs d xs.length) j = prPar xs d x at e
    rw [e]; unfold prPar; split
    · exact ⟨by decide, by decide⟩
    · have h1 := prAt_bd xs d (nth xs x).toNat
      obtain ⟨p, hp, hpx⟩ := good_upL hg x (by omega) hx
      rw [hp, Int.toNat_natCast] at h1 ⊢
      have := (good_len hg).2.1
      omega
  · have : nth (prP xs d xs.length) j = 0 := by unfold nth; rw [List.getD_eq_getElem?_getD, List.getElem?_eq_none (by omega)]; rfl
    rw [this]; exact ⟨by decide, by decide⟩
theorem prW_bd {xs ys : List Int} (hg : good xs ys = true) (d : Int) : Bd (prW xs ys d xs.length) := by
  intro j
  by_cases h : j < (prW xs ys d xs.length).length
  · obtain ⟨x, hx, _, e⟩ := selK_mem h
    change nth (prW xs ys d xs.length) j = prWt xs ys d x at e
    have := prWt_bd hg d x
    rw [e]; omega
  · have : nth (prW xs ys d xs.length) j = 0 := by unfold nth; rw [List.getD_eq_getElem?_getD, List.getElem?_eq_none (by omega)]; rfl
    rw [this]; exact ⟨by decide, by decide⟩
noncomputable def prIn (xs ys : List Int) (d : Int) : Bool := good xs ys && decide (0 ≤ d)
noncomputable def prOk (xs ys : List Int) (d : Int) : Bool := prIn xs ys d && good (prP xs d xs.length) (prW xs ys d xs.length)
noncomputable def prRP (xs ys : List Int) (d : Int) : List Int := prPick (prOk xs ys d) (prP xs d xs.length)
noncomputable def prRW (xs ys : List Int) (d : Int) : List Int := prPick (prOk xs ys d) (prW xs ys d xs.length)
theorem prOk_no {xs ys : List Int} {d : Int} (h : prIn xs ys d = false) : prOk xs ys d = false := by unfold prOk; rw [h]; rfl
theorem prOk_yes {xs ys : List Int} {d : Int} (h : prIn xs ys d = true) : prOk xs ys d = good (prP xs d xs.length) (prW xs ys d xs.length) := by unfold prOk; rw [h]; rfl
theorem prRP_no {xs ys : List Int} {d : Int} (h : prIn xs ys d = false) : prRP xs ys d = [] := by unfold prRP; rw [prOk_no h]; rfl
theorem prRW_no {xs ys : List Int} {d : Int} (h : prIn xs ys d = false) : prRW xs ys d = [] := by unfold prRW; rw [prOk_no h]; rfl
theorem prRP_yes {xs ys : List Int} {d : Int} (h : prIn xs ys d = true) : prRP xs ys d = prPick (good (prP xs d xs.length) (prW xs ys d xs.length)) (prP xs d xs.length) := by unfold prRP; rw [prOk_yes h]
theorem prRW_yes {xs ys : List Int} {d : Int} (h : prIn xs ys d = true) : prRW xs ys d = prPick (good (prP xs d xs.length) (prW xs ys d xs.length)) (prW xs ys d xs.length) := by unfold prRW; rw [prOk_yes h]
theorem prRP_len (xs ys : List Int) (d : Int) (hn : xs.length ≤ 1048576) : (prRP xs ys d).length ≤ 1048576 := by
  unfold prRP
  cases prOk xs ys d with
  | false => simp [prPick]
  | true => show (prP _ _ _).length ≤ _; have := selK_le (prKeep xs d) (prPar xs d) xs.length; unfold prP; omega
theorem prRW_len (xs ys : List Int) (d : Int) (hn : xs.length ≤ 1048576) : (prRW xs ys d).length ≤ 1048576 := by
  unfold prRW
  cases prOk xs ys d with
  | false => simp [prPick]
  | true => show (prW _ _ _ _).length ≤ _; have := selK_le (prKeep xs d) (prWt xs ys d) xs.length; unfold prW; omega
end Go.Proofs.YtgccidkkfalaeaaGreatDoor
