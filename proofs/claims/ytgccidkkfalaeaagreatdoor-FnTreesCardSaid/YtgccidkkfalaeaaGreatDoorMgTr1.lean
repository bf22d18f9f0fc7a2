/- A region that draws its order and stores at its end into cells that it loads at its start: the held condition is asked behind the operations of J alone; all others wait for the loads. -/
import Derived.Deep.RegionHeld3
import Derived.Test.YtgccidkkfalaeaaGreatDoorChecked
namespace Go.Proofs.YtgccidkkfalaeaaGreatDoor
open Go

section
variable {P : Program} {ops : Array Oper} {Q : Exit → Act → World → Prop} {md : Region.Mode} {S : World → Prop} {J : Nat → Bool}

def wpAnyJ (P : Program) (md : Region.Mode) (ops : Array Oper) (Q : Exit → Act → World → Prop) (S : World → Prop) (J : Nat → Bool) : Nat → Array Bool → Act → World → Prop
  | 0, listed, a, w => Region.ready md ops listed = [] ∧ Q .normal a w
  | n + 1, listed, a, w => (Region.ready md ops listed = [] → Q .normal a w) ∧
      ∀ i ∈ Region.ready md ops listed, wpOp P ops Q i (fun a' w' => (J i = true → S w') ∧ wpAnyJ P md ops Q S J n (listed.setIfInBounds i true) a' w') a w
theorem wpAny_of_J : ∀ (n : Nat) (listed : Array Bool) (a : Act) (w : World), wpAnyJ P md ops Q S J n listed a w → wpAny P md ops Q n listed a w
  | 0, _, _, _, h => h
  | n + 1, _, _, _, h => ⟨h.1, fun i hi => wpOp_mono (fun a' w' k => wpAny_of_J n _ a' w' k.2) (h.2 i hi)⟩
/-- What is ready beside i does not wait for i. -/
theorem ready_waits_not {listed : Array Bool} {i j : Nat} {oj : Oper} (hi : i ∈ Region.ready md ops listed) (hj : j ∈ Region.ready md ops listed) (ho : ops[j]? = some oj) : ∀ e ∈ oj.after, Region.binds md e = true → e.on ≠ i := by
  intro e he hb heq
  obtain ⟨_, oj', ho', hall⟩ := mem_ready.1 hj
  rw [ho] at ho'
  cases ho'
  have h1 := hall e he hb
  have h0 := (mem_ready.1 hi).1
  rw [heq] at h1
  rcases Nat.lt_or_ge i listed.size with h' | h'
  · simp [h'] at h0 h1
    rw [h0] at h1
    cases h1
  · simp [Array.getElem?_eq_none h'] at h1
/-- All that is not of J and has not come up waits for i. -/
def AllWait (md : Region.Mode) (ops : Array Oper) (J : Nat → Bool) (listed : Array Bool) (i : Nat) : Prop := ∀ j oj, ops[j]? = some oj → listed.getD j true = false → J j = false → ∃ e ∈ oj.after, Region.binds md e = true ∧ e.on = i
def allWaitB (md : Region.Mode) (ops : Array Oper) (J : Nat → Bool) (listed : Array Bool) (i : Nat) : Bool := (List.range ops.size).all fun j => (J j || listed.getD j true) || match ops[j]? with | some o => o.after.any fun e => Region.binds md e && e.on == i | none => true
theorem allWait_of {i : Nat} {listed : Array Bool} (h : allWaitB md ops J listed i = true) : AllWait md ops J listed i := by
  intro j oj ho hl hj
  obtain ⟨hlt, _⟩ := Array.getElem?_eq_some_iff.1 ho
  have h1 := List.all_eq_true.1 h j (List.mem_range.2 hlt)
  rw [hj, hl, Bool.false_or, Bool.false_or, ho] at h1
  obtain ⟨k, hk, he⟩ := Array.any_eq_true.1 h1
  rw [Bool.and_eq_true, beq_iff_eq] at he
  exact ⟨_, Array.getElem_mem hk, he.1, he.2⟩
theorem wpAnyJ_first {i : Nat} {oi : Oper} {v : Value} (hi : ops[i]? = some oi) (hsel : ∀ (j : Nat) (o : Oper) cs b, ops[j]? = some o → o.op ≠ .select cs b)
    (hQ : ∀ c a w, Q (.panic c) (a.put oi.dst v) w → Q (.panic c) a w) :
    ∀ (n : Nat) (listed : Array Bool) (a : Act) (w : World), AllWait md ops J listed i →
      (∀ j oj, ops[j]? = some oj → j ≠ i → listed.getD j true = false → (∀ e ∈ oj.after, Region.binds md e = true → e.on ≠ i) → oi.apart ops oj = true) →
      i ∈ Region.ready md ops listed → YieldsIf P ops S oi v a → S w →
      wpAnyJ P md ops Q S J n (listed.setIfInBounds i true) (a.put oi.dst v) w → wpAnyJ P md ops Q S J (n + 1) listed a w := by
  intro n
  induction n with
  | zero =>
    intro listed a w _ _ hr hy hS H
    refine ⟨fun e => (by rw [e] at hr; cases hr), fun j hj => ?_⟩
    by_cases hji : j = i
    · subst hji; exact hy.wpOp hi hS ⟨fun _ => hS, H⟩
    · have hm := ready_mono hj hji
      rw [H.1] at hm
      cases hm
  | succ n ih =>
    intro listed a w hW hfree hr hy hS H
    refine ⟨fun e => (by rw [e] at hr; cases hr), fun j hj => ?_⟩
    by_cases hji : j = i
    · subst hji; exact hy.wpOp hi hS ⟨fun _ => hS, H⟩
    · obtain ⟨hjun, oj, hoj, _⟩ := mem_ready.1 hj
      have hnot := ready_waits_not hr hj hoj
      have hJj : J j = true := by
        cases e : J j with
        | true => rfl
        | false =>
          obtain ⟨x, hx, hb, hon⟩ := hW j oj hoj hjun e
          exact absurd hon (hnot x hx hb)
      have step := wpOp_putIf hoj (hfree j oj hoj hji hjun hnot) (fun cs b => hsel i oi cs b hi) (fun cs b => hsel j oj cs b hoj) hQ hy (H.2 j (ready_mono hj hji))
      have hfree2 : ∀ k ok, ops[k]? = some ok → k ≠ i → (listed.setIfInBounds j true).getD k true = false →
          (∀ e ∈ ok.after, Region.binds md e = true → e.on ≠ i) → oi.apart ops ok = true := by
        intro k ok hk hki hun hno
        by_cases hjk : j = k
        · subst hjk; exact hfree j ok hk hki hjun hno
        · exact hfree k ok hk hki (by rwa [getD_set_ne true hjk] at hun) hno
      have hW2 : AllWait md ops J (listed.setIfInBounds j true) i := by
        intro k ok hk hun hJk
        by_cases hjk : j = k
        · subst hjk; rw [hJj] at hJk; cases hJk
        · exact hW k ok hk (by rwa [getD_set_ne true hjk] at hun) hJk
      refine wpOp_mono (fun a' w' k => ?_) step
      have hS2 := k.2.1 hJj
      refine ⟨fun _ => hS2, ih (listed.setIfInBounds j true) a' w' hW2 hfree2 (ready_mono hr (Ne.symm hji)) k.1 hS2 ?_⟩
      have k2 := k.2.2
      rwa [Array.setIfInBounds_comm _ _ hji]
theorem wpAnyJ_take {i : Nat} {oi : Oper} {v : Value} {n : Nat} {listed : Array Bool} {a : Act} {w : World} (hi : ops[i]? = some oi)
    (hs : Region.noSelect ops = true) (hf : Region.free md ops listed i = true) (hr : (Region.ready md ops listed).contains i = true) (hW : allWaitB md ops J listed i = true)
    (hQ : ∀ c a w, Q (.panic c) (a.put oi.dst v) w → Q (.panic c) a w) (hy : YieldsIf P ops S oi v a) (hS : S w)
    (h : wpAnyJ P md ops Q S J n (listed.setIfInBounds i true) (a.put oi.dst v) w) : wpAnyJ P md ops Q S J (n + 1) listed a w :=
  wpAnyJ_first hi (Region.noSelect_spec hs) hQ n listed a w (allWait_of hW) (Region.free_spec hi hf) (by simpa using hr) hy hS h
/-- What yields its value in whatever world, and is not of J, may be taken first wherever it is ready. -/
theorem wpAnyJ_first1 {i : Nat} {oi : Oper} {v : Value} (hi : ops[i]? = some oi) (hsel : ∀ (j : Nat) (o : Oper) cs b, ops[j]? = some o → o.op ≠ .select cs b)
    (hQ : ∀ c a w, Q (.panic c) (a.put oi.dst v) w → Q (.panic c) a w) (hJ : J i = false) :
    ∀ (n : Nat) (listed : Array Bool) (a : Act) (w : World),
      (∀ j oj, ops[j]? = some oj → j ≠ i → listed.getD j true = false → (∀ e ∈ oj.after, Region.binds md e = true → e.on ≠ i) → oi.apart ops oj = true) →
      i ∈ Region.ready md ops listed → YieldsIf P ops (fun _ => True) oi v a →
      wpAnyJ P md ops Q S J n (listed.setIfInBounds i true) (a.put oi.dst v) w → wpAnyJ P md ops Q S J (n + 1) listed a w := by
  intro n
  induction n with
  | zero =>
    intro listed a w _ hr hy H
    refine ⟨fun e => (by rw [e] at hr; cases hr), fun j hj => ?_⟩
    by_cases hji : j = i
    · subst hji; exact hy.wpOp hi trivial ⟨fun e => (by rw [hJ] at e; cases e), H⟩
    · have hm := ready_mono hj hji
      rw [H.1] at hm
      cases hm
  | succ n ih =>
    intro listed a w hfree hr hy H
    refine ⟨fun e => (by rw [e] at hr; cases hr), fun j hj => ?_⟩
    by_cases hji : j = i
    · subst hji; exact hy.wpOp hi trivial ⟨fun e => (by rw [hJ] at e; cases e), H⟩
    · obtain ⟨hjun, oj, hoj, _⟩ := mem_ready.1 hj
      have hnot := ready_waits_not hr hj hoj
      have step := wpOp_putIf hoj (hfree j oj hoj hji hjun hnot) (fun cs b => hsel i oi cs b hi) (fun cs b => hsel j oj cs b hoj) hQ hy (H.2 j (ready_mono hj hji))
      have hfree2 : ∀ k ok, ops[k]? = some ok → k ≠ i → (listed.setIfInBounds j true).getD k true = false →
          (∀ e ∈ ok.after, Region.binds md e = true → e.on ≠ i) → oi.apart ops ok = true := by
        intro k ok hk hki hun hno
        by_cases hjk : j = k
        · subst hjk; exact hfree j ok hk hki hjun hno
        · exact hfree k ok hk hki (by rwa [getD_set_ne true hjk] at hun) hno
      refine wpOp_mono (fun a' w' k => ?_) step
      refine ⟨k.2.1, ih (listed.setIfInBounds j true) a' w' hfree2 (ready_mono hr (Ne.symm hji)) k.1 ?_⟩
      have k2 := k.2.2
      rwa [Array.setIfInBounds_comm _ _ hji]
theorem wpAnyJ_pure {i : Nat} {oi : Oper} {v : Value} {n : Nat} {listed : Array Bool} {a : Act} {w : World} (hi : ops[i]? = some oi)
    (hs : Region.noSelect ops = true) (hf : Region.free md ops listed i = true) (hr : (Region.ready md ops listed).contains i = true) (hJ : J i = false)
    (hQ : ∀ c a w, Q (.panic c) (a.put oi.dst v) w → Q (.panic c) a w) (hy : YieldsIf P ops (fun _ => True) oi v a)
    (h : wpAnyJ P md ops Q S J n (listed.setIfInBounds i true) (a.put oi.dst v) w) : wpAnyJ P md ops Q S J (n + 1) listed a w :=
  wpAnyJ_first1 hi (Region.noSelect_spec hs) hQ hJ n listed a w (Region.free_spec hi hf) (by simpa using hr) hy h
def AllReadyJ (P : Program) (md : Region.Mode) (ops : Array Oper) (Q : Exit → Act → World → Prop) (S : World → Prop) (J : Nat → Bool) (n : Nat) (listed : Array Bool) (a : Act) (w : World) (rs : List Nat) : Prop :=
  ∀ i ∈ rs, wpOp P ops Q i (fun a' w' => (J i = true → S w') ∧ wpAnyJ P md ops Q S J n (listed.setIfInBounds i true) a' w') a w
theorem AllReadyJ.nil {n : Nat} {listed : Array Bool} {a : Act} {w : World} : AllReadyJ P md ops Q S J n listed a w [] := fun _ h => by cases h
/-- An operation of J: S is shown behind it. -/
theorem AllReadyJ.cons {n : Nat} {listed : Array Bool} {a : Act} {w : World} {i : Nat} {o : Oper} {rs : List Nat} (ho : ops[i]? = some o)
    (h : ∀ K' : Act → World → Prop, Shut (∀ a w, S w → (S w → wpAnyJ P md ops Q S J n (listed.setIfInBounds i true) a w) → K' a w) → if Region.wanted o (yielded ops a.tmps) = true then Oper.wp P o a w K' Q else K' (a.put o.dst undef) w)
    (hs : AllReadyJ P md ops Q S J n listed a w rs) : AllReadyJ P md ops Q S J n listed a w (i :: rs) := fun j hj => by
  rcases List.mem_cons.1 hj with rfl | hj
  · exact wpOp_step ho (fun K' hK => h K' (fun a w hS hW => hK a w ⟨fun _ => hS, hW hS⟩))
  · exact hs j hj
/-- An operation beside J: nothing is to be shown. -/
theorem AllReadyJ.free {n : Nat} {listed : Array Bool} {a : Act} {w : World} {i : Nat} {o : Oper} {rs : List Nat} (ho : ops[i]? = some o) (hJ : J i = false)
    (h : ∀ K' : Act → World → Prop, Shut (∀ a w, True → (True → wpAnyJ P md ops Q S J n (listed.setIfInBounds i true) a w) → K' a w) → if Region.wanted o (yielded ops a.tmps) = true then Oper.wp P o a w K' Q else K' (a.put o.dst undef) w)
    (hs : AllReadyJ P md ops Q S J n listed a w rs) : AllReadyJ P md ops Q S J n listed a w (i :: rs) := fun j hj => by
  rcases List.mem_cons.1 hj with rfl | hj
  · exact wpOp_step ho (fun K' hK => h K' (fun a w _ hW => hK a w ⟨fun e => (by rw [hJ] at e; cases e), hW trivial⟩))
  · exact hs j hj
theorem wpAnyJ_ready {rs : List Nat} {n : Nat} {listed : Array Bool} {a : Act} {w : World} (hr : Region.ready md ops listed = rs) (hne : rs ≠ [])
    (h : AllReadyJ P md ops Q S J n listed a w rs) : wpAnyJ P md ops Q S J (n + 1) listed a w :=
  ⟨fun e => absurd (hr ▸ e) hne, by rw [hr]; exact h⟩
theorem wpAnyJ_done {listed : Array Bool} {a : Act} {w : World} (hr : Region.ready md ops listed = []) (h : Q .normal a w) :
    ∀ n, wpAnyJ P md ops Q S J n listed a w
  | 0 => ⟨hr, h⟩
  | _ + 1 => ⟨fun _ => h, fun i hi => (by rw [hr] at hi; cases hi)⟩
theorem wpAnyJ_name {n : Nat} {listed : Array Bool} {a : Act} {w : World} (hS : S w)
    (h : ∀ wz, S wz → wz = w → wpAnyJ P md ops Q S J n listed a wz) : wpAnyJ P md ops Q S J n listed a w := h w hS rfl
theorem wpAnyJ_call {n : Nat} {listed : Array Bool} {a : Act} {w : World}
    (h : ∀ wz, wz = w → wpAnyJ P md ops Q S J n listed a wz) : wpAnyJ P md ops Q S J n listed a w := h w rfl
theorem wp_region_J {id : Nat} {a : Act} {w : World} (J : Nat → Bool) (hm : P.follows .mixedOrders = true) (hS : S w.drew)
    (h : S w.drew → wpAnyJ P .any ops Q S J ops.size (Array.replicate ops.size false) a w.drew) : (Code.region id ops true).wp P Q a w :=
  wp_region_any hm (wpAny_of_J _ _ _ _ (h hS))
end
end Go.Proofs.YtgccidkkfalaeaaGreatDoor
