/- What FnSplitJoin walks over: the program's SplitString with its place's room, then JoinStrings; LessString. -/
import Derived.Test.YtfpokpgkkjibfaaDoorDrawJ
import Derived.Test.YtfpokpgkkjibfaaDoorSplP
import Derived.Test.YtfpokpgkkjibfaaDoorSpl
namespace Go.Proofs.YtfpokpgkkjibfaaDoor
open Go.ChangeShapes Go.WideShapes Go.ChangeAt Go.RowKit
open Go.ChangeMaps (open_string shut_string)

theorem less_anti : ∀ a b : List UInt8, Op.bytesLess a b = true → Op.bytesLess b a = false := by
  intro a
  induction a with
  | nil => intro b h; cases b <;> simp_all [Op.bytesLess]
  | cons x a ih =>
    intro b h
    cases b with
    | nil => simp [Op.bytesLess] at h
    | cons y b =>
      simp only [Op.bytesLess] at h ⊢
      rw [Bool.or_eq_true, Bool.and_eq_true, decide_eq_true_eq, beq_iff_eq] at h
      rcases h with h | ⟨h1, h2⟩
      · have h2 : ¬ y < x := by rw [UInt8.lt_iff_toNat_lt] at h ⊢; omega
        have h3 : y ≠ x := fun e => by rw [e, UInt8.lt_iff_toNat_lt] at h; omega
        simp [h2, h3]
      · subst h1
        have h3 : ¬ x < x := by rw [UInt8.lt_iff_toNat_lt]; omega
        simp [h3, ih b h2]
theorem specLess_J (a b : ByteArray) (w : World) : Calls Tryd.prog 41 #[.string a, .string b] w fun e w' => e = .returned (.bool (Op.bytesLess a.toList b.toList)) ∧ w = w' := by
  go_enter Tryd.func41, Tryd.ntmps41
  go_wp2
  go_ret
  exact ⟨rfl, rfl⟩
theorem implLess_J (a b : ByteArray) (w : World) : Calls Tryd.prog 40 #[.string a, .string b] w fun e w' => e = .returned (.bool (Op.bytesLess a.toList b.toList)) ∧ w = w' := by
  go_enter Tryd.func40, Tryd.ntmps40
  go_wp2
  go_ret
  exact ⟨rfl, rfl⟩
/-- As RetSB, with the room behind. -/
def RetSC (w : World) (L : List ByteArray) (b : Bool) (e : Ending) (w' : World) : Prop := ∃ A c, e = .returned (.tuple #[.slice A L.length c, .bool b]) ∧ L.length ≤ c ∧ OwnSS w' w.heap.size A L ∧ Below w.heap.size w w'
set_option maxRecDepth 100000 in
theorem implSplit_room (s : ByteArray) (c : UInt8) (w : World) (hs : s.size ≤ 4000) (hM : MaxC w) :
    Calls Tryd.prog 30 #[.string s, .string ⟨#[c]⟩] w (RetSC w (partsB c s) true) := by
  have hS : Hid (∀ w, MaxC w → Calls Tryd.prog 65 #[.string s, .string ⟨#[c]⟩] w fun e w' => ∃ A d, e = .returned (.slice A (partsB c s).length d) ∧ (partsB c s).length ≤ d ∧ OwnSS w' w.heap.size A (partsB c s) ∧ Below w.heap.size w w') := by
    refine Lib.hid fun w ⟨m, hm⟩ => (Tryd.strings_Split s ⟨#[c]⟩ m w (by omega) hm (Nat.le_refl 1)).mono ?_
    rintro e w' ⟨rfl, rfl⟩
    refine ⟨some ⟨w.heap.size, 0, none⟩, (partsB c s).length, by rw [countB_parts], Nat.le_refl _, .inr ⟨w.heap.size, rfl, Nat.le_refl _, _, heap_alloc_new w _, [], ?_⟩, by (repeat (first | with_reducible exact Below.refl _ _ | with_reducible assumption | with_reducible refine Below.alloc' ?_ ?_ _ | with_reducible refine Below.setCell' ?_ ?_ _ | with_reducible refine Below.drewN' ?_ _ | with_reducible refine Below.drew ?_ | with_reducible refine Below.transA ?_ (by assumption) ?_ | omega | (focus (simp; done)) | (focus (simp; omega))))⟩
    rw [splitB_parts]
    simp [strs]
  generalize partsB c s = L at *
  go_enter Tryd.func30, Tryd.ntmps30
  go_wp2_with fail
  refine (hS.out _ hM).mono ?_
  rintro e w1 ⟨A, c1, rfl, hc1, hO, hb1⟩
  go_wp2
  go_ret2
  exact ⟨A, c1, rfl, hc1, hO, hb1⟩
theorem split_room (s p : ByteArray) (hs : s.size ≤ 16) (hp : p.size ≤ 2) : ∃ L b, L.length ≤ 5000 ∧ (∀ w, MaxC w → Calls Tryd.prog 30 #[.string s, .string p] w (RetSC w L b)) ∧
    ((p.size = 1 ∧ b = true ∧ ∀ A cp W, L.length ≤ cp → StrS W A L → Calls Tryd.prog 37 #[.slice A L.length cp, .string p] W fun e w' => e = .returned (.tuple #[.string s, .bool true]) ∧ Below W.heap.size W w') ∨ (p.size ≠ 1 ∧ b = false ∧ L.length = 0)) := by
  by_cases h1 : p.size = 1
  · obtain ⟨c, rfl⟩ := Lib.one_byte p h1
    have hl : (partsB c s).length ≤ 5000 := by
      rw [countB_parts]
      have := Lib.countB_le (⟨#[c]⟩ : ByteArray) (Nat.le_refl 1) s.size s (Nat.le_refl _)
      omega
    have hne : partsB c s ≠ [] := fun e => by have := congrArg List.length e; rw [countB_parts] at this; simp at this
    refine ⟨partsB c s, true, hl, fun w hM => implSplit_room s c w (by omega) hM, .inl ⟨h1, rfl, fun A cp W hcp hS => ?_⟩⟩
    have h := implJoin_yes A cp (partsB c s) c W hS hne (by omega) hcp (fun b hb => by have := parts_small c s b hb; omega)
    have hv : jnV c (partsB c s) = .tuple #[.string s, .bool true] := by
      unfold jnV; rw [if_pos (jnOk_parts (by omega)), jnB_parts]
    rw [hv] at h; exact h
  · refine ⟨[], false, by simp, fun w _ => (implSplit_no s p w (by omega) (by omega) (fun h => h1 h.1)).mono ?_, .inr ⟨h1, rfl, rfl⟩⟩
    rintro e w' ⟨A, c, rfl, hO, hb⟩
    exact ⟨A, c, rfl, Nat.zero_le _, hO, hb⟩
end Go.Proofs.YtfpokpgkkjibfaaDoor
