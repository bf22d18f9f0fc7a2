/- JoinStrings: what the reference's and the program's return. -/
import Derived.Lib.JoinLaws
import Derived.Test.YtgccidkkfalaeaaGreatDoorMgTr30
import Derived.Test.YtgccidkkfalaeaaGreatDoorMgTr19
namespace Go.Proofs.YtgccidkkfalaeaaGreatDoor
open Go.ChangeShapes Go.WideShapes Go.ChangeAt Go.RowKit
open Go.ChangeMaps (open_string shut_string)

/-- Each text with the sign ahead of it. -/
def jnF (c : UInt8) (L : List ByteArray) : List UInt8 := (L.map fun b => c :: b.data.toList).flatten
theorem jnF_snoc (c : UInt8) (L : List ByteArray) (b : ByteArray) : jnF c (L ++ [b]) = jnF c L ++ c :: b.data.toList := by simp [jnF]
theorem jnF_app (c : UInt8) (L M : List ByteArray) : jnF c (L ++ M) = jnF c L ++ jnF c M := by simp [jnF]
theorem jnF_pos (c : UInt8) {L : List ByteArray} (h : L ≠ []) : 1 ≤ (jnF c L).length := by
  cases L with
  | nil => exact absurd rfl h
  | cons a L => simp [jnF]
theorem jnF_take_le (c : UInt8) (L : List ByteArray) (k : Nat) : (jnF c (L.take k)).length ≤ (jnF c L).length := by
  have h : jnF c L = jnF c (L.take k) ++ jnF c (L.drop k) := by rw [← jnF_app, List.take_append_drop]
  rw [h, List.length_append]; omega
theorem join_jnF (c : UInt8) {L : List ByteArray} (h : L ≠ []) : Lib.join (L.map (·.data.toList)) [c] = (jnF c L).drop 1 := by
  cases L with
  | nil => exact absurd rfl h
  | cons a L =>
    rw [List.map_cons, Lib.join_cons]
    simp [Lib.joinTail, jnF, List.map_map, Function.comp_def]
def jnB (c : UInt8) (L : List ByteArray) : ByteArray := mkB ((jnF c L).drop 1)
/-- The texts can be joined. -/
def jnOk (c : UInt8) (L : List ByteArray) : Prop := (∀ b ∈ L, c ∉ b.data.toList) ∧ (jnF c L).length ≤ 4001
instance (c : UInt8) (L : List ByteArray) : Decidable (jnOk c L) := by unfold jnOk; infer_instance
theorem jnOk.take {c : UInt8} {L : List ByteArray} (h : jnOk c L) (k : Nat) : jnOk c (L.take k) :=
  ⟨fun b hb => h.1 b (List.mem_of_mem_take hb), Nat.le_trans (jnF_take_le c L k) h.2⟩
theorem take_next {L : List ByteArray} {k : Nat} {b : ByteArray} (h : L[k]? = some b) : L.take (k + 1) = L.take k ++ [b] := by
  rw [List.take_add_one, h]; rfl
theorem jnOk_next {c : UInt8} {L : List ByteArray} {k : Nat} {b : ByteArray} (h : jnOk c (L.take k)) (hb : L[k]? = some b) (h1 : c ∉ b.data.toList) (h2 : (jnF c (L.take k)).length + 1 + b.size ≤ 4001) : jnOk c (L.take (k + 1)) := by
  rw [take_next hb]
  refine ⟨fun x hx => ?_, by rw [jnF_snoc, List.length_append, List.length_cons, ← Lib.size_eq]; omega⟩
  rcases List.mem_append.1 hx with h' | h'
  · exact h.1 x h'
  · rw [List.mem_singleton.1 h']; exact h1
theorem jnF_next {c : UInt8} {L : List ByteArray} {k : Nat} {b : ByteArray} (hb : L[k]? = some b) : (jnF c (L.take (k + 1))).length = (jnF c (L.take k)).length + 1 + b.size := by
  rw [take_next hb, jnF_snoc, List.length_append, List.length_cons, ← Lib.size_eq]; omega
theorem jnOk_not_mem {c : UInt8} {L : List ByteArray} {k : Nat} {b : ByteArray} (hb : L[k]? = some b) (h1 : c ∈ b.data.toList) : ¬ jnOk c L := fun h => h.1 b (List.mem_of_getElem? hb) h1
theorem jnOk_not_len {c : UInt8} {L : List ByteArray} {k : Nat} {b : ByteArray} (hb : L[k]? = some b) (h2 : ¬ (jnF c (L.take k)).length + 1 + b.size ≤ 4001) : ¬ jnOk c L := fun h => h2 (by rw [← jnF_next hb]; exact (h.take (k + 1)).2)
theorem jn_first {c : UInt8} {L : List ByteArray} {b : ByteArray} (hb : L[0]? = some b) : jnB c (L.take 1) = b := by
  unfold jnB
  rw [take_next (k := 0) hb, jnF_snoc]
  simp [jnF, mkB_data]
theorem jn_next {c : UInt8} {L : List ByteArray} {k : Nat} {b : ByteArray} (hk : 1 ≤ k) (hb : L[k]? = some b) : jnB c (L.take (k + 1)) = jnB c (L.take k) ++ ⟨#[c]⟩ ++ b := by
  have hne : L.take k ≠ [] := by
    have hl : k < L.length := (List.getElem?_eq_some_iff.1 hb).1
    intro e
    have := congrArg List.length e
    rw [List.length_take, List.length_nil] at this
    omega
  have hp := jnF_pos c hne
  refine ba_ext ?_
  unfold jnB
  rw [take_next hb, jnF_snoc, List.drop_append_of_le_length hp]
  simp [mkB_list]
theorem jnB_size {c : UInt8} {L : List ByteArray} : (jnB c L).size = (jnF c L).length - 1 := by unfold jnB; rw [mkB_size, List.length_drop]
def jnV (c : UInt8) (L : List ByteArray) : Value := if jnOk c L then .tuple #[.string (jnB c L), .bool true] else .tuple #[.string ⟨#[]⟩, .bool false]
theorem StrS.one {w : World} {A : Option Addr} {L : List ByteArray} (h : StrS w A L) (hn : L ≠ []) : ∃ g o, A = some ⟨g, o, none⟩ ∧ ∀ j b, L[j]? = some b → w.cell? ⟨g, o + j, none⟩ = some (.string b) := by
  cases L with
  | nil => exact absurd rfl hn
  | cons a L =>
    obtain ⟨g, o, rfl, _⟩ := h 0 a rfl
    refine ⟨g, o, rfl, fun j b hj => ?_⟩
    obtain ⟨g', o', e, hc⟩ := h j b hj
    cases e; exact hc

theorem jnF_ge (c : UInt8) (L : List ByteArray) : L.length ≤ (jnF c L).length := by
  induction L with
  | nil => simp [jnF]
  | cons a L ih =>
    have e : jnF c (a :: L) = (c :: a.data.toList) ++ jnF c L := by simp [jnF]
    rw [e, List.length_append, List.length_cons, List.length_cons]; omega
theorem jnF_rest (c : UInt8) (L : List ByteArray) (k : Nat) : (jnF c (L.take k)).length + (L.length - k) ≤ (jnF c L).length := by
  have h : jnF c L = jnF c (L.take k) ++ jnF c (L.drop k) := by rw [← jnF_app, List.take_append_drop]
  have := jnF_ge c (L.drop k)
  rw [h, List.length_append]; rw [List.length_drop] at this; omega
theorem join_lib {c : UInt8} {L : List ByteArray} (h : L ≠ []) : (⟨(Lib.join (L.map (·.data.toList)) (⟨#[c]⟩ : ByteArray).data.toList).toArray⟩ : ByteArray) = jnB c L := by
  have e : Lib.join (L.map (·.data.toList)) (⟨#[c]⟩ : ByteArray).data.toList = (jnF c L).drop 1 := join_jnF c h
  rw [e]; rfl

end Go.Proofs.YtgccidkkfalaeaaGreatDoor
/- Plain laws: the parts of a text between bytes, put together, are the text. -/
namespace Go.Proofs.YtgccidkkfalaeaaGreatDoor

theorem parts_join (c : UInt8) (l : List UInt8) : ((parts c l).map fun p => c :: p).flatten = c :: l := by
  induction l with
  | nil => rfl
  | cons x l ih =>
    by_cases h : x = c
    · subst h; rw [parts_hit, List.map_cons, List.flatten_cons, ih]; rfl
    · rw [parts_miss h]
      cases hp : parts c l with
      | nil => exact absurd hp (parts_ne c l)
      | cons q r =>
        rw [hp, List.map_cons, List.flatten_cons, List.cons_append] at ih
        injection ih with _ ih
        simp only [glue, List.map_cons, List.flatten_cons, List.cons_append, List.nil_append]
        rw [ih]
theorem parts_no (c : UInt8) (l : List UInt8) : ∀ p ∈ parts c l, c ∉ p := by
  induction l with
  | nil => intro p hp; simp [parts] at hp; subst hp; simp
  | cons x l ih =>
    by_cases h : x = c
    · subst h; rw [parts_hit]; intro p hp
      rcases List.mem_cons.1 hp with rfl | hp
      · simp
      · exact ih p hp
    · rw [parts_miss h]
      cases hq : parts c l with
      | nil => exact absurd hq (parts_ne c l)
      | cons q r =>
        rw [hq] at ih
        intro p hp
        rcases List.mem_cons.1 hp with rfl | hp
        · intro hc
          rcases List.mem_cons.1 hc with hc | hc
          · exact h hc.symm
          · exact ih q (by simp) hc
        · exact ih p (by simp [hp])
theorem jnF_parts (c : UInt8) (s : ByteArray) : jnF c (partsB c s) = c :: s.data.toList := by
  unfold jnF partsB
  rw [List.map_map, ← parts_join c s.data.toList]
  rfl
theorem jnB_parts (c : UInt8) (s : ByteArray) : jnB c (partsB c s) = s := by
  unfold jnB
  rw [jnF_parts]
  exact ba_ext (by rw [mkB_list]; rfl)
theorem jnOk_parts {c : UInt8} {s : ByteArray} (h : s.size ≤ 4000) : jnOk c (partsB c s) := by
  refine ⟨?_, ?_⟩
  · intro b hb
    unfold partsB at hb
    obtain ⟨p, hp, rfl⟩ := List.mem_map.1 hb
    exact parts_no c _ p hp
  · rw [jnF_parts, List.length_cons, ← Lib.size_eq]; omega
theorem parts_small (c : UInt8) (s : ByteArray) : ∀ b ∈ partsB c s, b.size ≤ s.size := by
  intro b hb
  unfold partsB at hb
  obtain ⟨p, hp, rfl⟩ := List.mem_map.1 hb
  have h := parts_join c s.data.toList
  have h2 : (c :: p).length ≤ (((parts c s.data.toList).map fun p => c :: p).flatten).length := by
    have : (c :: p) ∈ (parts c s.data.toList).map fun p => c :: p := List.mem_map.2 ⟨p, hp, rfl⟩
    exact (List.sublist_flatten_of_mem this).length_le
  rw [h] at h2
  simp at h2
  rw [Lib.size_eq, Lib.size_eq]
  simp; omega
end Go.Proofs.YtgccidkkfalaeaaGreatDoor
