/- Plain laws: the parts of a text between bytes, put together, are the text. -/
import Derived.Test.YtfpokpgkkjibfaaDoorJoin
namespace Go.Proofs.YtfpokpgkkjibfaaDoor

theorem parts_join (c : UInt8) (l : List UInt8) : ((parts c l).map fun p => c :: p).flatten = c :: l := by
  induction l with
  | nil => rfl
  | cons x l ih =>
    by_cases h : x = c
    · subst h; rw [parts_hit, List.map_cons, List.flatten_cons, ih]; rfl
    · rw [parts_miss h]
      cases hp : parts c l with
      | nil => exact absurd hp (parts_ne c l)
      | cons q r =>
        rw [hp, List.map_cons, List.flatten_cons, List.cons_append] at ih
        injection ih with _ ih
        simp only [glue, List.map_cons, List.flatten_cons, List.cons_append, List.nil_append]
        rw [ih]
theorem parts_no (c : UInt8) (l : List UInt8) : ∀ p ∈ parts c l, c ∉ p := by
  induction l with
  | nil => intro p hp; simp [parts] at hp; subst hp; simp
  | cons x l ih =>
    by_cases h : x = c
    · subst h; rw [parts_hit]; intro p hp
      rcases List.mem_cons.1 hp with rfl | hp
      · simp
      · exact ih p hp
    · rw [parts_miss h]
      cases hq : parts c l with
      | nil => exact absurd hq (parts_ne c l)
      | cons q r =>
        rw [hq] at ih
        intro p hp
        rcases List.mem_cons.1 hp with rfl | hp
        · intro hc
          rcases List.mem_cons.1 hc with hc | hc
          · exact h hc.symm
          · exact ih q (by simp) hc
        · exact ih p (by simp [hp])
theorem jnF_parts (c : UInt8) (s : ByteArray) : jnF c (partsB c s) = c :: s.data.toList := by
  unfold jnF partsB
  rw [List.map_map, ← parts_join c s.data.toList]
  rfl
theorem jnB_parts (c : UInt8) (s : ByteArray) : jnB c (partsB c s) = s := by
  unfold jnB
  rw [jnF_parts]
  exact ba_ext (by rw [mkB_list]; rfl)
theorem jnOk_parts {c : UInt8} {s : ByteArray} (h : s.size ≤ 4000) : jnOk c (partsB c s) := by
  refine ⟨?_, ?_⟩
  · intro b hb
    unfold partsB at hb
    obtain ⟨p, hp, rfl⟩ := List.mem_map.1 hb
    exact parts_no c _ p hp
  · rw [jnF_parts, List.length_cons, ← Lib.size_eq]; omega
theorem parts_small (c : UInt8) (s : ByteArray) : ∀ b ∈ partsB c s, b.size ≤ s.size := by
  intro b hb
  unfold partsB at hb
  obtain ⟨p, hp, rfl⟩ := List.mem_map.1 hb
  have h := parts_join c s.data.toList
  have h2 : (c :: p).length ≤ (((parts c s.data.toList).map fun p => c :: p).flatten).length := by
    have : (c :: p) ∈ (parts c s.data.toList).map fun p => c :: p := List.mem_map.2 ⟨p, hp, rfl⟩
    exact (List.sublist_flatten_of_mem this).length_le
  rw [h] at h2
  simp at h2
  rw [Lib.size_eq, Lib.size_eq]
  simp; omega
end Go.Proofs.YtfpokpgkkjibfaaDoor
