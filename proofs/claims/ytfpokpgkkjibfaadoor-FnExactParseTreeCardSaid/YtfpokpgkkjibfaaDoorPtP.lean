/- Plain: the tree that a text is: its words, each with two numbers and one byte between. -/
import Derived.Test.YtfpokpgkkjibfaaDoorReadP
import Derived.Test.YtfpokpgkkjibfaaDoorText
import Derived.Test.YtfpokpgkkjibfaaDoorSealP
namespace Go.Proofs.YtfpokpgkkjibfaaDoor

/-- The text behind the first such byte. -/
def tailL (c : UInt8) (l : List UInt8) : List UInt8 := (l.dropWhile (· != c)).drop 1
theorem parts_tail (c : UInt8) (l : List UInt8) : parts c l = headL c l :: (if c ∈ l then parts c (tailL c l) else []) := by
  induction l with
  | nil => rfl
  | cons x l ih =>
    by_cases h : x = c
    · subst h; rw [parts_hit]; simp [headL, tailL]
    · rw [parts_miss h, ih]
      have e1 : headL c (x :: l) = x :: headL c l := by simp [headL, h]
      have e2 : tailL c (x :: l) = tailL c l := by simp [tailL, h]
      have e3 : (c ∈ x :: l) ↔ c ∈ l := by simp [Ne.symm h]
      rw [e1, e2]
      simp only [glue, e3, List.cons_append, List.nil_append]
theorem tail_none {c : UInt8} {l : List UInt8} (h : c ∉ l) : tailL c l = [] := by
  unfold tailL
  induction l with
  | nil => rfl
  | cons x l ih =>
    have hx : x ≠ c := fun e => h (by simp [e])
    rw [List.dropWhile_cons, if_pos (by simpa using hx)]
    exact ih fun e => h (by simp [e])
theorem cut_tail (c : UInt8) (l : List UInt8) : (Lib.cut l [c]).2.1 = tailL c l := by
  unfold Lib.cut
  rw [Lib.index_one]
  split <;> rename_i h
  · have hc := (indexByte_mem l c).1 h
    induction l with
    | nil => simp at hc
    | cons x l ih =>
      by_cases hx : x = c
      · subst hx; simp [Lib.indexByte, tailL]
      · have hc' : c ∈ l := by simpa [Ne.symm hx] using hc
        have h' := (indexByte_mem l c).2 hc'
        have e1 : (x == c) = false := by simpa using hx
        have e2 : (Lib.indexByte l c == -1) = false := by rw [beq_eq_false_iff_ne]; omega
        have e3 : Lib.indexByte (x :: l) c = Lib.indexByte l c + 1 := by rw [Lib.indexByte, e1, e2]; rfl
        have e4 : (Lib.indexByte l c + 1).toNat + [c].length = ((Lib.indexByte l c).toNat + [c].length) + 1 := by simp; omega
        have := ih h' hc'
        dsimp only at this
        simp only [e3, e4, List.drop_succ_cons]
        rw [this]
        simp [tailL, hx]
  · exact (tail_none fun hc => h ((indexByte_mem l c).2 hc)).symm
theorem tail_le (c : UInt8) (l : List UInt8) : (tailL c l).length ≤ l.length := by
  unfold tailL
  have := (List.dropWhile_suffix (p := (· != c)) (l := l)).length_le
  rw [List.length_drop]; omega
theorem itoa_not (n : Int) {c : UInt8} (hc : c.toNat < 45 ∨ 57 < c.toNat) : c ∉ Lib.itoa n := by
  by_cases hn : 0 ≤ n
  · obtain ⟨u, rfl⟩ := Int.eq_ofNat_of_zero_le hn
    rw [Lib.itoa_nonneg]
    intro h
    have := decDigits_byte u h
    omega
  · obtain ⟨u, rfl⟩ : ∃ u : Nat, n = -(u : Int) := ⟨n.natAbs, by omega⟩
    rw [Lib.itoa_neg u (by omega)]
    intro h
    rcases List.mem_cons.1 h with h | h
    · subst h; exact absurd hc (by decide)
    · have := decDigits_byte u h
      omega
theorem rd_no {l : List UInt8} {c : UInt8} (hc : c.toNat < 45 ∨ 57 < c.toNat) (h : c ∈ l) : rdL l = none := by
  refine rdL_none fun n hn => ?_
  exact itoa_not n hc (by rw [hn.2.2]; exact h)
theorem rd_nil : rdL [] = none := by
  refine rdL_none fun n hn => ?_
  have := (isNum_atoi hn).2.1
  simp at this
theorem rd_bd {l : List UInt8} {n : Int} (h : rdL l = some n) : -999999 ≤ n ∧ n ≤ 999999 := ⟨(rdL_isNum h).1, (rdL_isNum h).2.1⟩

/-- The first and the second number of a word; both there. -/
noncomputable def wX (l : List UInt8) : Int := (rdL (headL 58 l)).getD 0
noncomputable def wY (l : List UInt8) : Int := (rdL (tailL 58 l)).getD 0
noncomputable def wOk (l : List UInt8) : Bool := (rdL (headL 58 l)).isSome && (rdL (tailL 58 l)).isSome
theorem wX_bd (l : List UInt8) : -999999 ≤ wX l ∧ wX l ≤ 999999 := by
  unfold wX
  cases h : rdL (headL 58 l) with
  | none => simp
  | some n => exact rd_bd h
theorem wY_bd (l : List UInt8) : -999999 ≤ wY l ∧ wY l ≤ 999999 := by
  unfold wY
  cases h : rdL (tailL 58 l) with
  | none => simp
  | some n => exact rd_bd h
/-- Two parts exactly: they are head and tail; otherwise the word is bad. -/
theorem wOk_two {l : List UInt8} (h : wOk l = true) : parts 58 l = [headL 58 l, tailL 58 l] := by
  unfold wOk at h
  rw [Bool.and_eq_true] at h
  have h2 : (58 : UInt8) ∉ tailL 58 l := fun e => by have := rd_no (c := 58) (.inr (by decide)) e; rw [this] at h; exact absurd h.2 (by simp)
  have h1 : (58 : UInt8) ∈ l := by
    apply Classical.byContradiction
    intro e
    rw [tail_none e, rd_nil] at h
    exact absurd h.2 (by simp)
  rw [parts_tail, if_pos h1, parts_tail 58 (tailL 58 l), if_neg h2, head_self h2]
theorem parts_two {l : List UInt8} (h : (parts 58 l).length = 2) : parts 58 l = [headL 58 l, tailL 58 l] := by
  rw [parts_tail] at h
  by_cases h1 : (58 : UInt8) ∈ l
  · rw [if_pos h1, parts_tail 58 (tailL 58 l)] at h
    by_cases h2 : (58 : UInt8) ∈ tailL 58 l
    · rw [if_pos h2] at h
      have := parts_ne 58 (tailL 58 (tailL 58 l))
      cases hp : parts 58 (tailL 58 (tailL 58 l)) with
      | nil => exact absurd hp this
      | cons a b => rw [hp] at h; simp at h
    · rw [parts_tail, if_pos h1, parts_tail 58 (tailL 58 l), if_neg h2, head_self h2]
  · rw [if_neg h1] at h; simp at h
theorem wOk_len {l : List UInt8} (h : wOk l = true) : (parts 58 l).length = 2 := by rw [wOk_two h]; rfl

/-- The numbers of the first words. -/
noncomputable def pX (L : List ByteArray) : List Int := L.map fun b => wX b.data.toList
noncomputable def pY (L : List ByteArray) : List Int := L.map fun b => wY b.data.toList
theorem pX_next {L : List ByteArray} {k : Nat} {b : ByteArray} (h : L[k]? = some b) : pX (L.take (k + 1)) = pX (L.take k) ++ [wX b.data.toList] := by rw [take_next h]; simp [pX]
theorem pY_next {L : List ByteArray} {k : Nat} {b : ByteArray} (h : L[k]? = some b) : pY (L.take (k + 1)) = pY (L.take k) ++ [wY b.data.toList] := by rw [take_next h]; simp [pY]
theorem pX_len {L : List ByteArray} {k : Nat} (h : k ≤ L.length) : (pX (L.take k)).length = k := by simp [pX]; omega
theorem pY_len {L : List ByteArray} {k : Nat} (h : k ≤ L.length) : (pY (L.take k)).length = k := by simp [pY]; omega
theorem nth_map_bd {f : ByteArray → Int} (hf : ∀ b, -1000000 ≤ f b ∧ f b ≤ 1000000) (L : List ByteArray) (j : Nat) : -1000000 ≤ nth (L.map f) j ∧ nth (L.map f) j ≤ 1000000 := by
  unfold nth
  by_cases h : j < L.length
  · rw [List.getD, List.getElem?_map, List.getElem?_eq_getElem h]; exact hf _
  · rw [List.getD, List.getElem?_eq_none (by simp; omega)]; exact ⟨by decide, by decide⟩
theorem p_small (L : List ByteArray) : SmallT (pX L) (pY L) := fun j =>
  ⟨nth_map_bd (fun b => by have := wX_bd b.data.toList; omega) L j, nth_map_bd (fun b => by have := wY_bd b.data.toList; omega) L j⟩
/-- The tree of the text s, if it is one's. -/
noncomputable def ptX (s : ByteArray) : List Int := pX (partsB 32 s)
noncomputable def ptY (s : ByteArray) : List Int := pY (partsB 32 s)
def ptOk (s : ByteArray) : Prop := (∀ b ∈ partsB 32 s, wOk b.data.toList = true) ∧ good (ptX s) (ptY s) = true ∧ txB (ptX s) (ptY s) = s
theorem ptOk_len {s : ByteArray} (h : ptOk s) : (partsB 32 s).length ≤ 24 := by
  have := (good_len h.2.1).2.1
  unfold ptX pX at this
  rw [List.length_map] at this; exact this
end Go.Proofs.YtfpokpgkkjibfaaDoor
