/- Plain laws over lists of bytes: where a byte stands, the parts of a text between bytes, a text before its first byte of one kind. -/
import Derived.Lib.SplitLaws
import Derived.Lib.CutLaws
namespace Go.Proofs.YtgccidkkfalaeaaGreatDoor

theorem ba_ext {a b : ByteArray} (h : a.data.toList = b.data.toList) : a = b := by
  obtain ⟨⟨a⟩⟩ := a; obtain ⟨⟨b⟩⟩ := b; simpa using h
theorem indexByte_mem (l : List UInt8) (c : UInt8) : 0 ≤ Lib.indexByte l c ↔ c ∈ l := by
  induction l with
  | nil => simp [Lib.indexByte]
  | cons b l ih =>
    have hg := Lib.indexByte_ge l c
    unfold Lib.indexByte
    by_cases h : b = c
    · subst h; simp
    · rw [if_neg (by simpa using h)]
      have e : (c ∈ b :: l) ↔ c ∈ l := by simp [Ne.symm h]
      rw [e, ← ih]
      split <;> rename_i h1
      · rw [beq_iff_eq] at h1; omega
      · have : Lib.indexByte l c ≠ -1 := fun e => h1 (beq_iff_eq.2 e)
        omega

def glue (p : List UInt8) : List (List UInt8) → List (List UInt8)
  | [] => [p]
  | q :: r => (p ++ q) :: r
def parts (c : UInt8) : List UInt8 → List (List UInt8)
  | [] => [[]]
  | x :: l => if x = c then [] :: parts c l else glue [x] (parts c l)
theorem glue_ne (p : List UInt8) (L : List (List UInt8)) : glue p L ≠ [] := by cases L <;> simp [glue]
theorem parts_ne (c : UInt8) (l : List UInt8) : parts c l ≠ [] := by
  cases l with
  | nil => simp [parts]
  | cons x l => unfold parts; split; simp; exact glue_ne _ _
theorem glue_nil {L : List (List UInt8)} (h : L ≠ []) : glue [] L = L := by
  cases L with
  | nil => exact absurd rfl h
  | cons q r => rfl
theorem glue_glue (p x : List UInt8) (L : List (List UInt8)) : glue p (glue x L) = glue (p ++ x) L := by
  cases L <;> simp [glue]
theorem parts_hit (c : UInt8) (l : List UInt8) : parts c (c :: l) = [] :: parts c l := by simp [parts]
theorem parts_miss {c x : UInt8} (h : x ≠ c) (l : List UInt8) : parts c (x :: l) = glue [x] (parts c l) := by simp [parts, h]

theorem splitK_parts (c : UInt8) : ∀ l : List UInt8, Lib.splitK [c] 0 (Lib.count l [c]) l = parts c l := by
  intro l
  induction l with
  | nil => rfl
  | cons x l ih =>
    by_cases h : x = c
    · subst h
      have e : Lib.index (x :: l) [x] = 0 := by rw [Lib.index_one]; simp [Lib.indexByte]
      rw [Lib.count_cons_eq, Nat.add_comm, parts_hit, Lib.splitK, e, ← ih]
      rfl
    · rw [Lib.count_cons_ne _ _ _ h, parts_miss h, ← ih]
      cases hk : Lib.count l [c] with
      | zero => rfl
      | succ k =>
        have hne : Lib.index l [c] ≠ -1 := fun e => by rw [Lib.count_miss e] at hk; omega
        have hge := Lib.index_ge l [c]
        obtain ⟨i, hi⟩ : ∃ i : Nat, Lib.index l [c] = i := ⟨(Lib.index l [c]).toNat, by omega⟩
        have hi' : Lib.index (x :: l) [c] = ((i + 1 : Nat) : Int) := by
          rw [Lib.index_one] at hi ⊢
          have e1 : (x == c) = false := by simpa using h
          have e2 : ((i : Int) == -1) = false := by rw [beq_eq_false_iff_ne]; omega
          rw [Lib.indexByte, hi, e1, e2]
          simp
        have n1 : ((i : Int) == -1) = false := by rw [beq_eq_false_iff_ne]; omega
        have n2 : (((i + 1 : Nat) : Int) == -1) = false := by rw [beq_eq_false_iff_ne]; omega
        simp only [Lib.splitK, hi, hi', n1, n2, Int.toNat_natCast, glue]
        simp

/-- The parts as strings. -/
def partsB (c : UInt8) (s : ByteArray) : List ByteArray := (parts c s.data.toList).map fun l => ⟨l.toArray⟩
theorem splitB_parts (c : UInt8) (s : ByteArray) : Lib.splitB ⟨#[c]⟩ 0 (Lib.countB s ⟨#[c]⟩) s = partsB c s := by
  have h := Lib.splitB_data ⟨#[c]⟩ 0 (Lib.countB s ⟨#[c]⟩) s
  have e : Lib.splitK [c] 0 (Lib.countB s ⟨#[c]⟩) s.data.toList = parts c s.data.toList := splitK_parts c _
  have h' : (Lib.splitB ⟨#[c]⟩ 0 (Lib.countB s ⟨#[c]⟩) s).map (·.data.toList) = parts c s.data.toList := h.trans e
  rw [partsB, ← h', List.map_map]
  exact (List.map_id' _).symm.trans (List.map_congr_left fun b _ => ba_ext (by simp))
theorem countB_parts (c : UInt8) (s : ByteArray) : (partsB c s).length = Lib.countB s ⟨#[c]⟩ + 1 := by
  rw [← splitB_parts]
  exact Lib.splitB_all (⟨#[c]⟩ : ByteArray) (Nat.le_refl 1) 0 _ s rfl

/-- The text before the first such byte. -/
def headL (c : UInt8) (l : List UInt8) : List UInt8 := l.takeWhile (· != c)
theorem head_parts (c : UInt8) (l : List UInt8) : ∃ r, parts c l = headL c l :: r := by
  induction l with
  | nil => exact ⟨[], rfl⟩
  | cons x l ih =>
    obtain ⟨r, hr⟩ := ih
    by_cases h : x = c
    · subst h; exact ⟨parts x l, by rw [parts_hit]; simp [headL]⟩
    · exact ⟨r, by rw [parts_miss h, hr]; simp [headL, h, glue]⟩
theorem head_not_mem (c : UInt8) (l : List UInt8) : c ∉ headL c l := by
  intro h
  induction l with
  | nil => simp [headL] at h
  | cons x l ih =>
    by_cases hx : x = c
    · subst hx; simp [headL] at h
    · simp [headL, hx] at h
      rcases h with h | h
      · exact hx h.symm
      · exact ih h
theorem head_le (c : UInt8) (l : List UInt8) : (headL c l).length ≤ l.length := by
  unfold headL
  exact (List.takeWhile_sublist _).length_le
theorem head_self {c : UInt8} {l : List UInt8} (h : c ∉ l) : headL c l = l := by
  unfold headL
  induction l with
  | nil => rfl
  | cons x l ih =>
    have hx : x ≠ c := fun e => h (by simp [e])
    simp only [List.takeWhile_cons, bne_iff_ne, ne_eq, hx, not_false_eq_true, if_true]
    rw [ih fun e => h (by simp [e])]
theorem head_app {c : UInt8} {l : List UInt8} (h : c ∉ l) (r : List UInt8) : headL c (l ++ c :: r) = l := by
  induction l with
  | nil => simp [headL]
  | cons x l ih =>
    have hx : x ≠ c := fun e => h (by simp [e])
    have := ih (fun e => h (by simp [e]))
    simp only [headL, List.cons_append, List.takeWhile_cons, bne_iff_ne, ne_eq, hx, not_false_eq_true, if_true] at this ⊢
    rw [this]
theorem cut_head (c : UInt8) (l : List UInt8) : (Lib.cut l [c]).1 = headL c l := by
  unfold Lib.cut
  rw [Lib.index_one]
  split <;> rename_i h
  · have hc := (indexByte_mem l c).1 h
    induction l with
    | nil => simp at hc
    | cons x l ih =>
      by_cases hx : x = c
      · subst hx; simp [Lib.indexByte, headL]
      · have hc' : c ∈ l := by simpa [Ne.symm hx] using hc
        have h' := (indexByte_mem l c).2 hc'
        have e1 : (x == c) = false := by simpa using hx
        have e2 : (Lib.indexByte l c == -1) = false := by rw [beq_eq_false_iff_ne]; omega
        have e3 : Lib.indexByte (x :: l) c = Lib.indexByte l c + 1 := by rw [Lib.indexByte, e1, e2]; rfl
        have e4 : (Lib.indexByte l c + 1).toNat = (Lib.indexByte l c).toNat + 1 := by omega
        have := ih h' hc'
        dsimp only at this
        simp only [e3, e4, List.take_succ_cons]
        rw [this]
        simp [headL, hx]
  · exact (head_self fun hc => h ((indexByte_mem l c).2 hc)).symm
end Go.Proofs.YtgccidkkfalaeaaGreatDoor
