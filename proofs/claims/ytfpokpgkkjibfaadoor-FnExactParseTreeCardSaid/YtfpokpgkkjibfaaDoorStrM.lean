/- Lists of strings in memory. -/
import Derived.Test.YtfpokpgkkjibfaaDoorMem
import Derived.Test.YtfpokpgkkjibfaaDoorStrP
namespace Go.Proofs.YtfpokpgkkjibfaaDoor
open Go.ChangeShapes Go.WideShapes Go.ChangeAt Go.RowKit

def mkB (l : List UInt8) : ByteArray := ⟨l.toArray⟩
theorem mkB_data (s : ByteArray) : mkB s.data.toList = s := ba_ext (by simp [mkB])
theorem mkB_list (l : List UInt8) : (mkB l).data.toList = l := by simp [mkB]
theorem mkB_size (l : List UInt8) : (mkB l).size = l.length := by simp [mkB, ByteArray.size]
def strs (L : List ByteArray) : List Value := L.map Value.string
theorem strs_app (L : List ByteArray) (b : ByteArray) : strs (L ++ [b]) = strs L ++ [Value.string b] := by simp [strs]
theorem strs_len (L : List ByteArray) : (strs L).length = L.length := by simp [strs]
/-- Block g begins with the strings L. -/
def RowS (w : World) (g : Nat) (L : List ByteArray) : Prop := ∃ cs : Array Value, w.heap[g]? = some (.cells cs 9 (0, 0)) ∧ ∃ r, cs.toList = strs L ++ r
def OwnSS (w : World) (B : Nat) (A : Option Addr) (L : List ByteArray) : Prop := (A = none ∧ L = []) ∨ ∃ g, A = some ⟨g, 0, none⟩ ∧ B ≤ g ∧ RowS w g L
section
variable {w w' : World} {g : Nat} {L : List ByteArray}
theorem RowS.lt (h : RowS w g L) : g < w.heap.size := by
  obtain ⟨cs, h, _⟩ := h
  rcases Nat.lt_or_ge g w.heap.size with hlt | hge
  · exact hlt
  · rw [Array.getElem?_eq_none hge] at h; cases h
theorem RowS.of_block (h : RowS w g L) (hb : w'.heap[g]? = w.heap[g]?) : RowS w' g L := by
  obtain ⟨cs, h, hr⟩ := h
  exact ⟨cs, hb.trans h, hr⟩
theorem RowS.below (h : RowS w g L) (hb : Below w.heap.size w w') : RowS w' g L := h.of_block (hb.block g h.lt)
theorem RowS.cell (h : RowS w g L) {j : Nat} {b : ByteArray} (hj : L[j]? = some b) : w.cell? ⟨g, j, none⟩ = some (.string b) := by
  obtain ⟨cs, h, r, hr⟩ := h
  have hl : j < L.length := (List.getElem?_eq_some_iff.1 hj).1
  rw [cell_of_row _ _ _ _ _ _ h, ← Array.getElem?_toList, hr, List.getElem?_append_left (by rw [strs_len]; exact hl)]
  simp [strs, hj]
theorem RowS.frozen (h : RowS w g L) (j : Nat) : w.frozen? ⟨g, j, none⟩ = false := by
  obtain ⟨cs, h, _⟩ := h
  unfold World.frozen?; rw [h]; simp
theorem OwnSS.mono {B B' : Nat} {A : Option Addr} (h : OwnSS w B A L) (hB : B' ≤ B) : OwnSS w B' A L := by
  rcases h with h | ⟨g, h1, h2, h3⟩
  · exact .inl h
  · exact .inr ⟨g, h1, by omega, h3⟩
theorem OwnSS.below {B : Nat} {A : Option Addr} (h : OwnSS w B A L) (hb : Below w.heap.size w w') : OwnSS w' B A L := by
  rcases h with h | ⟨g, h1, h2, h3⟩
  · exact .inl h
  · exact .inr ⟨g, h1, h2, h3.below hb⟩
theorem OwnSS.pos {B : Nat} {A : Option Addr} (h : OwnSS w B A L) (hn : 1 ≤ L.length) : ∃ g, A = some ⟨g, 0, none⟩ ∧ B ≤ g ∧ RowS w g L := by
  rcases h with ⟨_, e⟩ | h
  · rw [e] at hn; simp at hn
  · exact h
end
theorem own_formS {w : World} {B : Nat} {v : Value} {L : List ByteArray} {n : Nat} (h : w.ownsRow B 9 1 v n (strs L)) : ∃ A c, v = .slice A L.length c ∧ OwnSS w B A L := by
  have hl : L.length = n := by have := h.1; rw [strs_len] at this; omega
  subst hl
  rcases h.2 with ⟨rfl, h0⟩ | ⟨g, cap, cur, rfl, hg, hh, h1, h2, h3, h4⟩
  · exact ⟨none, 0, by rw [h0], .inl ⟨rfl, List.eq_nil_of_length_eq_zero h0⟩⟩
  · exact ⟨some ⟨g, 0, none⟩, cap, rfl, .inr ⟨g, rfl, hg, cur, hh, cur.toList.drop (L.length * 1), by rw [← h4, List.take_append_drop]⟩⟩
theorem own_emptyS (W : World) (B g : Nat) (hg : g = W.heap.size) (hB : B ≤ g) : (W.alloc (.cells #[] 9)).ownsRow B 9 1 (.slice (some ⟨g, 0, none⟩) 0 0) 0 [] := by
  subst hg
  exact ⟨rfl, .inr ⟨W.heap.size, 0, #[], rfl, hB, heap_alloc_new W _, Nat.le_refl _, by simp [maxLen], rfl, rfl⟩⟩
/-- A call that hands back a new list of strings. -/
def RetS (w : World) (L : List ByteArray) (e : Ending) (w' : World) : Prop := ∃ A c, e = .returned (.slice A L.length c) ∧ OwnSS w' w.heap.size A L ∧ Below w.heap.size w w'
theorem info_str : (Tryd.prog.info? 9).map (fun i => (i.zero, i.size, i.bytes)) = some (some (.string ByteArray.empty), 1, 16) := by kernel_rfl
theorem infoS_parts : ∃ i0, Tryd.prog.info? 9 = some i0 ∧ i0.zero = some (.string ByteArray.empty) ∧ i0.size = 1 ∧ i0.bytes = 16 := by
  have h := info_str
  cases hi : Tryd.prog.info? 9 with
  | none => rw [hi] at h; cases h
  | some i => rw [hi] at h; simp at h; exact ⟨i, rfl, h.1, h.2.1, h.2.2⟩
theorem bytes_eq {a b : ByteArray} : (a.toList == b.toList) = decide (a = b) := by
  rw [Lib.toList_data, Lib.toList_data]
  by_cases h : a = b
  · subst h; simp
  · rw [decide_eq_false h, beq_eq_false_iff_ne]; exact fun e => h (ba_ext e)
end Go.Proofs.YtfpokpgkkjibfaaDoor
