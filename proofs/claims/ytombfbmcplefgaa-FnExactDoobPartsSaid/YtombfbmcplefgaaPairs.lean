/- Lists of pairs of ints in memory. -/
import Derived.Test.YtombfbmcplefgaaApp
namespace Go.Proofs.Ytombfbmcplefgaa
open Go.ChangeShapes Go.WideShapes Go.ChangeAt Go.RowKit

def i64p (L : List (Int × Int)) : List Value := L.flatMap fun p => [.int .i64 p.1, .int .i64 p.2]
theorem i64p_app (L : List (Int × Int)) (a b : Int) : i64p (L ++ [(a, b)]) = i64p L ++ [Value.int .i64 a, Value.int .i64 b] := by simp [i64p]
theorem i64p_len (L : List (Int × Int)) : (i64p L).length = L.length * 2 := by
  induction L with
  | nil => rfl
  | cons a L ih =>
    have : i64p (a :: L) = [.int .i64 a.1, .int .i64 a.2] ++ i64p L := rfl
    rw [this]; simp [ih]; omega
def nthp (L : List (Int × Int)) (j : Nat) : Int × Int := L.getD j (0, 0)
theorem i64p_get (L : List (Int × Int)) (j : Nat) (hj : j < L.length) : (i64p L)[j * 2]? = some (.int .i64 (nthp L j).1) ∧ (i64p L)[j * 2 + 1]? = some (.int .i64 (nthp L j).2) := by
  induction L generalizing j with
  | nil => simp at hj
  | cons a L ih =>
    have e : i64p (a :: L) = [.int .i64 a.1, .int .i64 a.2] ++ i64p L := rfl
    cases j with
    | zero => rw [e]; exact ⟨rfl, rfl⟩
    | succ j =>
      have h := ih j (by simpa using hj)
      have e1 : (j + 1) * 2 = j * 2 + 2 := by omega
      rw [e, e1]
      have e2 : nthp (a :: L) (j + 1) = nthp L j := rfl
      rw [e2]
      rw [List.getElem?_append_right (by simp), List.getElem?_append_right (by simp)]
      simpa using h
/-- Block g begins with the pairs L. -/
def Row2 (w : World) (g : Nat) (L : List (Int × Int)) : Prop := ∃ cs : Array Value, w.heap[g]? = some (.cells cs 51 (0, 0)) ∧ ∃ r, cs.toList = i64p L ++ r
def OwnS2 (w : World) (B : Nat) (A : Option Addr) (L : List (Int × Int)) : Prop := (A = none ∧ L = []) ∨ ∃ g, A = some ⟨g, 0, none⟩ ∧ B ≤ g ∧ Row2 w g L
section
variable {w w' : World} {g : Nat} {L : List (Int × Int)}
theorem Row2.lt (h : Row2 w g L) : g < w.heap.size := by
  obtain ⟨cs, h, _⟩ := h
  rcases Nat.lt_or_ge g w.heap.size with hlt | hge
  · exact hlt
  · rw [Array.getElem?_eq_none hge] at h; cases h
theorem Row2.of_block (h : Row2 w g L) (hb : w'.heap[g]? = w.heap[g]?) : Row2 w' g L := by
  obtain ⟨cs, h, hr⟩ := h
  exact ⟨cs, hb.trans h, hr⟩
theorem Row2.below (h : Row2 w g L) (hb : Below w.heap.size w w') : Row2 w' g L := h.of_block (hb.block g h.lt)
theorem Row2.alloc (h : Row2 w g L) (o : Obj) : Row2 (w.alloc o) g L := h.below ((Below.refl _ _).alloc (Nat.le_refl _) o)
theorem Row2.grown {row : Option Nat} (h : Row2 w g L) (hb : w.grownBy w' row) (hg : row ≠ some g) : Row2 w' g L := h.of_block (hb.block g h.lt (fun e => hg e.symm))
theorem Row2.cell0 (h : Row2 w g L) {j : Nat} (hj : j < L.length) : w.cell? ⟨g, j * 2, none⟩ = some (.int .i64 (nthp L j).1) := by
  obtain ⟨cs, h, r, hr⟩ := h
  rw [cell_of_row _ _ _ _ _ _ h, ← Array.getElem?_toList, hr, List.getElem?_append_left (by rw [i64p_len]; omega)]
  exact (i64p_get L j hj).1
theorem Row2.cell1 (h : Row2 w g L) {j : Nat} (hj : j < L.length) : w.cell? ⟨g, j * 2 + 1, none⟩ = some (.int .i64 (nthp L j).2) := by
  obtain ⟨cs, h, r, hr⟩ := h
  rw [cell_of_row _ _ _ _ _ _ h, ← Array.getElem?_toList, hr, List.getElem?_append_left (by rw [i64p_len]; omega)]
  exact (i64p_get L j hj).2
theorem Row2.frozen (h : Row2 w g L) (j : Nat) : w.frozen? ⟨g, j, none⟩ = false := by
  obtain ⟨cs, h, _⟩ := h
  unfold World.frozen?; rw [h]; simp
theorem OwnS2.mono {B B' : Nat} {A : Option Addr} (h : OwnS2 w B A L) (hB : B' ≤ B) : OwnS2 w B' A L := by
  rcases h with h | ⟨g, h1, h2, h3⟩
  · exact .inl h
  · exact .inr ⟨g, h1, by omega, h3⟩
theorem OwnS2.below {B : Nat} {A : Option Addr} (h : OwnS2 w B A L) (hb : Below w.heap.size w w') : OwnS2 w' B A L := by
  rcases h with h | ⟨g, h1, h2, h3⟩
  · exact .inl h
  · exact .inr ⟨g, h1, h2, h3.below hb⟩
theorem OwnS2.pos {B : Nat} {A : Option Addr} (h : OwnS2 w B A L) (hn : 1 ≤ L.length) : ∃ g, A = some ⟨g, 0, none⟩ ∧ B ≤ g ∧ Row2 w g L := by
  rcases h with ⟨_, e⟩ | h
  · rw [e] at hn; simp at hn
  · exact h
end
theorem own_form2 {w : World} {B : Nat} {v : Value} {L : List (Int × Int)} {n : Nat} (h : w.ownsRow B 51 2 v n (i64p L)) : ∃ A c, v = .slice A L.length c ∧ OwnS2 w B A L := by
  have hl : L.length = n := by have := h.1; rw [i64p_len] at this; omega
  subst hl
  rcases h.2 with ⟨rfl, h0⟩ | ⟨g, cap, cur, rfl, hg, hh, h1, h2, h3, h4⟩
  · exact ⟨none, 0, by rw [h0], .inl ⟨rfl, List.eq_nil_of_length_eq_zero h0⟩⟩
  · exact ⟨some ⟨g, 0, none⟩, cap, rfl, .inr ⟨g, rfl, hg, cur, hh, cur.toList.drop (L.length * 2), by rw [← h4, List.take_append_drop]⟩⟩
theorem own_empty2 (W : World) (B g : Nat) (hg : g = W.heap.size) (hB : B ≤ g) : (W.alloc (.cells #[] 51)).ownsRow B 51 2 (.slice (some ⟨g, 0, none⟩) 0 0) 0 [] := by
  subst hg
  exact ⟨rfl, .inr ⟨W.heap.size, 0, #[], rfl, hB, heap_alloc_new W _, Nat.le_refl _, by simp [maxLen], rfl, rfl⟩⟩
/-- A call that hands back a new list of pairs. -/
def RetP (w : World) (L : List (Int × Int)) (e : Ending) (w' : World) : Prop := ∃ A c, e = .returned (.slice A L.length c) ∧ OwnS2 w' w.heap.size A L ∧ Below w.heap.size w w'
theorem info_A2 : (Try.prog.info? 51).map (fun i => (i.zero, i.size, i.bytes)) = some (some (.agg #[.int .i64 0, .int .i64 0]), 2, 16) := by kernel_rfl
theorem cells2_new (w : World) (a b : Value) (t : TypeId) : ∀ j u, [a, b][j]? = some u → (w.alloc (.cells #[a, b] t)).cell? ((⟨w.heap.size, 0, none⟩ : Addr).add j) = some u :=
  World.news_of_block (cs := #[a, b]) (heap_alloc_new w _)
end Go.Proofs.Ytombfbmcplefgaa
