/- The laws' own functions on lists of pairs of ints: equality, marks. -/
import Derived.Test.YtgccidkkfalaeaaGreatDoorMgTr10
import Derived.Test.YtgccidkkfalaeaaGreatDoorMgTr6
namespace Go.Proofs.YtgccidkkfalaeaaGreatDoor
open Go.ChangeShapes Go.WideShapes Go.ChangeAt Go.RowKit

/-- A slice of pairs reads as L. -/
def Prs (w : World) (A : Option Addr) (L : List (Int × Int)) : Prop := 1 ≤ L.length → ∃ g, A = some ⟨g, 0, none⟩ ∧ Row2 w g L
def OwnU2 (w : World) (U : Nat) (A : Option Addr) (L : List (Int × Int)) : Prop := (A = none ∧ L = []) ∨ ∃ g, A = some ⟨g, 0, none⟩ ∧ g < U ∧ Row2 w g L
theorem Prs.below {w w' : World} {A : Option Addr} {L : List (Int × Int)} (h : Prs w A L) (hb : Below w.heap.size w w') : Prs w' A L := fun hl => by
  obtain ⟨g, h1, h2⟩ := h hl
  exact ⟨g, h1, h2.below hb⟩
theorem OwnS2.prs {w : World} {B : Nat} {A : Option Addr} {L : List (Int × Int)} (h : OwnS2 w B A L) : Prs w A L := fun hl => by
  obtain ⟨g, h1, _, h2⟩ := h.pos hl
  exact ⟨g, h1, h2⟩
theorem OwnU2.prs {w : World} {U : Nat} {A : Option Addr} {L : List (Int × Int)} (h : OwnU2 w U A L) : Prs w A L := fun hl => by
  rcases h with ⟨_, e⟩ | ⟨g, h1, _, h2⟩
  · rw [e] at hl; simp at hl
  · exact ⟨g, h1, h2⟩
theorem OwnS2.upper {w : World} {B : Nat} {A : Option Addr} {L : List (Int × Int)} (h : OwnS2 w B A L) : OwnU2 w w.heap.size A L := by
  rcases h with h | ⟨g, h1, _, h3⟩
  · exact .inl h
  · exact .inr ⟨g, h1, h3.lt, h3⟩
theorem OwnU2.below {w w' : World} {U : Nat} {A : Option Addr} {L : List (Int × Int)} (h : OwnU2 w U A L) (hb : Below w.heap.size w w') : OwnU2 w' U A L := by
  rcases h with h | ⟨g, h1, h2, h3⟩
  · exact .inl h
  · exact .inr ⟨g, h1, h2, h3.below hb⟩
theorem KeptBut.row2 {w w' : World} {p q : Nat} (h : KeptBut w w' p q) {g : Nat} {L : List (Int × Int)} (hr : Row2 w g L) (hp : g ≠ p) (hq : g ≠ q) : Row2 w' g L := hr.of_block (h.block g hr.lt hp hq)
theorem KeptBut.own2 {w w' : World} {p q B : Nat} (h : KeptBut w w' p q) {A : Option Addr} {L : List (Int × Int)} (ho : OwnS2 w B A L) (hp : p < B) (hq : q < B) : OwnS2 w' B A L := by
  rcases ho with ho | ⟨g, h1, h2, h3⟩
  · exact .inl ho
  · exact .inr ⟨g, h1, h2, h.row2 h3 (by omega) (by omega)⟩
theorem KeptBut.ownU2 {w w' : World} {p q U : Nat} (h : KeptBut w w' p q) {A : Option Addr} {L : List (Int × Int)} (ho : OwnU2 w U A L) (hp : U ≤ p) (hq : U ≤ q) : OwnU2 w' U A L := by
  rcases ho with ho | ⟨g, h1, h2, h3⟩
  · exact .inl ho
  · exact .inr ⟨g, h1, h2, h.row2 h3 (by omega) (by omega)⟩

def pmarks (s : Int) (n : Nat) : List (Int × Int) := (List.range n).map fun (i : Nat) => (s + ((i * 2 : Nat) : Int), s + ((i * 2 + 1 : Nat) : Int))
theorem pmarks_len (s : Int) (n : Nat) : (pmarks s n).length = n := by simp [pmarks]
theorem pmarks_nth (s : Int) (n j : Nat) (h : j < n) : nthp (pmarks s n) j = (s + ((j * 2 : Nat) : Int), s + ((j * 2 + 1 : Nat) : Int)) := by
  simp [nthp, pmarks, List.getD, h]
theorem pmarks_cells (s : Int) (n : Nat) : i64p (pmarks s n) = (List.range (n * 2)).map fun (j : Nat) => Value.int .i64 (s + (j : Int)) := by
  induction n with
  | zero => rfl
  | succ n ih =>
    have e : pmarks s (n + 1) = pmarks s n ++ [(s + ((n * 2 : Nat) : Int), s + ((n * 2 + 1 : Nat) : Int))] := by
      unfold pmarks; rw [List.range_succ, List.map_append]; rfl
    have e2 : (n + 1) * 2 = n * 2 + 1 + 1 := by omega
    rw [e, i64p_app, ih, e2, List.range_succ, List.range_succ, List.map_append, List.map_append, List.append_assoc]; rfl
/-- The block's first k cells are marked from s on. -/
def Mkd2 (wr : World) (g : Nat) (s : Int) (k n : Nat) : Prop := ∃ cs : Array Value, wr.heap[g]? = some (.cells cs 41 (0, 0)) ∧ n ≤ cs.size ∧ ∀ j, j < k → cs[j]? = some (.int .i64 (s + (j : Int)))
theorem Mkd2.cell {wr : World} {g : Nat} {s : Int} {k n : Nat} (h : Mkd2 wr g s k n) {j : Nat} (hj : j < n) : ∃ u, wr.cell? ⟨g, j, none⟩ = some u := by
  obtain ⟨cs, h, hn, _⟩ := h
  exact ⟨cs[j], by rw [cell_of_row _ _ _ _ _ _ h, Array.getElem?_eq_getElem (by omega)]⟩
theorem Mkd2.free {wr : World} {g : Nat} {s : Int} {k n : Nat} (h : Mkd2 wr g s k n) (j : Nat) : wr.frozen? ⟨g, j, none⟩ = false := by
  obtain ⟨cs, h, hn, _⟩ := h
  unfold World.frozen?; rw [h]; simp
theorem Mkd2.next {wr : World} {g : Nat} {s v : Int} {k n : Nat} (h : Mkd2 wr g s k n) (hk : k < n) (hv : v = s + (k : Int)) : Mkd2 (wr.setCell ⟨g, k, none⟩ (.int .i64 v)) g s (k + 1) n := by
  subst hv
  obtain ⟨cs, h, hn, hc⟩ := h
  refine ⟨_, set_block h k _, by simpa using hn, fun j hj => ?_⟩
  rw [Array.getElem?_setIfInBounds]
  by_cases e : k = j
  · subst e; rw [if_pos rfl, if_pos (by omega)]
  · rw [if_neg e]; exact hc j (by omega)
theorem Mkd2.row {wr : World} {g : Nat} {s : Int} {n : Nat} (h : Mkd2 wr g s (n * 2) (n * 2)) : Row2 wr g (pmarks s n) := by
  obtain ⟨cs, h, hn, hc⟩ := h
  refine ⟨cs, h, cs.toList.drop (n * 2), ?_⟩
  have : i64p (pmarks s n) = cs.toList.take (n * 2) := by
    rw [pmarks_cells]
    apply List.ext_getElem
    · simp; omega
    · intro j h1 h2
      simp at h1
      have h3 := hc j h1
      rw [Array.getElem?_eq_getElem (by omega)] at h3
      simp
      exact (Option.some.inj h3).symm
  rw [this, List.take_append_drop]
theorem Row2.marked {w : World} {g : Nat} {L : List (Int × Int)} (h : Row2 w g L) (s : Int) : Mkd2 w g s 0 (L.length * 2) := by
  obtain ⟨cs, h, r, hr⟩ := h
  refine ⟨cs, h, ?_, fun j hj => absurd hj (by omega)⟩
  have := congrArg List.length hr
  simp [i64p_len] at this; omega
theorem int_eq {a b : Int} (h : a = b) : Value.int .i64 a = .int .i64 b := by rw [h]

end Go.Proofs.YtgccidkkfalaeaaGreatDoor
