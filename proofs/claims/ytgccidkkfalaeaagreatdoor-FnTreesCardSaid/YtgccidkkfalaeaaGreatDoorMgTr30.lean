/- Lists of strings that a law compares, marks and reads again. -/
import Derived.Laws.BytesArg
import Derived.Deep.RegionHeld3
import Derived.Test.YtgccidkkfalaeaaGreatDoorMgTr12
import Derived.Test.YtgccidkkfalaeaaGreatDoorMgTr19
namespace Go.Proofs.YtgccidkkfalaeaaGreatDoor
open Go.ChangeShapes Go.WideShapes Go.ChangeAt Go.RowKit
open Go.ChangeMaps (open_string shut_string)

/-- The place A begins with the strings L. -/
def StrS (w : World) (A : Option Addr) (L : List ByteArray) : Prop := ∀ j b, L[j]? = some b → ∃ g o, A = some ⟨g, o, none⟩ ∧ w.cell? ⟨g, o + j, none⟩ = some (.string b)
theorem OwnSS.strs {w : World} {B : Nat} {A : Option Addr} {L : List ByteArray} (h : OwnSS w B A L) : StrS w A L := by
  intro j b hj
  rcases h with ⟨_, rfl⟩ | ⟨g, rfl, _, hr⟩
  · simp at hj
  · exact ⟨g, 0, rfl, by rw [Nat.zero_add]; exact hr.cell hj⟩
theorem StrS.below {w w' : World} {A : Option Addr} {L : List ByteArray} (h : StrS w A L) (hb : Below w.heap.size w w') : StrS w' A L := by
  intro j b hj
  obtain ⟨g, o, e, hc⟩ := h j b hj
  exact ⟨g, o, e, keep_cell hb hc⟩

/-- The text that the law writes for the number k. -/
def markTx (k : Nat) : ByteArray := mkB (109 :: Lib.decDigits k)
theorem rem10 (u : Nat) (hu : 0 < u) (o : List UInt8) : (0 < u / 10 → Lib.decDigits (u / 10) ++ (UInt8.ofNat (48 + u % 10) :: o) = Lib.decDigits u ++ o) ∧ (u / 10 = 0 → UInt8.ofNat (48 + u % 10) :: o = Lib.decDigits u ++ o) := by
  constructor
  · intro h
    rw [decDigits_ge (u := u) (by omega)]; simp
  · intro h
    rw [decDigits_lt (u := u) (by omega)]
    have : u % 10 = u := by omega
    rw [this]; rfl
theorem mkB_cons (a : UInt8) (o : List UInt8) : (⟨#[a]⟩ : ByteArray) ++ mkB o = mkB (a :: o) := ba_ext (by simp [mkB])
/-- The law's marks from s on. -/
def smarks (s n : Nat) : List ByteArray := (List.range n).map fun i => markTx (s + i)
theorem smarks_len (s n : Nat) : (smarks s n).length = n := by simp [smarks]
theorem smarks_get (s n j : Nat) (h : j < n) : (smarks s n)[j]? = some (markTx (s + j)) := by simp [smarks, h]

theorem set_blockS {w : World} {g : Nat} {cs : Array Value} {t : TypeId} (h : w.heap[g]? = some (.cells cs t (0, 0))) (i : Nat) (v : Value) : (w.setCell ⟨g, i, none⟩ v).heap[g]? = some (.cells (cs.setIfInBounds i v) t (0, 0)) := by
  simp [World.setCell, Array.getElem?_modify, h]
theorem grown_setS {w wr : World} {g : Nat} (h : w.grownBy wr (some g)) (i : Nat) (v : Value) : w.grownBy (wr.setCell ⟨g, i, none⟩ v) (some g) :=
  ⟨h.os, h.tape, h.output, by simpa [World.setCell] using h.size, fun k hk hne => by
    rw [Below.heap_setCell _ _ _ _ (by intro e; exact hne (by rw [e]))]; exact h.block k hk hne⟩
theorem grown_belowS {w wr w1 : World} {g : Nat} (h : w.grownBy wr (some g)) (hb : Below wr.heap.size wr w1) : w.grownBy w1 (some g) :=
  ⟨hb.os.trans h.os, hb.tape.trans h.tape, hb.output.trans h.output, Nat.le_trans h.size hb.size, fun k hk hne => (hb.block k (Nat.lt_of_lt_of_le hk h.size)).trans (h.block k hk hne)⟩
/-- The block's first k cells are marked from s on. -/
def MarkS (wr : World) (g s k n : Nat) : Prop := ∃ cs : Array Value, wr.heap[g]? = some (.cells cs 9 (0, 0)) ∧ n ≤ cs.size ∧ ∀ j, j < k → cs[j]? = some (.string (markTx (s + j)))
theorem MarkS.below {wr w1 : World} {g s k n : Nat} (h : MarkS wr g s k n) (hb : Below wr.heap.size wr w1) : MarkS w1 g s k n := by
  obtain ⟨cs, h, hr⟩ := h
  refine ⟨cs, (hb.block g ?_).trans h, hr⟩
  rcases Nat.lt_or_ge g wr.heap.size with hlt | hge
  · exact hlt
  · rw [Array.getElem?_eq_none hge] at h; cases h
theorem MarkS.cell {wr : World} {g s k n : Nat} (h : MarkS wr g s k n) {j : Nat} (hj : j < n) : ∃ u, wr.cell? ⟨g, j, none⟩ = some u := by
  obtain ⟨cs, h, hn, _⟩ := h
  exact ⟨cs[j], by rw [cell_of_row _ _ _ _ _ _ h, Array.getElem?_eq_getElem (by omega)]⟩
theorem MarkS.free {wr : World} {g s k n : Nat} (h : MarkS wr g s k n) (j : Nat) : wr.frozen? ⟨g, j, none⟩ = false := by
  obtain ⟨cs, h, hn, _⟩ := h
  unfold World.frozen?; rw [h]; simp
theorem MarkS.next {wr : World} {g s k n : Nat} (h : MarkS wr g s k n) (hk : k < n) : MarkS (wr.setCell ⟨g, k, none⟩ (.string (markTx (s + k)))) g s (k + 1) n := by
  obtain ⟨cs, h, hn, hc⟩ := h
  refine ⟨_, set_blockS h k _, by simpa using hn, fun j hj => ?_⟩
  rw [Array.getElem?_setIfInBounds]
  by_cases e : k = j
  · subst e; rw [if_pos rfl, if_pos (by omega)]
  · rw [if_neg e]; exact hc j (by omega)
theorem MarkS.row {wr : World} {g s n : Nat} (h : MarkS wr g s n n) : RowS wr g (smarks s n) := by
  obtain ⟨cs, h, hn, hc⟩ := h
  refine ⟨cs, h, cs.toList.drop n, ?_⟩
  have : strs (smarks s n) = cs.toList.take n := by
    apply List.ext_getElem
    · simp [strs, smarks]; omega
    · intro j h1 h2
      simp [strs, smarks] at h1
      have h3 := hc j h1
      rw [Array.getElem?_eq_getElem (by omega)] at h3
      simp [strs, smarks]
      exact (Option.some.inj h3).symm
  rw [this, List.take_append_drop]
theorem RowS.marked {w : World} {g : Nat} {L : List ByteArray} (h : RowS w g L) (s : Nat) : MarkS w g s 0 L.length := by
  obtain ⟨cs, h, r, hr⟩ := h
  refine ⟨cs, h, ?_, fun j hj => absurd hj (by omega)⟩
  have := congrArg List.length hr
  simp [strs] at this; omega

end Go.Proofs.YtgccidkkfalaeaaGreatDoor
/- SplitString: what the reference's and the program's return. -/
namespace Go.Proofs.YtgccidkkfalaeaaGreatDoor
open Go.ChangeShapes Go.WideShapes Go.ChangeAt Go.RowKit
open Go.ChangeMaps (open_string shut_string)

/-- A call that hands back a list of strings, new or nil, and a bool. -/
def RetSB (w : World) (L : List ByteArray) (b : Bool) (e : Ending) (w' : World) : Prop := ∃ A c, e = .returned (.tuple #[.slice A L.length c, .bool b]) ∧ OwnSS w' w.heap.size A L ∧ Below w.heap.size w w'
theorem own_noneS (w : World) (B : Nat) : OwnSS w B none [] := .inl ⟨rfl, rfl⟩

end Go.Proofs.YtgccidkkfalaeaaGreatDoor
