/- Contracts: the reference's draws of fractions. -/
import Derived.Test.YtgccidkkfalaeaaGreatDoorMgTr13
import Derived.Test.YtgccidkkfalaeaaGreatDoorMgTr6
namespace Go.Proofs.YtgccidkkfalaeaaGreatDoor
open Go.ChangeShapes Go.WideShapes Go.ChangeAt Go.RowKit

section
variable {w W W' : World} {g gR n cc m m' : Nat} {C : Option Addr}
theorem CurB.lt (h : CurB W g C n cc m) : g < W.heap.size := by
  obtain ⟨k, sd, h, _⟩ := h
  rcases Nat.lt_or_ge g W.heap.size with hlt | hge
  · exact hlt
  · rw [Array.getElem?_eq_none hge] at h; cases h
theorem CurB.below (h : CurB W g C n cc m) (hb : Below W.heap.size W W') : CurB W' g C n cc m := by
  have hl := h.lt
  obtain ⟨k, sd, h, h2⟩ := h
  exact ⟨k, sd, (hb.block g hl).trans h, h2⟩
theorem CurB.far (h : CurB W g C n cc m) {q : Nat} (hq : g ≠ q) (i : Nat) (v : Value) : CurB (W.setCell ⟨q, i, none⟩ v) g C n cc m := by
  obtain ⟨k, sd, h, h2⟩ := h
  exact ⟨k, sd, (Below.heap_setCell _ _ _ _ hq).trans h, h2⟩
theorem CurB.mono (h : CurB W g C n cc m) (hm : m ≤ m') : CurB W g C n cc m' := by
  obtain ⟨k, sd, h, h1, h2⟩ := h
  exact ⟨k, sd, h, by omega, h2⟩
theorem kept_below (h : KeptBut w W g g) (hb : Below W.heap.size W W') : KeptBut w W' g g :=
  h.trans2 ⟨hb.os, hb.tape, hb.output, hb.size, fun k hk _ _ => hb.block k hk⟩
theorem kept_set (h : KeptBut w W g g) {q : Nat} (hq : w.heap.size ≤ q) (i : Nat) (v : Value) : KeptBut w (W.setCell ⟨q, i, none⟩ v) g g := by
  refine ⟨h.os, h.tape, h.output, by simpa using h.size, fun k hk h1 h2 => ?_⟩
  exact (Below.heap_setCell _ _ _ _ (by show k ≠ q; omega)).trans (h.block k hk h1 h2)
/-- A function that draws, under way: its result lies in block gR. -/
def St (w W : World) (g : Nat) (C : Option Addr) (n cc m gR : Nat) : Prop := CurB W g C n cc m ∧ Byt W C n ∧ KeptBut w W g g ∧ W.heap[gR]? = some (.cells #[.int .i64 0, .int .i64 0] 41 (0, 0))
theorem St.draw (h : St w W g C n cc m gR) (hd : Drew W g C n cc m' W') (hne : ∀ b o, 0 < n → C = some ⟨b, o, none⟩ → b ≠ g) (hg : gR ≠ g) : St w W' g C n cc m' gR := by
  obtain ⟨h1, h2, h3, h4⟩ := h
  have hl : gR < W.heap.size := by
    rcases Nat.lt_or_ge gR W.heap.size with hlt | hge
    · exact hlt
    · rw [Array.getElem?_eq_none hge] at h4; cases h4
  exact ⟨hd.1, h2.kept hd.2 hne, h3.trans2 hd.2, (hd.2.block gR hl hg hg).trans h4⟩
theorem St.below (h : St w W g C n cc m gR) (hb : Below W.heap.size W W') : St w W' g C n cc m gR := by
  obtain ⟨h1, h2, h3, h4⟩ := h
  have hl : gR < W.heap.size := by
    rcases Nat.lt_or_ge gR W.heap.size with hlt | hge
    · exact hlt
    · rw [Array.getElem?_eq_none hge] at h4; cases h4
  exact ⟨h1.below hb, h2.below hb, kept_below h3 hb, (hb.block gR hl).trans h4⟩
theorem St.c0 (h : St w W g C n cc m gR) : W.cell? ⟨gR, 0, none⟩ = some (.int .i64 0) := by rw [cell_of_row _ _ _ _ _ _ h.2.2.2]; rfl
theorem St.c1 (h : St w W g C n cc m gR) : W.cell? ⟨gR, 1, none⟩ = some (.int .i64 0) := by rw [cell_of_row _ _ _ _ _ _ h.2.2.2]; rfl
theorem St.free (h : St w W g C n cc m gR) (j : Nat) : W.frozen? ⟨gR, j, none⟩ = false := frozen_of_row _ _ _ _ _ h.2.2.2
theorem St.done (h : St w W g C n cc m gR) (hm : m ≤ m') (hg : gR ≠ g) (hR : w.heap.size ≤ gR) (a b : Value) : Drew w g C n cc m' ((W.setCell ⟨gR, 0, none⟩ a).setCell ⟨gR, 1, none⟩ b) :=
  ⟨((h.1.mono hm).far (fun e => hg e.symm) 0 a).far (fun e => hg e.symm) 1 b, kept_set (kept_set h.2.2.1 hR 0 a) hR 1 b⟩
end
theorem list_IntS (W : World) (xs : List Int) (_h : 1 ≤ xs.length) : IntS (W.alloc (.cells (i64s xs).toArray 3)) (some ⟨W.heap.size, 0, none⟩) xs := (RowX.new W xs rfl).row.ints
end Go.Proofs.YtgccidkkfalaeaaGreatDoor
/- Contracts: the reference's draws of lists. -/
namespace Go.Proofs.YtgccidkkfalaeaaGreatDoor
open Go.ChangeShapes Go.WideShapes Go.ChangeAt Go.RowKit

theorem Bd.app {L : List Int} {v : Int} (h : Bd L) (hv : -9223372036854775808 ≤ v ∧ v ≤ 9223372036854775807) : Bd (L ++ [v]) := fun j => by
  rcases Nat.lt_trichotomy j L.length with hj | hj | hj
  · rw [nth_app_lt hj]; exact h j
  · rw [hj, nth_app_eq]; exact hv
  · have : nth (L ++ [v]) j = 0 := by unfold nth; rw [List.getD_eq_getElem?_getD, List.getElem?_eq_none (by simp; omega)]; rfl
    rw [this]; exact ⟨by decide, by decide⟩
theorem Bd.set {L : List Int} {v : Int} {k : Nat} (h : Bd L) (hk : k < L.length) (hv : -9223372036854775808 ≤ v ∧ v ≤ 9223372036854775807) : Bd (L.set k v) := fun j => by
  rw [nth_set _ _ _ _ hk]; split
  · exact hv
  · exact h j
theorem Bd.nil : Bd [] := fun j => by simp [nth]
theorem own_head2 {w : World} {B : Nat} {v : Value} {xs : List Int} {n : Nat} (h : w.ownsRow B 3 1 v n (i64s xs)) (hn : 1 ≤ n) : ∃ g c, v = .slice (some ⟨g, 0, none⟩) n c ∧ B ≤ g ∧ Row w g xs := by
  have hl : xs.length = n := by have := h.1; simpa [i64s] using this
  obtain ⟨A, c, hv, hO⟩ := own_form h
  rcases hO with ⟨_, e⟩ | ⟨g, rfl, hg, hr⟩
  · rw [e] at hl; simp at hl; omega
  · exact ⟨g, c, by rw [hv, hl], hg, hr⟩
/-- A function that draws a list, under way: the list is v, its own. -/
def StL (w W : World) (g : Nat) (C : Option Addr) (n cc m : Nat) (v : Value) (L : List Int) : Prop :=
  CurB W g C n cc m ∧ Byt W C n ∧ KeptBut w W g g ∧ W.ownsRow w.heap.size 3 1 v L.length (i64s L) ∧ Bd L
section
variable {w W W' : World} {g n cc m m' : Nat} {C : Option Addr} {v v' : Value} {L : List Int}
theorem StL.ne (h : StL w W g C n cc m v L) (hg : g < w.heap.size) : v.ownBlock ≠ some g := own_ne h.2.2.2.1 hg
theorem StL.draw (h : StL w W g C n cc m v L) (hd : Drew W g C n cc m' W') (hne : ∀ b o, 0 < n → C = some ⟨b, o, none⟩ → b ≠ g) (hg : g < w.heap.size) : StL w W' g C n cc m' v L := by
  have hn := h.ne hg
  obtain ⟨h1, h2, h3, h4, h5⟩ := h
  refine ⟨hd.1, h2.kept hd.2 hne, h3.trans2 hd.2, ⟨h4.1, ?_⟩, h5⟩
  rcases h4.2 with hx | ⟨b, cap, cur, rfl, hb, hgg, rest⟩
  · exact .inl hx
  · have hbg : b ≠ g := fun e => hn (by simp [Value.ownBlock, e])
    exact .inr ⟨b, cap, cur, rfl, hb, (hd.2.block b (Array.getElem?_eq_some_iff.1 hgg).1 hbg hbg).trans hgg, rest⟩
theorem StL.below (h : StL w W g C n cc m v L) (hb : Below W.heap.size W W') : StL w W' g C n cc m v L :=
  ⟨h.1.below hb, h.2.1.below hb, kept_below h.2.2.1 hb, own_below h.2.2.2.1 hb, h.2.2.2.2⟩
theorem StL.mono (h : StL w W g C n cc m v L) (hm : m ≤ m') : StL w W g C n cc m' v L := ⟨h.1.mono hm, h.2⟩
theorem StL.grown {x : Int} (h : StL w W g C n cc m v L) (hg : g < w.heap.size) (hC : ∀ b o, 0 < n → C = some ⟨b, o, none⟩ → b < w.heap.size) (hb : W.grownBy W' v.ownBlock) (ho : W'.ownsRow w.heap.size 3 1 v' (L.length + 1) (i64s L ++ [.int .i64 x])) (hx : -9223372036854775808 ≤ x ∧ x ≤ 9223372036854775807) : StL w W' g C n cc m v' (L ++ [x]) := by
  have hn := h.ne hg
  obtain ⟨h1, h2, h3, h4, h5⟩ := h
  refine ⟨?_, ?_, ?_, ?_, h5.app hx⟩
  · have hl := h1.lt
    obtain ⟨k, sd, e, r⟩ := h1
    exact ⟨k, sd, (hb.block g hl (fun e => hn e.symm)).trans e, r⟩
  · intro j hj
    obtain ⟨b, o, u, e, hc, hu⟩ := h2 j hj
    exact ⟨b, o, u, e, grown_cell hb hc (own_ne h4 (hC b o (by omega) e)), hu⟩
  · exact ⟨hb.os.trans h3.os, hb.tape.trans h3.tape, hb.output.trans h3.output, Nat.le_trans h3.size hb.size, fun k hk a1 a2 => (hb.block k (Nat.lt_of_lt_of_le hk h3.size) (fun e => own_ne h4 hk e.symm)).trans (h3.block k hk a1 a2)⟩
  · rw [List.length_append, i64s_app]; exact ho
theorem StL.put {gO c k : Nat} {x : Int} (h : StL w W g C n cc m (.slice (some ⟨gO, 0, none⟩) L.length c) L) (hg : g < w.heap.size) (hC : ∀ b o, 0 < n → C = some ⟨b, o, none⟩ → b < w.heap.size) (hO : w.heap.size ≤ gO) (hk : k < L.length) (hx : -9223372036854775808 ≤ x ∧ x ≤ 9223372036854775807) : StL w (W.setCell ⟨gO, k, none⟩ (.int .i64 x)) g C n cc m (.slice (some ⟨gO, 0, none⟩) L.length c) (L.set k x) := by
  obtain ⟨h1, h2, h3, h4, h5⟩ := h
  refine ⟨h1.far (by omega) _ _, ?_, kept_set h3 hO _ _, ?_, h5.set hk hx⟩
  · intro j hj
    obtain ⟨b, o, u, e, hc, hu⟩ := h2 j hj
    have := hC b o (by omega) e
    exact ⟨b, o, u, e, cell_far hc (by simp; omega) _, hu⟩
  · have := (h4.stored k (.int .i64 x)).1
    rw [List.length_set]
    simpa [i64s, List.map_set] using this
end
end Go.Proofs.YtgccidkkfalaeaaGreatDoor
