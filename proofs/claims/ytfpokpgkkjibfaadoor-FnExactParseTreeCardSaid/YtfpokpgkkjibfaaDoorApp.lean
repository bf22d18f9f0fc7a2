/- append to an own slice: the elder elements stay where they lie (as a step of a region that draws its order, too). -/
import Derived.Test.YtfpokpgkkjibfaaDoorSums2
import Derived.Deep.AppendLies
import Derived.Deep.RegionHeld3
import Derived.ArgAppend
import Derived.Laws.IdiomCopy
import Derived.StillTailTactics
namespace Go.Proofs.YtfpokpgkkjibfaaDoor
open Go.ChangeShapes Go.WideShapes Go.ChangeAt Go.RowKit

/-- A list, filled up with zeros to n. -/
def padZ (L : List Int) (n : Nat) : List Int := L ++ List.replicate (n - L.length) 0
theorem padZ_set (L : List Int) (n : Nat) (v : Int) (h : L.length < n) : (padZ L n).set L.length v = padZ (L ++ [v]) n := by
  unfold padZ
  have e : n - L.length = (n - (L ++ [v]).length) + 1 := by simp; omega
  rw [e, List.replicate_succ, List.set_append_right _ _ (Nat.le_refl _)]
  simp
theorem padZ_nth (L : List Int) (n j : Nat) (hj : j < L.length) : nth (padZ L n) j = nth L j := nth_app_lt hj
theorem padZ_len (L : List Int) (n : Nat) (h : L.length ≤ n) : (padZ L n).length = n := by simp [padZ]; omega
theorem padZ_nil (n : Nat) : padZ [] n = List.replicate n 0 := by simp [padZ]
theorem padZ_one (n : Nat) (h : 1 ≤ n) : padZ [0] n = List.replicate n 0 := by
  unfold padZ
  have e : n = (n - 1) + 1 := by omega
  conv => rhs; rw [e, List.replicate_succ]
  rfl
theorem padZ_all (L : List Int) (n : Nat) (h : L.length = n) : padZ L n = L := by subst h; simp [padZ]
theorem mem_nth {L : List Int} {v : Int} (h : v ∈ L) : ∃ j, j < L.length ∧ nth L j = v := by
  obtain ⟨j, hj, he⟩ := List.getElem_of_mem h
  exact ⟨j, hj, by simp [nth, List.getD, hj, he]⟩
theorem nth_mem {L : List Int} {j : Nat} (h : j < L.length) : nth L j ∈ L := by
  have : nth L j = L[j] := by simp [nth, List.getD, h]
  rw [this]; exact List.getElem_mem h
/-- What holds S' everywhere on holds S. -/
theorem wpAnyH_mono {P : Program} {md : Region.Mode} {ops : Array Oper} {Q : Exit → Act → World → Prop} {S S' : World → Prop} (hS : ∀ w, S' w → S w) :
    ∀ (fuel : Nat) (listed : Array Bool) (a : Act) (w : World), wpAnyH P md ops Q S' fuel listed a w → wpAnyH P md ops Q S fuel listed a w
  | 0, _, _, _, h => h
  | fuel + 1, _, _, _, h => ⟨h.1, fun i hi => wpOp_mono (fun a' w' h' => ⟨hS _ h'.1, wpAnyH_mono hS fuel _ a' w' h'.2⟩) (h.2 i hi)⟩
theorem KeptBut.refl2 (w : World) (p : Nat) : KeptBut w w p p := ⟨rfl, rfl, rfl, Nat.le_refl _, fun _ _ _ _ => rfl⟩
theorem KeptBut.post {w W w1 : World} {p : Nat} (h : KeptBut w W p p) (hb : Below W.heap.size W w1) : KeptBut w w1 p p :=
  ⟨hb.os.trans h.os, hb.tape.trans h.tape, hb.output.trans h.output, Nat.le_trans h.size hb.size, fun k hk hp hq => (hb.block k (Nat.lt_of_lt_of_le hk h.size)).trans (h.block k hk hp hq)⟩
theorem KeptBut.trans2 {w W w1 : World} {p : Nat} (h : KeptBut w W p p) (hb : KeptBut W w1 p p) : KeptBut w w1 p p :=
  ⟨hb.os.trans h.os, hb.tape.trans h.tape, hb.output.trans h.output, Nat.le_trans h.size hb.size, fun k hk hp hq => (hb.block k (Nat.lt_of_lt_of_le hk h.size) hp hq).trans (h.block k hk hp hq)⟩
theorem keep_froz2 {W w1 : World} {p : Addr} {v : Value} (hb : Below W.heap.size W w1) (h : W.cell? p = some v) (hf : W.frozen? p = false) : w1.frozen? p = false := by
  rw [hb.frozen (World.block_lt_of_cell? W p h)]; exact hf
theorem KeptBut.setg {w wr : World} {g : Nat} (h : KeptBut w wr g g) (i : Nat) (v : Value) : KeptBut w (wr.setCell ⟨g, i, none⟩ v) g g :=
  ⟨h.os, h.tape, h.output, by simpa [World.setCell] using h.size, fun k hk hp _ => by
    rw [Below.heap_setCell _ _ _ _ (by intro e; exact hp (by rw [e]))]; exact h.block k hk hp hp⟩
theorem KeptBut.drew {w wr : World} {p q : Nat} (h : KeptBut w wr p q) : KeptBut w wr.drew p q := ⟨h.os, h.tape, h.output, h.size, h.block⟩
theorem keep_below_dr {w W w1 : World} (hb : Below W.heap.size W w1) (h : Below w.heap.size w W.drew) : Below w.heap.size w w1 :=
  keep_below hb (⟨h.os, h.tape, h.output, h.size, h.block⟩ : Below w.heap.size w W)
theorem alloc3 (w : World) (a b c d : Value) (t1 t2 : TypeId) (o : Obj) {g : Nat} (hg : g = w.heap.size + 1) :
    (((w.alloc (.cells #[a, b] t1)).alloc (.cells #[c, d] t2)).alloc o).cell? ⟨w.heap.size, 0, none⟩ = some a ∧ (((w.alloc (.cells #[a, b] t1)).alloc (.cells #[c, d] t2)).alloc o).cell? ⟨w.heap.size, 1, none⟩ = some b ∧
    (((w.alloc (.cells #[a, b] t1)).alloc (.cells #[c, d] t2)).alloc o).cell? ⟨g, 0, none⟩ = some c ∧ (((w.alloc (.cells #[a, b] t1)).alloc (.cells #[c, d] t2)).alloc o).cell? ⟨g, 1, none⟩ = some d ∧
    (((w.alloc (.cells #[a, b] t1)).alloc (.cells #[c, d] t2)).alloc o).frozen? ⟨g, 0, none⟩ = false ∧ (((w.alloc (.cells #[a, b] t1)).alloc (.cells #[c, d] t2)).alloc o).frozen? ⟨g, 1, none⟩ = false := by
  subst hg
  have k1 : ∀ (W : World) (o : Obj), Below W.heap.size W (W.alloc o) := fun W o => (Below.refl _ _).alloc (Nat.le_refl _) o
  have e : w.heap.size + 1 = (w.alloc (.cells #[a, b] t1)).heap.size := by simp
  have c0 : ((w.alloc (.cells #[a, b] t1)).alloc (.cells #[c, d] t2)).cell? ⟨w.heap.size + 1, 0, none⟩ = some c := cell_new _ _ _ _ _ e
  have c1 : ((w.alloc (.cells #[a, b] t1)).alloc (.cells #[c, d] t2)).cell? ⟨w.heap.size + 1, 1, none⟩ = some d := cell_new _ _ _ _ _ e
  exact ⟨keep_cell (k1 _ _) (keep_cell (k1 _ _) (cell_new w _ _ 0 _ rfl)), keep_cell (k1 _ _) (keep_cell (k1 _ _) (cell_new w _ _ 1 _ rfl)), keep_cell (k1 _ _) c0, keep_cell (k1 _ _) c1,
    keep_froz2 (k1 _ _) c0 (frozen_new _ _ _ _ _ e), keep_froz2 (k1 _ _) c1 (frozen_new _ _ _ _ _ e)⟩
end Go.Proofs.YtfpokpgkkjibfaaDoor
