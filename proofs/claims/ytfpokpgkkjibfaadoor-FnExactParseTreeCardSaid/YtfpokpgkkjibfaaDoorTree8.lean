/- Marking a tree: what is kept. -/
import Derived.Test.YtfpokpgkkjibfaaDoorTree7
namespace Go.Proofs.YtfpokpgkkjibfaaDoor
open Go.ChangeShapes Go.WideShapes Go.ChangeAt Go.RowKit

/-- All old blocks but p and q are as they were. -/
structure KeptBut (w w' : World) (p q : Nat) : Prop where
  os : w'.os = w.os
  tape : w'.tape = w.tape
  output : w'.output = w.output
  size : w.heap.size ≤ w'.heap.size
  block : ∀ k, k < w.heap.size → k ≠ p → k ≠ q → w'.heap[k]? = w.heap[k]?
section
variable {w w' : World} {p q : Nat}
theorem KeptBut.cell (h : KeptBut w w' p q) {a : Addr} {v : Value} (hc : w.cell? a = some v) (hp : a.block ≠ p) (hq : a.block ≠ q) : w'.cell? a = some v :=
  (World.cell?_of_block (h.block a.block (World.block_lt_of_cell? w a hc) hp hq)).trans hc
theorem KeptBut.row (h : KeptBut w w' p q) {g : Nat} {xs : List Int} (hr : Row w g xs) (hp : g ≠ p) (hq : g ≠ q) : Row w' g xs := hr.of_block (h.block g hr.lt hp hq)
theorem KeptBut.below (h : KeptBut w w' p q) {u : World} (hb : Below u.heap.size u w) (hp : u.heap.size ≤ p) (hq : u.heap.size ≤ q) : Below u.heap.size u w' :=
  hb.trans ⟨h.os, h.tape, h.output, h.size, fun k hk => h.block k (Nat.lt_of_lt_of_le hk hb.size) (by omega) (by omega)⟩
theorem KeptBut.own (h : KeptBut w w' p q) {B : Nat} {A : Option Addr} {xs : List Int} (ho : OwnS w B A xs) (hp : p < B) (hq : q < B) : OwnS w' B A xs := by
  rcases ho with ho | ⟨g, h1, h2, h3⟩
  · exact .inl ho
  · exact .inr ⟨g, h1, h2, h.row h3 (by omega) (by omega)⟩
end
theorem keptBut_of {w w1 w2 : World} {p q : Nat} (h1 : w.grownBy w1 (some p)) (h2 : w1.grownBy w2 (some q)) : KeptBut w w2 p q :=
  ⟨h2.os.trans h1.os, h2.tape.trans h1.tape, h2.output.trans h1.output, Nat.le_trans h1.size h2.size, fun k hk hp hq =>
    (h2.block k (Nat.lt_of_lt_of_le hk h1.size) (fun e => hq (by injection e))).trans (h1.block k hk (fun e => hp (by injection e)))⟩
theorem KeptBut.pre {w w1 w2 : World} {p q : Nat} (hb : Below w.heap.size w w1) (h : KeptBut w1 w2 p q) : KeptBut w w2 p q :=
  ⟨h.os.trans hb.os, h.tape.trans hb.tape, h.output.trans hb.output, Nat.le_trans hb.size h.size, fun k hk hp hq =>
    (h.block k (Nat.lt_of_lt_of_le hk hb.size) hp hq).trans (hb.block k hk)⟩

set_option maxHeartbeats 1000000 in
theorem markTree_any (p q c e : Nat) (xs ys : List Int) (w : World) (h : Row w p xs) (k : Row w q ys) (hpq : p ≠ q) (hn : xs.length ≤ 1048576) (hm : ys.length ≤ 1048576) :
    Calls Tryd.prog 27 #[.agg #[.slice (some ⟨p, 0, none⟩) xs.length c, .slice (some ⟨q, 0, none⟩) ys.length e], .int .i64 1] w fun e1 w' => e1 = .returned (.int .i64 (1 + xs.length + ys.length)) ∧ KeptBut w w' p q := by
  have hp := h.lt
  have hq := k.lt
  go_enter Tryd.func27, Tryd.ntmps27
  go_wp2_with fail
  refine (markIntS_row p c xs 1 _ (h.alloc _) (by omega) (by omega) (by omega)).mono ?_
  rintro e1 w1 ⟨rfl, hr1, hg1⟩
  have hx0 : w1.cell? ⟨w.heap.size, 0, none⟩ = some (.slice (some ⟨p, 0, none⟩) xs.length c) := grown_cell hg1 (cell_new _ _ _ _ _ rfl) (by simp; omega)
  have hx1 : w1.cell? ⟨w.heap.size, 1, none⟩ = some (.slice (some ⟨q, 0, none⟩) ys.length e) := grown_cell hg1 (cell_new _ _ _ _ _ rfl) (by simp; omega)
  have hk1 : Row w1 q ys := (k.alloc _).grown hg1 (by simp; omega)
  go_wp2_with fail
  refine (markIntS_row q e ys _ _ hk1 (by omega) (by omega) (by omega)).mono ?_
  rintro e1 w2 ⟨rfl, hr2, hg2⟩
  go_wp2
  go_ret
  exact ⟨rfl, KeptBut.pre ((Below.refl _ _).alloc (Nat.le_refl _) _) (keptBut_of hg1 hg2)⟩

/-- A call that hands back a new list and whether there is one. -/
def RetIB (w : World) (xs : List Int) (r : Bool) (e : Ending) (w' : World) : Prop := ∃ A c, e = .returned (.tuple #[.slice A xs.length c, .bool r]) ∧ OwnS w' w.heap.size A xs ∧ Below w.heap.size w w'

/-- markIntS at a slice of the program's own. -/
theorem markIntS_own (A : Option Addr) (c : Nat) (xs : List Int) (s : Int) (w : World) (B : Nat) (h : OwnS w B A xs) (hn : xs.length ≤ 2000000) (h0 : 0 ≤ s) (h1 : s ≤ 100000000) :
    Calls Tryd.prog 69 #[.slice A xs.length c, .int .i64 s] w fun e w' => e = .returned (.int .i64 (s + xs.length)) ∧ OwnS w' B A (marks s xs.length) ∧ ∃ g, B ≤ g ∧ KeptBut w w' g g := by
  rcases h with ⟨rfl, rfl⟩ | ⟨g, rfl, hB, hr⟩
  · go_enter Tryd.func69, Tryd.ntmps69
    go_wp2
    refine wp_loop_rounds 1 ?_
    rw [rounds_succ]
    go_wp2
    go_ret
    exact ⟨by simp, .inl ⟨rfl, rfl⟩, B, Nat.le_refl _, rfl, rfl, rfl, Nat.le_refl _, fun _ _ _ _ => rfl⟩
  · refine (markIntS_row g c xs s w hr hn h0 h1).mono fun e w' ⟨he, hr', hg⟩ => ⟨he, .inr ⟨g, rfl, hB, hr'⟩, g, hB, hg.os, hg.tape, hg.output, hg.size, fun k hk hp _ => hg.block k hk (fun e => hp (by injection e))⟩

/-- A slice's place that the program itself has made: nil, or the head of a block below U. -/
def OwnU (w : World) (U : Nat) (A : Option Addr) (xs : List Int) : Prop := (A = none ∧ xs = []) ∨ ∃ g, A = some ⟨g, 0, none⟩ ∧ g < U ∧ Row w g xs
theorem OwnS.upper {w : World} {B : Nat} {A : Option Addr} {xs : List Int} (h : OwnS w B A xs) : OwnU w w.heap.size A xs := by
  rcases h with h | ⟨g, h1, _, h3⟩
  · exact .inl h
  · exact .inr ⟨g, h1, h3.lt, h3⟩
theorem OwnU.below {w w' : World} {U : Nat} {A : Option Addr} {xs : List Int} (h : OwnU w U A xs) (hb : Below w.heap.size w w') : OwnU w' U A xs := by
  rcases h with h | ⟨g, h1, h2, h3⟩
  · exact .inl h
  · exact .inr ⟨g, h1, h2, h3.below hb⟩
theorem OwnU.ints {w : World} {U : Nat} {A : Option Addr} {xs : List Int} (h : OwnU w U A xs) : IntS w A xs := by
  rcases h with ⟨_, rfl⟩ | ⟨g, rfl, _, h3⟩
  · intro h; simp at h
  · exact h3.ints
theorem KeptBut.ownU {w w' : World} {p q U : Nat} (h : KeptBut w w' p q) {A : Option Addr} {xs : List Int} (ho : OwnU w U A xs) (hp : U ≤ p) (hq : U ≤ q) : OwnU w' U A xs := by
  rcases ho with ho | ⟨g, h1, h2, h3⟩
  · exact .inl ho
  · exact .inr ⟨g, h1, h2, h.row h3 (by omega) (by omega)⟩
theorem kept_of_grown {w w' : World} {g : Nat} (h : w.grownBy w' (some g)) : KeptBut w w' g g :=
  ⟨h.os, h.tape, h.output, h.size, fun k hk hp _ => h.block k hk (fun e => hp (by injection e))⟩
theorem below_alloc {W w1 : World} {o : Obj} (h : Below (W.alloc o).heap.size (W.alloc o) w1) : Below W.heap.size W w1 :=
  ((Below.refl _ _).alloc (Nat.le_refl _) o).trans (h.mono (by simp))
theorem keep_below_alloc {w W : World} (h : Below w.heap.size w W) (o : Obj) : Below w.heap.size w (W.alloc o) := h.alloc h.size o
theorem below_of_alloc {W w1 : World} {o : Obj} (h : w1 = W.alloc o) : Below W.heap.size W w1 := by rw [h]; exact (Below.refl _ _).alloc (Nat.le_refl _) o
theorem toIntS_any (A : Option Addr) (c : Nat) (xs : List Int) (w : World) (h : IntS w A xs) (hn : xs.length ≤ 1048576) :
    Calls Tryd.prog 74 #[.slice A xs.length c] w fun e w' => e = .returned (.slice (some ⟨w.heap.size, 0, none⟩) xs.length xs.length) ∧ Row w' w.heap.size xs ∧ Below w.heap.size w w' :=
  (toIntS_exact A c xs w h hn).mono fun _ _ ⟨he, hw⟩ => ⟨he, by rw [hw]; exact Row.new _ _, below_of_alloc hw⟩
theorem below_of_drewN {W w1 : World} {n : Nat} (h : w1 = W.drewN n) : Below W.heap.size W w1 := by rw [h]; exact Below.drewN' (Below.refl _ _) n
end Go.Proofs.YtfpokpgkkjibfaaDoor
