/- The law's marks in a tree that a call hands back. -/
import Derived.Test.YtfpokpgkkjibfaaDoorRetT
namespace Go.Proofs.YtfpokpgkkjibfaaDoor
open Go.ChangeShapes Go.WideShapes Go.ChangeAt Go.RowKit

/-- All old blocks but the one that A heads are as they were. -/
structure KeptA (w w' : World) (A : Option Addr) : Prop where
  os : w'.os = w.os
  tape : w'.tape = w.tape
  output : w'.output = w.output
  size : w.heap.size ≤ w'.heap.size
  block : ∀ g, g < w.heap.size → A ≠ some ⟨g, 0, none⟩ → w'.heap[g]? = w.heap[g]?
section
variable {w w' : World} {A : Option Addr}
theorem KeptA.own (h : KeptA w w' A) {B : Nat} {A' : Option Addr} {ys : List Int} (ho : OwnS w B A' ys) (hne : ∀ g g' : Nat, A = some ⟨g, 0, none⟩ → A' = some ⟨g', 0, none⟩ → g ≠ g') : OwnS w' B A' ys := by
  rcases ho with ho | ⟨g, h1, h2, h3⟩
  · exact .inl ho
  · exact .inr ⟨g, h1, h2, h3.of_block (h.block g h3.lt fun e => hne g g e h1 rfl)⟩
theorem KeptA.cell (h : KeptA w w' A) {p : Addr} {v : Value} (hc : w.cell? p = some v) (hne : A ≠ some ⟨p.block, 0, none⟩) : w'.cell? p = some v :=
  (World.cell?_of_block (h.block p.block (World.block_lt_of_cell? w p hc) hne)).trans hc
theorem KeptA.below (h : KeptA w w' A) {u : World} (hb : Below u.heap.size u w) (hne : ∀ g, g < u.heap.size → A ≠ some ⟨g, 0, none⟩) : Below u.heap.size u w' :=
  hb.trans ⟨h.os, h.tape, h.output, h.size, fun k hk => h.block k (Nat.lt_of_lt_of_le hk hb.size) (hne k hk)⟩
theorem own_farA {B g : Nat} {xs : List Int} (h : OwnS w B A xs) (hg : g < B) : A ≠ some ⟨g, 0, none⟩ := by
  rcases h with ⟨rfl, _⟩ | ⟨g', rfl, h2, _⟩
  · simp
  · intro e; injection e with e; injection e with e; omega
end
theorem own_ltA {w : World} {A : Option Addr} {B g : Nat} {xs : List Int} (h : OwnS w B A xs) (hg : w.heap.size ≤ g) : A ≠ some ⟨g, 0, none⟩ := by
  rcases h with ⟨rfl, _⟩ | ⟨g', rfl, _, hr⟩
  · simp
  · intro e; injection e with e; injection e with e; have := hr.lt; omega
theorem own_apartA {w w1 : World} {A A' : Option Addr} {B B' : Nat} {xs ys : List Int} (h : OwnS w B A xs) (k : OwnS w1 B' A' ys) (hB : w1.heap.size ≤ B) : ∀ g g' : Nat, A = some ⟨g, 0, none⟩ → A' = some ⟨g', 0, none⟩ → g ≠ g' := by
  intro g g' e1 e2 e
  rcases h with ⟨rfl, _⟩ | ⟨h, rfl, hh, _⟩
  · cases e1
  · cases e1
    exact own_ltA k (Nat.le_trans hB (by omega)) e2
theorem markIntS_keptA (A : Option Addr) (c : Nat) (xs : List Int) (s : Int) (w : World) (B : Nat) (h : OwnS w B A xs) (hn : xs.length ≤ 2000000) (h0 : 0 ≤ s) (h1 : s ≤ 100000000) :
    Calls Tryd.prog 69 #[.slice A xs.length c, .int .i64 s] w fun e w' => e = .returned (.int .i64 (s + xs.length)) ∧ OwnS w' B A (marks s xs.length) ∧ KeptA w w' A := by
  rcases h with ⟨rfl, rfl⟩ | ⟨g, rfl, hB, hr⟩
  · go_enter Tryd.func69, Tryd.ntmps69
    go_wp2
    refine wp_loop_rounds 1 ?_
    rw [rounds_succ]
    go_wp2
    go_ret
    exact ⟨by simp, .inl ⟨rfl, rfl⟩, rfl, rfl, rfl, Nat.le_refl _, fun _ _ _ => rfl⟩
  · refine (markIntS_row g c xs s w hr hn h0 h1).mono fun e w' ⟨he, hr', hg⟩ => ⟨he, .inr ⟨g, rfl, hB, hr'⟩, hg.os, hg.tape, hg.output, hg.size, fun k hk hp => hg.block k hk (fun e => hp (by injection e with e; rw [e]))⟩
theorem KeptA.blk {w w1 w2 : World} {A A' : Option Addr} (h : KeptA w w1 A) (k : KeptA w1 w2 A') {g : Nat} {a b : Value} (hb : BlkT w g a b) (h1 : A ≠ some ⟨g, 0, none⟩) (h2 : A' ≠ some ⟨g, 0, none⟩) : BlkT w2 g a b :=
  ((k.block g (Nat.lt_of_lt_of_le hb.lt h.size) h2).trans (h.block g hb.lt h1)).trans hb
theorem KeptA.both {w w1 w2 : World} {A A' : Option Addr} (h : KeptA w w1 A) (k : KeptA w1 w2 A') {g : Nat} (hg : g < w.heap.size) (h1 : A ≠ some ⟨g, 0, none⟩) (h2 : A' ≠ some ⟨g, 0, none⟩) : w2.heap[g]? = w.heap[g]? :=
  (k.block g (Nat.lt_of_lt_of_le hg h.size) h2).trans (h.block g hg h1)
set_option maxHeartbeats 1000000 in
theorem markTree_own (A A' : Option Addr) (c c' : Nat) (xs ys : List Int) (w : World) (B : Nat) (hB : B ≤ w.heap.size) (h : OwnS w B A xs) (k : OwnS w B A' ys) (hap : ∀ g g' : Nat, A = some ⟨g, 0, none⟩ → A' = some ⟨g', 0, none⟩ → g ≠ g') (hn : xs.length ≤ 1048576) (hm : ys.length ≤ 1048576) :
    Calls Tryd.prog 27 #[.agg #[.slice A xs.length c, .slice A' ys.length c'], .int .i64 1] w fun e w' => e = .returned (.int .i64 (1 + xs.length + ys.length)) ∧ OwnS w' B A (marks 1 xs.length) ∧ OwnS w' B A' (marks (1 + xs.length) ys.length) ∧ ∃ w1, KeptA w w1 A ∧ KeptA w1 w' A' := by
  have hbA : Below w.heap.size w (w.alloc (.cells #[.slice A xs.length c, .slice A' ys.length c'] 34)) := (Below.refl _ _).alloc (Nat.le_refl _) _
  have h2 := h.below hbA
  have k2 := k.below hbA
  have hfA : A ≠ some ⟨w.heap.size, 0, none⟩ := by
    rcases h with ⟨rfl, _⟩ | ⟨g, rfl, _, hr⟩
    · simp
    · intro e; injection e with e; injection e with e; have := hr.lt; omega
  have hM := Lib.hid (fun W (h : OwnS W B A xs) => markIntS_keptA A c xs 1 W B h (by omega) (by omega) (by omega))
  have hM2 := Lib.hid (fun W (h : OwnS W B A' ys) => markIntS_keptA A' c' ys (1 + xs.length) W B h (by omega) (by omega) (by omega))
  have hapm : ∀ g g' : Nat, A' = some ⟨g, 0, none⟩ → A = some ⟨g', 0, none⟩ → g ≠ g' := fun g g' e1 e2 e => hap g' g e2 e1 e.symm
  clear h k hB
  go_enter Tryd.func27, Tryd.ntmps27
  go_wp2_with fail
  refine (hM.out _ h2).mono ?_
  rintro e1 w1 ⟨rfl, ho1, hk1⟩
  have hx0 : w1.cell? ⟨w.heap.size, 0, none⟩ = some (.slice A xs.length c) := hk1.cell (cell_new _ _ _ _ _ rfl) hfA
  have hx1 : w1.cell? ⟨w.heap.size, 1, none⟩ = some (.slice A' ys.length c') := hk1.cell (cell_new _ _ _ _ _ rfl) hfA
  have k3 := hk1.own k2 hap
  clear h2 k2 hM
  go_wp2_with fail
  refine (hM2.out _ k3).mono ?_
  rintro e1 w2 ⟨rfl, ho2, hk2⟩
  have ho3 := hk2.own ho1 hapm
  clear ho1 k3
  go_wp2
  go_ret
  exact ⟨rfl, ho3, ho2, w1, ⟨hk1.os.trans hbA.os, hk1.tape.trans hbA.tape, hk1.output.trans hbA.output, Nat.le_trans hbA.size hk1.size, fun g hg hne => (hk1.block g (Nat.lt_of_lt_of_le hg hbA.size) hne).trans (hbA.block g hg)⟩, hk2⟩
set_option maxHeartbeats 1000000 in
theorem heldTree_any (A A' : Option Addr) (c c' n m : Nat) (w : World) (h : IntS w A (marks 1 n)) (k : IntS w A' (marks (1 + n) m)) (hn : n ≤ 1048576) (hm : m ≤ 1048576) :
    Calls Tryd.prog 28 #[.agg #[.slice A n c, .slice A' m c'], .int .i64 1] w fun e w' => e = .returned (.int .i64 (1 + n + m)) ∧ Below w.heap.size w w' := by
  have hbA : Below w.heap.size w (w.alloc (.cells #[.slice A n c, .slice A' m c'] 34)) := (Below.refl _ _).alloc (Nat.le_refl _) _
  have h2 := h.below hbA
  have k2 := k.below hbA
  have hM := Lib.hid (fun W (h : IntS W A (marks 1 n)) => heldIntS_any A c n 1 W h (by omega) (by omega) (by omega))
  have hM2 := Lib.hid (fun W (h : IntS W A' (marks (1 + n) m)) => heldIntS_any A' c' m (1 + n) W h (by omega) (by omega) (by omega))
  clear h k
  go_enter Tryd.func28, Tryd.ntmps28
  go_wp2_with fail
  refine (hM.out _ h2).mono ?_
  rintro e1 w1 ⟨rfl, rfl⟩
  go_wp2_with fail
  refine (hM2.out _ k2).mono ?_
  rintro e1 w2 ⟨rfl, rfl⟩
  go_wp2
  go_ret
  exact ⟨rfl, hbA⟩
end Go.Proofs.YtfpokpgkkjibfaaDoor
