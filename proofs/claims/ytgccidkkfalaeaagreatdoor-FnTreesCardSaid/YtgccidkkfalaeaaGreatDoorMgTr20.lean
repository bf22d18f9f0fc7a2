/- Contracts: the reference's draws of arguments for the laws of fractions. -/
import Derived.StillTailTactics
import Derived.Deep.DeepCutAuto
import Derived.Test.YtgccidkkfalaeaaGreatDoorMgTr18
import Derived.Test.YtgccidkkfalaeaaGreatDoorMgTr9
import Derived.Test.YtgccidkkfalaeaaGreatDoorMgTr1
import Derived.Test.YtgccidkkfalaeaaGreatDoorMgTr10
namespace Go.Proofs.YtgccidkkfalaeaaGreatDoor
open Go.ChangeShapes Go.WideShapes Go.ChangeAt Go.RowKit

theorem byt_lt {w : World} {C : Option Addr} {n b o : Nat} (h : Byt w C n) (hn : 0 < n) (e : C = some ⟨b, o, none⟩) : b < w.heap.size := by
  obtain ⟨b', o', v, e2, hc, _⟩ := h 0 hn
  rw [e] at e2; injection e2 with e2; injection e2 with e2 e3
  have := World.block_lt_of_cell? _ _ hc
  simp at this; omega
theorem cur_new (W : World) (C : Option Addr) (n cc : Nat) : CurB (W.alloc (.cells #[.slice C n cc, .int .i64 0, .int .u64 0] 48)) W.heap.size C n cc 0 :=
  ⟨0, 0, heap_alloc_new W _, Nat.le_refl _, by omega, by omega⟩
theorem pair_put {W : World} {g : Nat} {a b : Value} (u v : Value) (h0 : W.cell? ⟨g, 0, none⟩ = some a) (h1 : W.cell? ⟨g, 1, none⟩ = some b) :
    ((W.setCell ⟨g, 0, none⟩ u).setCell ⟨g, 1, none⟩ v).cell? ⟨g, 0, none⟩ = some u ∧ ((W.setCell ⟨g, 0, none⟩ u).setCell ⟨g, 1, none⟩ v).cell? ⟨g, 1, none⟩ = some v := by
  have e1 : (W.setCell ⟨g, 0, none⟩ u).cell? ⟨g, 1, none⟩ = some b := (World.cell?_setCell_other _ _ _ _ (by simp)).trans h1
  have e0 : (W.setCell ⟨g, 0, none⟩ u).cell? ⟨g, 0, none⟩ = some u := World.cell?_setCell_same _ _ _ h0
  exact ⟨(World.cell?_setCell_other _ _ _ _ (by simp)).trans e0, World.cell?_setCell_same _ _ _ e1⟩
/-- Block q is exactly a pair. -/
def PairB (W : World) (q : Nat) (a b : Int) : Prop := W.heap[q]? = some (.cells #[.int .i64 a, .int .i64 b] 41 (0, 0))
section
variable {W W' : World} {q g : Nat} {a b : Int}
theorem PairB.lt (h : PairB W q a b) : q < W.heap.size := by
  unfold PairB at h
  rcases Nat.lt_or_ge q W.heap.size with hlt | hge
  · exact hlt
  · rw [Array.getElem?_eq_none hge] at h; cases h
theorem PairB.kept (h : PairB W q a b) (hk : KeptBut W W' g g) (hq : q ≠ g) : PairB W' q a b := (hk.block q h.lt hq hq).trans h
theorem PairB.below (h : PairB W q a b) (hb : Below W.heap.size W W') : PairB W' q a b := (hb.block q h.lt).trans h
theorem PairB.c0 (h : PairB W q a b) : W.cell? ⟨q, 0, none⟩ = some (.int .i64 a) := by rw [cell_of_row _ _ _ _ _ _ h]; rfl
theorem PairB.c1 (h : PairB W q a b) : W.cell? ⟨q, 1, none⟩ = some (.int .i64 b) := by rw [cell_of_row _ _ _ _ _ _ h]; rfl
theorem PairB.free (h : PairB W q a b) (j : Nat) : W.frozen? ⟨q, j, none⟩ = false := frozen_of_row _ _ _ _ _ h
theorem PairB.far (h : PairB W q a b) {p : Nat} (hp : q ≠ p) (k : Nat) (v : Value) : PairB (W.setCell ⟨p, k, none⟩ v) q a b := (Below.heap_setCell _ _ _ _ hp).trans h
theorem PairB.put (h : PairB W q a b) (x y : Int) : PairB ((W.setCell ⟨q, 0, none⟩ (.int .i64 x)).setCell ⟨q, 1, none⟩ (.int .i64 y)) q x y := by
  have e1 := set_block h 0 (.int .i64 x)
  have e2 := set_block e1 1 (.int .i64 y)
  exact e2
end
theorem rBig_any (C : Option Addr) (n cc : Nat) (w : World) : Calls Tryz.prog 4 #[.slice C n cc] w fun e w' => e = .returned (.bool (decide (65536 < n))) ∧ w' = w := by
  have e : decide ((n : Int) > 65536) = decide (65536 < n) := decide_eq_decide.2 (by omega)
  go_enter Tryz.func4, Tryz.ntmps4
  go_wp2
  go_ret
  exact ⟨by simp [*], rfl⟩
end Go.Proofs.YtgccidkkfalaeaaGreatDoor
/- Contracts: the reference's draws of trees. -/
namespace Go.Proofs.YtgccidkkfalaeaaGreatDoor
open Go.ChangeShapes Go.WideShapes Go.ChangeAt Go.RowKit

/-- A function that draws, under way: its cursor, its bytes, its result's block. -/
structure Bas (w W : World) (g : Nat) (C : Option Addr) (n cc m : Nat) : Prop where
  cur : CurB W g C n cc m
  byt : Byt W C n
  kept : KeptBut w W g g
  res : BlkT W w.heap.size (.slice none 0 0) (.slice none 0 0)
section
variable {w W W' : World} {g n cc m m' gT : Nat} {C : Option Addr} {va vb v' : Value} {X Y : List Int}
theorem Bas.mono (h : Bas w W g C n cc m) (hm : m ≤ m') : Bas w W g C n cc m' := ⟨h.cur.mono hm, h.byt, h.kept, h.res⟩
theorem Bas.below (h : Bas w W g C n cc m) (hb : Below W.heap.size W W') : Bas w W' g C n cc m := ⟨h.cur.below hb, h.byt.below hb, kept_below h.kept hb, h.res.below hb⟩
theorem Bas.draw (h : Bas w W g C n cc m) (hd : Drew W g C n cc m' W') (hne : ∀ b o, 0 < n → C = some ⟨b, o, none⟩ → b ≠ g) (hg : g < w.heap.size) : Bas w W' g C n cc m' :=
  ⟨hd.1, h.byt.kept hd.2 hne, h.kept.trans2 hd.2, (hd.2.block _ h.res.lt (by omega) (by omega)).trans h.res⟩
theorem Bas.grown {row : Option Nat} (h : Bas w W g C n cc m) (hg : g < w.heap.size) (hC : ∀ b o, 0 < n → C = some ⟨b, o, none⟩ → b < w.heap.size) (hb : W.grownBy W' row) (hr : ∀ q, row = some q → w.heap.size + 1 ≤ q) : Bas w W' g C n cc m := by
  obtain ⟨h1, h2, h3, h4⟩ := h
  refine ⟨?_, ?_, ?_, ?_⟩
  · have hl := h1.lt
    obtain ⟨k, sd, e, r⟩ := h1
    exact ⟨k, sd, (hb.block g hl (fun e => by have := hr g e.symm; omega)).trans e, r⟩
  · intro j hj
    obtain ⟨b, o, u, e, hc, hu⟩ := h2 j hj
    have := hC b o (by omega) e
    exact ⟨b, o, u, e, grown_cell hb hc (fun e => by have := hr b e; omega), hu⟩
  · exact ⟨hb.os.trans h3.os, hb.tape.trans h3.tape, hb.output.trans h3.output, Nat.le_trans h3.size hb.size, fun k hk a1 a2 => (hb.block k (Nat.lt_of_lt_of_le hk h3.size) (fun e => by have := hr k e.symm; omega)).trans (h3.block k hk a1 a2)⟩
  · exact h4.grown hb (fun e => by have := hr _ e; omega)
theorem own_drew {B k : Nat} {v : Value} {xs : List Value} (h : W.ownsRow B 3 1 v k xs) (hd : KeptBut W W' g g) (hg : g < B) : W'.ownsRow B 3 1 v k xs := by
  refine ⟨h.1, ?_⟩
  rcases h.2 with hx | ⟨b, cap, cur, rfl, hb, hgg, rest⟩
  · exact .inl hx
  · have hbg : b ≠ g := by omega
    exact .inr ⟨b, cap, cur, rfl, hb, (hd.block b (Array.getElem?_eq_some_iff.1 hgg).1 hbg hbg).trans hgg, rest⟩
/-- The same, with the tree under construction in block gT. -/
structure StT (w W : World) (g : Nat) (C : Option Addr) (n cc m gT : Nat) (va vb : Value) (X Y : List Int) : Prop where
  bas : Bas w W g C n cc m
  two : Two W (w.heap.size + 1) gT va vb X.length Y.length X Y
  gt : w.heap.size + 1 ≤ gT
  bx : Bd X
  bz : Bd Y
theorem StT.mono (h : StT w W g C n cc m gT va vb X Y) (hm : m ≤ m') : StT w W g C n cc m' gT va vb X Y := ⟨h.bas.mono hm, h.two, h.gt, h.bx, h.bz⟩
theorem StT.below (h : StT w W g C n cc m gT va vb X Y) (hb : Below W.heap.size W W') : StT w W' g C n cc m gT va vb X Y := ⟨h.bas.below hb, h.two.below hb, h.gt, h.bx, h.bz⟩
theorem StT.draw (h : StT w W g C n cc m gT va vb X Y) (hd : Drew W g C n cc m' W') (hne : ∀ b o, 0 < n → C = some ⟨b, o, none⟩ → b ≠ g) (hg : g < w.heap.size) : StT w W' g C n cc m' gT va vb X Y := by
  have := h.gt
  exact ⟨h.bas.draw hd hne hg, ⟨(hd.2.block _ h.two.blk.lt (by omega) (by omega)).trans h.two.blk, own_drew h.two.own0 hd.2 (by omega), own_drew h.two.own1 hd.2 (by omega), h.two.ne0, h.two.ne1, h.two.ap⟩, h.gt, h.bx, h.bz⟩
theorem StT.put0 {o : Obj} {x : Int} (h : StT w W g C n cc m gT va vb X Y) (hg : g < w.heap.size) (hC : ∀ b o, 0 < n → C = some ⟨b, o, none⟩ → b < w.heap.size) (hgr : (W.alloc o).grownBy W' va.ownBlock) (hat : v'.ownBlock = va.ownBlock ∨ v'.ownBlock = some (W.alloc o).heap.size) (ho : W'.ownsRow (w.heap.size + 1) 3 1 v' (X.length + 1) (i64s X ++ [.int .i64 x])) (hx : -9223372036854775808 ≤ x ∧ x ≤ 9223372036854775807) :
    StT w (W'.setCell ⟨gT, 0, none⟩ v') g C n cc m gT v' vb (X ++ [x]) Y := by
  have hG := h.gt
  refine ⟨((h.bas.below ((Below.refl _ _).alloc (Nat.le_refl _) o)).grown hg hC hgr fun q e => (h.two.own0.lt q e).1).grown hg hC (grown_set1 _ _ _ _) fun q e => by injection e with e; omega, ?_, h.gt, h.bx.app hx, h.bz⟩
  rw [List.length_append]
  exact h.two.put0 hgr hat (by rw [i64s_app]; exact ho)
theorem StT.put1 {o : Obj} {x : Int} (h : StT w W g C n cc m gT va vb X Y) (hg : g < w.heap.size) (hC : ∀ b o, 0 < n → C = some ⟨b, o, none⟩ → b < w.heap.size) (hgr : (W.alloc o).grownBy W' vb.ownBlock) (hat : v'.ownBlock = vb.ownBlock ∨ v'.ownBlock = some (W.alloc o).heap.size) (ho : W'.ownsRow (w.heap.size + 1) 3 1 v' (Y.length + 1) (i64s Y ++ [.int .i64 x])) (hx : -9223372036854775808 ≤ x ∧ x ≤ 9223372036854775807) :
    StT w (W'.setCell ⟨gT, 1, none⟩ v') g C n cc m gT va v' X (Y ++ [x]) := by
  have hG := h.gt
  refine ⟨((h.bas.below ((Below.refl _ _).alloc (Nat.le_refl _) o)).grown hg hC hgr fun q e => (h.two.own1.lt q e).1).grown hg hC (grown_set1 _ _ _ _) fun q e => by injection e with e; omega, ?_, h.gt, h.bx, h.bz.app hx⟩
  rw [List.length_append]
  exact h.two.put1 hgr hat (by rw [i64s_app]; exact ho)
theorem StT.idx0 {gP c k : Nat} {x : Int} (h : StT w W g C n cc m gT (.slice (some ⟨gP, 0, none⟩) X.length c) vb X Y) (hg : g < w.heap.size) (hC : ∀ b o, 0 < n → C = some ⟨b, o, none⟩ → b < w.heap.size) (hk : k < X.length) (hx : -9223372036854775808 ≤ x ∧ x ≤ 9223372036854775807) :
    StT w (W.setCell ⟨gP, k, none⟩ (.int .i64 x)) g C n cc m gT (.slice (some ⟨gP, 0, none⟩) X.length c) vb (X.set k x) Y := by
  have hP := (h.two.own0.lt gP rfl).1
  have hn0 : gT ≠ gP := fun e => h.two.ne0 (by rw [e]; rfl)
  refine ⟨h.bas.grown hg hC (grown_set1 _ _ _ _) fun q e => by injection e with e; omega, ⟨h.two.blk.far hn0 _ _, ?_, own_keptv h.two.own1 (grown_set1 _ _ _ _) fun q e e2 => h.two.ap gP rfl (by rw [e2]; exact e), h.two.ne0, h.two.ne1, h.two.ap⟩, h.gt, h.bx.set hk hx, h.bz⟩
  have := (h.two.own0.stored k (.int .i64 x)).1
  rw [List.length_set]
  simpa [i64s, List.map_set] using this
theorem StT.idx1 {gP c k : Nat} {x : Int} (h : StT w W g C n cc m gT va (.slice (some ⟨gP, 0, none⟩) Y.length c) X Y) (hg : g < w.heap.size) (hC : ∀ b o, 0 < n → C = some ⟨b, o, none⟩ → b < w.heap.size) (hk : k < Y.length) (hx : -9223372036854775808 ≤ x ∧ x ≤ 9223372036854775807) :
    StT w (W.setCell ⟨gP, k, none⟩ (.int .i64 x)) g C n cc m gT va (.slice (some ⟨gP, 0, none⟩) Y.length c) X (Y.set k x) := by
  have hP := (h.two.own1.lt gP rfl).1
  have hn0 : gT ≠ gP := fun e => h.two.ne1 (by rw [e]; rfl)
  refine ⟨h.bas.grown hg hC (grown_set1 _ _ _ _) fun q e => by injection e with e; omega, ⟨h.two.blk.far hn0 _ _, own_keptv h.two.own0 (grown_set1 _ _ _ _) fun q e e2 => h.two.ap q e (by rw [← e2]; rfl), ?_, h.two.ne0, h.two.ne1, h.two.ap⟩, h.gt, h.bx, h.bz.set hk hx⟩
  have := (h.two.own1.stored k (.int .i64 x)).1
  rw [List.length_set]
  simpa [i64s, List.map_set] using this
theorem StT.ints (h : StT w W g C n cc m gT va vb X Y) : ∃ A c B d, va = .slice A X.length c ∧ vb = .slice B Y.length d ∧ IntS W A X ∧ IntS W B Y := by
  obtain ⟨A, c, B, d, h1, h2, h3, h4, _⟩ := h.two.forms
  exact ⟨A, c, B, d, h1, h2, h3.ints, h4.ints⟩
end
/-- A draw hands back a tree of new lists, apart. -/
def RetDr (w : World) (g : Nat) (C : Option Addr) (n cc m : Nat) (e : Ending) (w' : World) : Prop := ∃ (X Y : List Int) (A B : Option Addr) (c d : Nat), e = .returned (.agg #[.slice A X.length c, .slice B Y.length d]) ∧ OwnS w' w.heap.size A X ∧ OwnS w' w.heap.size B Y ∧ (∀ g g' : Nat, A = some ⟨g, 0, none⟩ → B = some ⟨g', 0, none⟩ → g ≠ g') ∧ X.length ≤ 25 ∧ Y.length ≤ 50 ∧ Bd X ∧ Bd Y ∧ Drew w g C n cc m w'
def lenAt (w : World) (g : Nat) : Nat := match w.cell? ⟨g, 0, none⟩ with
  | some (.slice _ n _) => n
  | _ => 0
theorem lenAt_of {w : World} {g k c : Nat} {A : Option Addr} (h : w.cell? ⟨g, 0, none⟩ = some (.slice A k c)) : lenAt w g = k := by unfold lenAt; rw [h]
theorem l1Least_any (a b : Int) (w : World) :
    Calls Tryz.prog 79 #[.int .i64 a, .int .i64 b] w fun e w' => e = .returned (.int .i64 (min a b)) ∧ w = w' := by
  by_cases h : a < b
  · have h2 : ¬ b < a := by omega
    go_enter Tryz.func79, Tryz.ntmps79
    go_wp2
    go_ret
    exact ⟨ret_int (by omega), rfl⟩
  · by_cases h2 : b < a
    · go_enter Tryz.func79, Tryz.ntmps79
      go_wp2
      go_ret
      exact ⟨ret_int (by omega), rfl⟩
    · have e : a = b := by omega
      subst e
      go_enter Tryz.func79, Tryz.ntmps79
      go_wp2
      go_ret
      exact ⟨ret_int (by omega), rfl⟩
set_option maxHeartbeats 8000000 in
set_option maxRecDepth 100000 in
theorem someTree_draw {g n cc m : Nat} {C : Option Addr} (q : Int) (w : World) (h : CurB w g C n cc m) (hB : Byt w C n) (hne : ∀ b o, 0 < n → C = some ⟨b, o, none⟩ → b ≠ g) (hC : ∀ b o, 0 < n → C = some ⟨b, o, none⟩ → b < w.heap.size) (hm : m + 200 ≤ 1000000) (hn : n ≤ 1000000) (hq : 1 ≤ q ∧ q ≤ 24) :
    Calls Tryz.prog 63 #[.pointer (some ⟨g, 0, none⟩), .int .i64 q] w (RetDr w g C n cc (m + 120)) := by
  have hgw := h.lt
  have HP := Lib.hid (fun W (p : Int) m' gT va vb X Y (hs : StT w W g C n cc m' gT va vb X Y) (a : m' + 1 ≤ 1000000) (b : 1 ≤ p ∧ p ≤ 1000000000) => pick_draw p W hs.bas.cur hs.bas.byt hne a hn b)
  have HA0 := Lib.hid (fun W (A : Option Addr) (c : Nat) (xs : List Int) m' (hs : Bas w W g C n cc m') (a : m' + 1 ≤ 1000000) (b : IntS W A xs) (d : ∀ b o, A = some ⟨b, o, none⟩ → b ≠ g) (e : 1 ≤ xs.length ∧ xs.length ≤ 1000) => among_draw A c xs W hs.cur hs.byt hne a hn b d e)
  have HO0 := Lib.hid (fun W (p : Int) m' (hs : Bas w W g C n cc m') (a : m' + 1 ≤ 1000000) (b : 1 ≤ p ∧ p ≤ 1000000000) => one_draw p W hs.cur hs.byt hne a hn b)
  have HD0 := Lib.hid (fun W W' m' m2 (hs : Bas w W g C n cc m') (hd : Drew W g C n cc m2 W') => hs.draw hd hne hgw)
  have HD := Lib.hid (fun W W' m' m2 gT va vb X Y (hs : StT w W g C n cc m' gT va vb X Y) (hd : Drew W g C n cc m2 W') => hs.draw hd hne hgw)
  have HG0 := Lib.hid (fun W W' m' gT va vb X Y o v' x (hs : StT w W g C n cc m' gT va vb X Y) a b c d => StT.put0 (W' := W') (o := o) (v' := v') (x := x) hs hgw hC a b c d)
  have HG1 := Lib.hid (fun W W' m' gT va vb X Y o v' x (hs : StT w W g C n cc m' gT va vb X Y) a b c d => StT.put1 (W' := W') (o := o) (v' := v') (x := x) hs hgw hC a b c d)
  have HI0 := Lib.hid (fun W m' gT vb X Y gP c k x (hs : StT w W g C n cc m' gT (.slice (some ⟨gP, 0, none⟩) X.length c) vb X Y) a b => StT.idx0 (k := k) (x := x) hs hgw hC a b)
  have HI1 := Lib.hid (fun W m' gT va X Y gP c k x (hs : StT w W g C n cc m' gT va (.slice (some ⟨gP, 0, none⟩) Y.length c) X Y) a b => StT.idx1 (k := k) (x := x) hs hgw hC a b)
  have HR9 : Hid (∀ j, j < 9 → 1 ≤ nth ([5, 7, 4, 10, 3, 2, 1, 15, 24] : List Int) j ∧ nth ([5, 7, 4, 10, 3, 2, 1, 15, 24] : List Int) j ≤ 24) := by show ∀ j, j < 9 → _; decide
  have HR6 : Hid (∀ j, j < 6 → 1 ≤ nth ([1, 1, 2, 3, 5, 20] : List Int) j ∧ nth ([1, 1, 2, 3, 5, 20] : List Int) j ≤ 20) := by show ∀ j, j < 6 → _; decide
  have HL6 : Hid ((i64s ([1, 1, 2, 3, 5, 20] : List Int)).toArray = #[.int .i64 1, .int .i64 1, .int .i64 2, .int .i64 3, .int .i64 5, .int .i64 20]) := rfl
  obtain ⟨i0, hi, hz0, hz1, hz2⟩ := info_parts info_int
  obtain ⟨wD, hwD⟩ : ∃ W, W = (((w.alloc (.cells #[.slice none 0 0, .slice none 0 0] 26)).alloc (.cells #[.int .i64 (-1)] 3)).alloc (.cells #[] 3)).alloc (.cells #[.int .i64 5, .int .i64 7, .int .i64 4, .int .i64 10, .int .i64 3, .int .i64 2, .int .i64 1, .int .i64 15, .int .i64 24] 3) := ⟨_, rfl⟩
  obtain ⟨wA, hwA⟩ : ∃ W, W = w.alloc (.cells #[.slice none 0 0, .slice none 0 0] 26) := ⟨_, rfl⟩
  obtain ⟨wB, hwB⟩ : ∃ W, W = wA.alloc (.cells #[.int .i64 (-1)] 3) := ⟨_, rfl⟩
  obtain ⟨wC, hwC⟩ : ∃ W, W = wB.alloc (.cells #[] 3) := ⟨_, rfl⟩
  have hwD2 : wD = wC.alloc (.cells #[.int .i64 5, .int .i64 7, .int .i64 4, .int .i64 10, .int .i64 3, .int .i64 2, .int .i64 1, .int .i64 15, .int .i64 24] 3) := by rw [hwC, hwB, hwA]; exact hwD
  have sA : wA.heap.size = w.heap.size + 1 := by rw [hwA]; simp
  have sB : wB.heap.size = w.heap.size + 2 := by rw [hwB]; simp [sA]
  have sC : wC.heap.size = w.heap.size + 3 := by rw [hwC]; simp [sB]
  have bA : Below w.heap.size w wA := by rw [hwA]; exact (Below.refl _ _).alloc (Nat.le_refl _) _
  have bB : Below wA.heap.size wA wB := by rw [hwB]; exact (Below.refl _ _).alloc (Nat.le_refl _) _
  have bC : Below wB.heap.size wB wC := by rw [hwC]; exact (Below.refl _ _).alloc (Nat.le_refl _) _
  have bD : Below wC.heap.size wC wD := by rw [hwD2]; exact (Below.refl _ _).alloc (Nat.le_refl _) _
  have hres : BlkT wA w.heap.size (.slice none 0 0) (.slice none 0 0) := by rw [hwA]; exact BlkT.new w _ _ rfl
  have hS : Bas w wD g C n cc m := ((((⟨h.below bA, hB.below bA, kept_below (KeptBut.refl2 w g) bA, hres⟩ : Bas w wA g C n cc m).below bB).below bC).below bD)
  have ho0 : wD.ownsRow (w.heap.size + 1) 3 1 (.slice (some ⟨w.heap.size + 1, 0, none⟩) 1 1) 1 (i64s [-1]) := own_below (own_below (by rw [hwB]; exact own_one wA (w.heap.size + 1) (w.heap.size + 1) (-1) sA.symm (Nat.le_refl _)) bC) bD
  have ho1 : wD.ownsRow (w.heap.size + 1) 3 1 (.slice (some ⟨w.heap.size + 2, 0, none⟩) 0 0) 0 (i64s []) := own_below (by rw [hwC]; exact own_empty wB (w.heap.size + 1) (w.heap.size + 2) sB.symm (by omega)) bD
  have hI9 : IntS wD (some ⟨w.heap.size + 3, 0, none⟩) ([5, 7, 4, 10, 3, 2, 1, 15, 24] : List Int) := by have := list_IntS wC ([5, 7, 4, 10, 3, 2, 1, 15, 24] : List Int) (by decide); rw [sC] at this; rw [hwD2]; exact this
  clear hres bA bB bC bD sA sB sC hwD2 hwA hwB hwC h hB
  go_enter Tryz.func63, Tryz.ntmps63
  go_wp2_with fail
  rw [← hwD]
  refine (HA0.out _ _ 9 ([5, 7, 4, 10, 3, 2, 1, 15, 24] : List Int) _ hS (by omega) hI9 (fun b o e => by injection e with e; injection e with e; omega) (by decide)).mono ?_
  rintro e1 w2 ⟨j1, hj1, rfl, hd⟩
  have hS2 := HD0.out _ _ _ _ hS hd
  replace ho0 := own_drew ho0 hd.2 (by omega)
  replace ho1 := own_drew ho1 hd.2 (by omega)
  have hbig := HR9.out j1 hj1
  generalize nth ([5, 7, 4, 10, 3, 2, 1, 15, 24] : List Int) j1 = big at *
  clear hS hd hI9 HR9 hj1 hwD
  go_wp2_with fail
  refine (l1Least_any _ _ _).mono ?_
  rintro e1 w3 ⟨rfl, e8⟩
  subst e8
  obtain ⟨k9, hk9⟩ : ∃ k : Nat, min big q = (k : Int) ∧ 1 ≤ k ∧ k ≤ 24 := ⟨(min big q).toNat, by omega, by omega, by omega⟩
  obtain ⟨hkm, hk1, hk24⟩ := hk9
  rw [hkm]
  clear hkm hbig hq
  go_wp2_with fail
  refine (HO0.out _ 2 _ hS2 (by omega) (by omega)).mono ?_
  rintro e1 w3 ⟨wide, rfl, hd⟩
  have hS3 := HD0.out _ _ _ _ hS2 hd
  replace ho0 := own_drew ho0 hd.2 (by omega)
  replace ho1 := own_drew ho1 hd.2 (by omega)
  clear hS2 hd HO0
  go_upto_region 2 with (fail)
  obtain ⟨w4, hw4⟩ : ∃ W, W = w3.alloc (.cells #[.slice (some ⟨w.heap.size + 1, 0, none⟩) 1 1, .slice (some ⟨w.heap.size + 1 + 1, 0, none⟩) 0 0] 26) := ⟨_, rfl⟩
  rw [← hw4]
  have hsz := hS3.kept.size
  have hrl := hS3.res.lt
  have hb4 : Below w3.heap.size w3 w4 := by rw [hw4]; exact (Below.refl _ _).alloc (Nat.le_refl _) _
  have hT4 : BlkT w4 w3.heap.size (.slice (some ⟨w.heap.size + 1, 0, none⟩) 1 1) (.slice (some ⟨w.heap.size + 2, 0, none⟩) 0 0) := by rw [hw4]; exact BlkT.new w3 _ _ rfl
  have hl0 : w.heap.size + 1 < w3.heap.size := (ho0.lt _ rfl).2
  have hl1 : w.heap.size + 2 < w3.heap.size := (ho1.lt _ rfl).2
  have hS : StT w w4 g C n cc (m + 2 + 2) w3.heap.size (.slice (some ⟨w.heap.size + 1, 0, none⟩) 1 1) (.slice (some ⟨w.heap.size + 2, 0, none⟩) 0 0) [-1] [] := ⟨hS3.below hb4, ⟨hT4, own_below ho0 hb4, own_below ho1 hb4, by simp [Value.ownBlock]; omega, by simp [Value.ownBlock]; omega, by simp [Value.ownBlock]⟩, hrl, by intro j; rcases j with _ | j <;> simp [nth], Bd.nil⟩
  clear hw4 hb4 hT4 ho0 ho1 hS3 hsz hrl hl0 hl1
  generalize w3.heap.size = gT at *
  go_wp2
  go_loopw [8, 9] (fun i _ wr => ∃ (k : Nat) (va vb : Value) (X : List Int), 1 ≤ k ∧ k ≤ k9 ∧ i = .int .i64 k ∧ X.length = k ∧ StT w wr g C n cc (m + 4 + 2 * k) gT va vb X []) (fun i _ _ => k9 - (intOf i).toNat)
  case atStart => exact ⟨1, _, _, [-1], by omega, by omega, rfl, rfl, hS.mono (by omega)⟩
  case round =>
    clear hS
    obtain ⟨k, va, vb, X, hk0, hk, rfl, hXk, hS⟩ := hrel
    have HXk := Lib.hid hXk
    clear hXk
    by_cases hlt : k < k9
    case neg =>
      have hXn : X.length = k9 := by rw [HXk.out]; omega
      replace hS := hS.mono (m' := m + 60) (by omega)
      have i1 : ¬ (k : Int) < k9 := by omega
      clear hlt HXk hk hk0
      go_wp2
      go_loopw [10, 11] (fun i _ wr => ∃ (j : Nat) (va vb : Value) (Y : List Int), j ≤ k9 ∧ i = .int .i64 j ∧ Y.length = j ∧ StT w wr g C n cc (m + 60 + 2 * j) gT va vb X Y) (fun i _ _ => k9 - (intOf i).toNat)
      case atStart => exact ⟨0, _, _, [], by omega, rfl, rfl, hS⟩
      case round =>
        clear hS
        obtain ⟨j, va, vb, Y, hj, rfl, hYj, hS⟩ := hrel
        have HYj := Lib.hid hYj
        have HXn := Lib.hid hXn
        clear hYj hXn
        by_cases hjt : j < k9
        case neg =>
          have hXn := HXn.out
          have hYn : Y.length = k9 := by rw [HYj.out]; omega
          replace hS := hS.mono (m' := m + 108) (by omega)
          have i1 : ¬ (j : Int) < k9 := by omega
          clear hjt HYj HXn hj
          go_wp2_with fail
          refine (HP.out _ (k9 : Int) _ _ _ _ _ _ hS (by omega) (by omega)).mono ?_
          rintro e1 wx ⟨r2, rfl, h20, h21, hd⟩
          replace hS := HD.out _ _ _ _ _ _ _ _ _ hS hd
          obtain ⟨k2, rfl⟩ := Int.eq_ofNat_of_zero_le h20
          have hkX : k2 < X.length := by omega
          have hkY : k2 < Y.length := by omega
          have hX24 : X.length ≤ 24 := by omega
          have hY24 : Y.length ≤ 24 := by omega
          have HXY := Lib.hid (show Y.length = X.length by omega)
          have hk1s := hk1
          clear hd i1 h20 h21
          go_wp2_with fail
          refine (HP.out _ 50 _ _ _ _ _ _ hS (by omega) (by omega)).mono ?_
          rintro e1 wz ⟨s, rfl, hs0, hs1, hd⟩
          replace hS := HD.out _ _ _ _ _ _ _ _ _ hS hd
          clear hd hXn hYn hk1s
          by_cases s0 : s = 0
          case pos =>
            subst s0
            go_upto_region 19 with (fail)
            obtain ⟨gP, cP, rfl, hgP, _⟩ := own_head2 hS.two.own0 (by omega)
            have t0 := hS.two.blk.c0
            have hw := hS.bas.kept
            have hk2 : k2 < X.length := hkX
            have i2 : (k2 : Int) < X.length := by omega
            refine wp_region_J (S := fun w' => w'.cell? ⟨gT, 0, none⟩ = some (.slice (some ⟨gP, 0, none⟩) X.length cP) ∧ KeptBut w w' g g) (fun j => j == 1 || j == 5 || j == 6) (by kernel_rfl) ⟨t0, hw.drew⟩ (fun hHeld => ?_)
            refine wpAnyJ_pure (i := 0) (oi := ?oou1) (v := ?vvu1) ?hiu1 (by kernel_rfl) (by kernel_rfl) (by kernel_rfl) (by rfl) ?hqu1 (Or.inl ⟨?hgu1, ?hyu1⟩) ?restu1
            case hiu1 => simp only [List.getElem?_toArray, List.getElem?_cons_zero]; rfl
            case hqu1 => exact fun _ _ _ h => h
            case hgu1 => rfl
            case hyu1 =>
              intro wq _
              go_simp
              (try with_reducible rfl)
            (try simp only [Act.put, List.setIfInBounds_toArray, List.set_cons_zero, List.set_cons_succ])
            refine wpAnyJ_pure (i := 2) (oi := ?oou2) (v := ?vvu2) ?hiu2 (by kernel_rfl) (by kernel_rfl) (by kernel_rfl) (by rfl) ?hqu2 (Or.inl ⟨?hgu2, ?hyu2⟩) ?restu2
            case hiu2 => simp only [List.getElem?_toArray, List.getElem?_cons_zero, List.getElem?_cons_succ]; rfl
            case hqu2 => exact fun _ _ _ h => h
            case hgu2 => rfl
            case hyu2 =>
              intro wq _
              go_simp
              (try with_reducible rfl)
            (try simp only [Act.put, List.setIfInBounds_toArray, List.set_cons_zero, List.set_cons_succ])
            refine wpAnyJ_pure (i := 3) (oi := ?oou3) (v := ?vvu3) ?hiu3 (by kernel_rfl) (by kernel_rfl) (by kernel_rfl) (by rfl) ?hqu3 (Or.inl ⟨?hgu3, ?hyu3⟩) ?restu3
            case hiu3 => simp only [List.getElem?_toArray, List.getElem?_cons_zero, List.getElem?_cons_succ]; rfl
            case hqu3 => exact fun _ _ _ h => h
            case hgu3 => rfl
            case hyu3 =>
              intro wq _
              go_simp
              (try with_reducible rfl)
            (try simp only [Act.put, List.setIfInBounds_toArray, List.set_cons_zero, List.set_cons_succ])
            refine wpAnyJ_pure (i := 4) (oi := ?oou4) (v := ?vvu4) ?hiu4 (by kernel_rfl) (by kernel_rfl) (by kernel_rfl) (by rfl) ?hqu4 (Or.inl ⟨?hgu4, ?hyu4⟩) ?restu4
            case hiu4 => simp only [List.getElem?_toArray, List.getElem?_cons_zero, List.getElem?_cons_succ]; rfl
            case hqu4 => exact fun _ _ _ h => h
            case hgu4 => rfl
            case hyu4 =>
              intro wq _
              go_simp
              (try with_reducible rfl)
            (try simp only [Act.put, List.setIfInBounds_toArray, List.set_cons_zero, List.set_cons_succ])
            refine wpAnyJ_take (i := 1) (oi := ?oou5) (v := ?vvu5) ?hiu5 (by kernel_rfl) (by kernel_rfl) (by kernel_rfl) (by kernel_rfl) ?hqu5 (Or.inl ⟨?hgu5, ?hyu5⟩) (by assumption) ?restu5
            case hiu5 => simp only [List.getElem?_toArray, List.getElem?_cons_zero, List.getElem?_cons_succ]; rfl
            case hqu5 => exact fun _ _ _ h => h
            case hgu5 => rfl
            case hyu5 =>
              intro wq hSw
              obtain ⟨t0, hw⟩ := hSw
              go_simp
              (try with_reducible rfl)
            (try simp only [Act.put, List.setIfInBounds_toArray, List.set_cons_zero, List.set_cons_succ])
            refine wpAnyJ_ready (rs := [5]) (by kernel_rfl) (by simp) ?_
            refine AllReadyJ.cons (i := 5) (o := ?oou6) ?hou6 (fun K9 hK9 => ?hstepu6) AllReadyJ.nil
            case hou6 => simp only [List.getElem?_toArray, List.getElem?_cons_zero, List.getElem?_cons_succ]; rfl
            go_simp
            clear hHeld
            refine hK9.out _ _ ⟨keep_cell (Below.drew ((Below.refl wz.heap.size wz).alloc (Nat.le_refl _) _)) t0, kept_below hw (Below.drew ((Below.refl wz.heap.size wz).alloc (Nat.le_refl _) _))⟩ (fun hHeld => ?_)
            clear hK9 K9
            (try simp only [Act.put, List.setIfInBounds_toArray, List.set_cons_zero, List.set_cons_succ])
            refine wpAnyJ_name hHeld (fun wau6 hHa hwz => ?_)
            have hbA : Below wz.heap.size wz wau6 := by rw [hwz]; exact Below.drew ((Below.refl wz.heap.size wz).alloc (Nat.le_refl _) _)
            have hI : IntS wau6 (some ⟨wz.heap.size, 0, none⟩) ([-1, (k2 : Int), -2, 4611686018427387904] : List Int) := by rw [hwz]; exact list_IntS _ ([-1, (k2 : Int), -2, 4611686018427387904] : List Int) (by simp)
            have hg3 : g < wz.heap.size := hS.bas.cur.lt
            replace t0 := keep_cell hbA t0
            replace hS := hS.below hbA
            replace hw := kept_below hw hbA
            generalize wz.heap.size = g3 at hI hg3 ⊢
            clear hHeld hbA hwz
            have hHeld := hHa
            clear hHa
            refine wpAnyJ_ready (rs := [6]) (by kernel_rfl) (by simp) ?_
            refine AllReadyJ.cons (i := 6) (o := ?oou7) ?hou7 (fun K9 hK9 => ?hstepu7) AllReadyJ.nil
            case hou7 => simp only [List.getElem?_toArray, List.getElem?_cons_zero, List.getElem?_cons_succ]; rfl
            go_simp
            clear hHeld
            refine (HA0.out _ _ 4 ([-1, (k2 : Int), -2, 4611686018427387904] : List Int) _ hS.bas (by omega) hI (fun b o e => by injection e with e; injection e with e; omega) (by simp)).mono ?_
            rintro e1 wdu7 ⟨j4, hj4, rfl, hd⟩
            have hxb : -9223372036854775808 ≤ nth ([-1, (k2 : Int), -2, 4611686018427387904] : List Int) j4 ∧ nth ([-1, (k2 : Int), -2, 4611686018427387904] : List Int) j4 ≤ 9223372036854775807 := by
              rcases j4 with _ | _ | _ | _ | j4
              all_goals (simp [nth] at hj4 ⊢; try omega)
            generalize nth ([-1, (k2 : Int), -2, 4611686018427387904] : List Int) j4 = x4 at *
            replace hS := HD.out _ _ _ _ _ _ _ _ _ hS hd
            replace hw := hw.trans2 hd.2
            replace t0 := hS.two.blk.c0
            clear hI hd
            go_wp2_with fail
            refine hK9.out _ _ ⟨t0, hw⟩ (fun hHeld => ?_)
            clear hK9 K9
            (try simp only [Act.put, List.setIfInBounds_toArray, List.set_cons_zero, List.set_cons_succ])
            refine wpAnyJ_pure (i := 7) (oi := ?oou8) (v := ?vvu8) ?hiu8 (by kernel_rfl) (by kernel_rfl) (by kernel_rfl) (by rfl) ?hqu8 (Or.inl ⟨?hgu8, ?hyu8⟩) ?restu8
            case hiu8 => simp only [List.getElem?_toArray, List.getElem?_cons_zero, List.getElem?_cons_succ]; rfl
            case hqu8 => exact fun _ _ _ h => h
            case hgu8 => rfl
            case hyu8 =>
              intro wq _
              go_simp
              (try with_reducible rfl)
            (try simp only [Act.put, List.setIfInBounds_toArray, List.set_cons_zero, List.set_cons_succ])
            refine wpAnyJ_ready (rs := [8]) (by kernel_rfl) (by simp) ?_
            refine AllReadyJ.free (i := 8) (o := ?oou9) ?hou9 (by rfl) (fun K9 hK9 => ?hstepu9) AllReadyJ.nil
            case hou9 => simp only [List.getElem?_toArray, List.getElem?_cons_zero, List.getElem?_cons_succ]; rfl
            have hff := hS.two.own0.frozenAt k2
            have hcc := hS.two.own0.cellAt k2 (by omega)
            rw [show (i64s X)[k2]? = some (.int .i64 (nth X k2)) from by simp [i64s, nth, List.getD, hk2]] at hcc
            go_simp
            refine hK9.out _ _ trivial (fun _ => ?_)
            clear hK9 K9
            (try simp only [Act.put, List.setIfInBounds_toArray, List.set_cons_zero, List.set_cons_succ])
            refine wpAnyJ_call (fun wvu9 hwz => ?_)
            have hS5 := HI0.out _ _ _ _ _ _ gP cP k2 x4 hS (by omega) hxb
            rw [← hwz] at hS5
            clear hS t0 hw hcc hff
            have hS := hS5
            clear hS5
            clear hwz
            clear hHeld
            refine wpAnyJ_done (by kernel_rfl) ?_ _
            have hLL : (X.set k2 x4).length ≤ 24 := by rw [List.length_set]; omega
            generalize X.set k2 x4 = X2 at *
            obtain ⟨A, c, B, d, ev, eu, h3, h4, hap, -, -⟩ := hS.two.forms
            rw [ev, eu] at hS
            clear ev eu
            have t0 := hS.two.blk.c0
            have t1 := hS.two.blk.c1
            have r0 := hS.bas.res.c0
            have r1 := hS.bas.res.c1
            have rf0 := hS.bas.res.free 0
            have rf1 := hS.bas.res.free 1
            have hkb := ((KeptBut.refl2 wvu9 w.heap.size).setg 0 (.slice A (X2).length c)).setg 1 (.slice B (Y).length d)
            have hE := Lib.hid hS
            clear hS
            go_wp2
            refine bodyPost_ret (v := .agg #[(.slice A (X2).length c), (.slice B (Y).length d)]) (by simp (maxDischargeDepth := 9) [results, Tryz.results63, go_sem, *]) rfl ⟨X2, Y, _, _, _, _, rfl, (hkb.own h3 (by omega) (by omega)).mono (by omega), (hkb.own h4 (by omega) (by omega)).mono (by omega), hap, by omega, by omega, hE.out.bx, hE.out.bz, (((hE.out.bas.cur.mono (by omega)).far (by omega) 0 _).far (by omega) 1 _), kept_set (kept_set hE.out.bas.kept (Nat.le_refl _) 0 _) (Nat.le_refl _) 1 _⟩
          have e0 : (s == 0) = false := by rw [beq_eq_false_iff_ne]; exact s0
          by_cases s1 : s = 1
          case pos =>
            subst s1
            go_upto_region 21 with (fail)
            obtain ⟨gP, cP, rfl, hgP, _⟩ := own_head2 hS.two.own1 (by omega)
            have t0 := hS.two.blk.c1
            have hw := hS.bas.kept
            have hk2 : k2 < Y.length := hkY
            have i2 : (k2 : Int) < Y.length := by omega
            refine wp_region_J (S := fun w' => w'.cell? ⟨gT, 1, none⟩ = some (.slice (some ⟨gP, 0, none⟩) Y.length cP) ∧ KeptBut w w' g g) (fun j => j == 1 || j == 4 || j == 5) (by kernel_rfl) ⟨t0, hw.drew⟩ (fun hHeld => ?_)
            refine wpAnyJ_pure (i := 0) (oi := ?oov1) (v := ?vvv1) ?hiv1 (by kernel_rfl) (by kernel_rfl) (by kernel_rfl) (by rfl) ?hqv1 (Or.inl ⟨?hgv1, ?hyv1⟩) ?restv1
            case hiv1 => simp only [List.getElem?_toArray, List.getElem?_cons_zero]; rfl
            case hqv1 => exact fun _ _ _ h => h
            case hgv1 => rfl
            case hyv1 =>
              intro wq _
              go_simp
              (try with_reducible rfl)
            (try simp only [Act.put, List.setIfInBounds_toArray, List.set_cons_zero, List.set_cons_succ])
            refine wpAnyJ_pure (i := 2) (oi := ?oov2) (v := ?vvv2) ?hiv2 (by kernel_rfl) (by kernel_rfl) (by kernel_rfl) (by rfl) ?hqv2 (Or.inl ⟨?hgv2, ?hyv2⟩) ?restv2
            case hiv2 => simp only [List.getElem?_toArray, List.getElem?_cons_zero, List.getElem?_cons_succ]; rfl
            case hqv2 => exact fun _ _ _ h => h
            case hgv2 => rfl
            case hyv2 =>
              intro wq _
              go_simp
              (try with_reducible rfl)
            (try simp only [Act.put, List.setIfInBounds_toArray, List.set_cons_zero, List.set_cons_succ])
            refine wpAnyJ_pure (i := 3) (oi := ?oov3) (v := ?vvv3) ?hiv3 (by kernel_rfl) (by kernel_rfl) (by kernel_rfl) (by rfl) ?hqv3 (Or.inl ⟨?hgv3, ?hyv3⟩) ?restv3
            case hiv3 => simp only [List.getElem?_toArray, List.getElem?_cons_zero, List.getElem?_cons_succ]; rfl
            case hqv3 => exact fun _ _ _ h => h
            case hgv3 => rfl
            case hyv3 =>
              intro wq _
              go_simp
              (try with_reducible rfl)
            (try simp only [Act.put, List.setIfInBounds_toArray, List.set_cons_zero, List.set_cons_succ])
            refine wpAnyJ_take (i := 1) (oi := ?oov4) (v := ?vvv4) ?hiv4 (by kernel_rfl) (by kernel_rfl) (by kernel_rfl) (by kernel_rfl) ?hqv4 (Or.inl ⟨?hgv4, ?hyv4⟩) (by assumption) ?restv4
            case hiv4 => simp only [List.getElem?_toArray, List.getElem?_cons_zero, List.getElem?_cons_succ]; rfl
            case hqv4 => exact fun _ _ _ h => h
            case hgv4 => rfl
            case hyv4 =>
              intro wq hSw
              obtain ⟨t0, hw⟩ := hSw
              go_simp
              (try with_reducible rfl)
            (try simp only [Act.put, List.setIfInBounds_toArray, List.set_cons_zero, List.set_cons_succ])
            refine wpAnyJ_ready (rs := [4]) (by kernel_rfl) (by simp) ?_
            refine AllReadyJ.cons (i := 4) (o := ?oov5) ?hov5 (fun K9 hK9 => ?hstepv5) AllReadyJ.nil
            case hov5 => simp only [List.getElem?_toArray, List.getElem?_cons_zero, List.getElem?_cons_succ]; rfl
            go_simp
            clear hHeld
            refine hK9.out _ _ ⟨keep_cell (Below.drew ((Below.refl wz.heap.size wz).alloc (Nat.le_refl _) _)) t0, kept_below hw (Below.drew ((Below.refl wz.heap.size wz).alloc (Nat.le_refl _) _))⟩ (fun hHeld => ?_)
            clear hK9 K9
            (try simp only [Act.put, List.setIfInBounds_toArray, List.set_cons_zero, List.set_cons_succ])
            refine wpAnyJ_name hHeld (fun wav5 hHa hwz => ?_)
            have hbA : Below wz.heap.size wz wav5 := by rw [hwz]; exact Below.drew ((Below.refl wz.heap.size wz).alloc (Nat.le_refl _) _)
            have hI : IntS wav5 (some ⟨wz.heap.size, 0, none⟩) ([0, 1, 21, -1] : List Int) := by rw [hwz]; exact list_IntS _ ([0, 1, 21, -1] : List Int) (by simp)
            have hg3 : g < wz.heap.size := hS.bas.cur.lt
            replace t0 := keep_cell hbA t0
            replace hS := hS.below hbA
            replace hw := kept_below hw hbA
            generalize wz.heap.size = g3 at hI hg3 ⊢
            clear hHeld hbA hwz
            have hHeld := hHa
            clear hHa
            refine wpAnyJ_ready (rs := [5]) (by kernel_rfl) (by simp) ?_
            refine AllReadyJ.cons (i := 5) (o := ?oov6) ?hov6 (fun K9 hK9 => ?hstepv6) AllReadyJ.nil
            case hov6 => simp only [List.getElem?_toArray, List.getElem?_cons_zero, List.getElem?_cons_succ]; rfl
            go_simp
            clear hHeld
            refine (HA0.out _ _ 4 ([0, 1, 21, -1] : List Int) _ hS.bas (by omega) hI (fun b o e => by injection e with e; injection e with e; omega) (by simp)).mono ?_
            rintro e1 wdv6 ⟨j4, hj4, rfl, hd⟩
            have hxb : -9223372036854775808 ≤ nth ([0, 1, 21, -1] : List Int) j4 ∧ nth ([0, 1, 21, -1] : List Int) j4 ≤ 9223372036854775807 := by
              rcases j4 with _ | _ | _ | _ | j4
              all_goals (simp [nth] at hj4 ⊢; try omega)
            generalize nth ([0, 1, 21, -1] : List Int) j4 = x4 at *
            replace hS := HD.out _ _ _ _ _ _ _ _ _ hS hd
            replace hw := hw.trans2 hd.2
            replace t0 := hS.two.blk.c1
            clear hI hd
            go_wp2_with fail
            refine hK9.out _ _ ⟨t0, hw⟩ (fun hHeld => ?_)
            clear hK9 K9
            (try simp only [Act.put, List.setIfInBounds_toArray, List.set_cons_zero, List.set_cons_succ])
            refine wpAnyJ_pure (i := 6) (oi := ?oov7) (v := ?vvv7) ?hiv7 (by kernel_rfl) (by kernel_rfl) (by kernel_rfl) (by rfl) ?hqv7 (Or.inl ⟨?hgv7, ?hyv7⟩) ?restv7
            case hiv7 => simp only [List.getElem?_toArray, List.getElem?_cons_zero, List.getElem?_cons_succ]; rfl
            case hqv7 => exact fun _ _ _ h => h
            case hgv7 => rfl
            case hyv7 =>
              intro wq _
              go_simp
              (try with_reducible rfl)
            (try simp only [Act.put, List.setIfInBounds_toArray, List.set_cons_zero, List.set_cons_succ])
            refine wpAnyJ_ready (rs := [7]) (by kernel_rfl) (by simp) ?_
            refine AllReadyJ.free (i := 7) (o := ?oov8) ?hov8 (by rfl) (fun K9 hK9 => ?hstepv8) AllReadyJ.nil
            case hov8 => simp only [List.getElem?_toArray, List.getElem?_cons_zero, List.getElem?_cons_succ]; rfl
            have hff := hS.two.own1.frozenAt k2
            have hcc := hS.two.own1.cellAt k2 (by omega)
            rw [show (i64s Y)[k2]? = some (.int .i64 (nth Y k2)) from by simp [i64s, nth, List.getD, hk2]] at hcc
            go_simp
            refine hK9.out _ _ trivial (fun _ => ?_)
            clear hK9 K9
            (try simp only [Act.put, List.setIfInBounds_toArray, List.set_cons_zero, List.set_cons_succ])
            refine wpAnyJ_call (fun wvv8 hwz => ?_)
            have hS5 := HI1.out _ _ _ _ _ _ gP cP k2 x4 hS (by omega) hxb
            rw [← hwz] at hS5
            clear hS t0 hw hcc hff
            have hS := hS5
            clear hS5
            clear hwz
            clear hHeld
            refine wpAnyJ_done (by kernel_rfl) ?_ _
            have hLL : (Y.set k2 x4).length ≤ 24 := by rw [List.length_set]; omega
            generalize Y.set k2 x4 = Y2 at *
            obtain ⟨A, c, B, d, ev, eu, h3, h4, hap, -, -⟩ := hS.two.forms
            rw [ev, eu] at hS
            clear ev eu
            have t0 := hS.two.blk.c0
            have t1 := hS.two.blk.c1
            have r0 := hS.bas.res.c0
            have r1 := hS.bas.res.c1
            have rf0 := hS.bas.res.free 0
            have rf1 := hS.bas.res.free 1
            have hkb := ((KeptBut.refl2 wvv8 w.heap.size).setg 0 (.slice A (X).length c)).setg 1 (.slice B (Y2).length d)
            have hE := Lib.hid hS
            clear hS
            go_wp2
            refine bodyPost_ret (v := .agg #[(.slice A (X).length c), (.slice B (Y2).length d)]) (by simp (maxDischargeDepth := 9) [results, Tryz.results63, go_sem, *]) rfl ⟨X, Y2, _, _, _, _, rfl, (hkb.own h3 (by omega) (by omega)).mono (by omega), (hkb.own h4 (by omega) (by omega)).mono (by omega), hap, by omega, by omega, hE.out.bx, hE.out.bz, (((hE.out.bas.cur.mono (by omega)).far (by omega) 0 _).far (by omega) 1 _), kept_set (kept_set hE.out.bas.kept (Nat.le_refl _) 0 _) (Nat.le_refl _) 1 _⟩
          have e1 : (s == 1) = false := by rw [beq_eq_false_iff_ne]; exact s1
          by_cases s2 : s = 2
          case pos =>
            subst s2
            go_upto_region 23 with (fail)
            have hlen : Y.length ≤ 24 := by omega
            have hrl := hS.bas.res.lt
            have t0 := hS.two.blk.c0
            have t1 := hS.two.blk.c1
            go_upto_region 30 with (at_builtin; (refine wpList_append_own_at _ rfl _ _ 24 rfl (w.heap.size + 1) 3 i0 (.int .i64 0) 1 8 Tryz.underlying24 hi hz0 hz1 hz2 rfl (by decide) _ _ _ rfl (hS.two.own1.alloc _) ⟨wz.heap.size, 0, none⟩ 1 1 [.int .i64 1] rfl rfl (cell_one_new _ _ _) (by simp [Value.oneCell']) (by unfold maxLen; omega) (by omega) (by simp; omega) ?_); intro v5 w5 hown5 hg5 _ hat5; obtain ⟨Av5, cv5, rfl⟩ := own_slice hown5; have a5c0 := (hS.two.blk1 hg5).c0; have a5c1 := (hS.two.blk1 hg5).c1; have a5f := (hS.two.blk1 hg5).free 1)
            have hS5 := HG1.out _ _ _ _ _ _ _ _ _ _ 1 hS hg5 hat5 hown5 (by omega)
            clear hS hg5 hat5 hown5 t0 t1 a5c0 a5c1 a5f hrl
            generalize w5.setCell ⟨gT, 1, none⟩ (.slice Av5 (Y.length + 1) cv5) = w6 at *
            have hS := hS5
            clear hS5
            have hlZ : (Y ++ [1]).length ≤ 25 := by simp; omega
            obtain ⟨Z, hZ⟩ : ∃ Z, Z = Y ++ [1] := ⟨_, rfl⟩
            rw [← hZ] at hS hlZ
            clear hZ
            obtain ⟨A, c, B, d, ev, eu, h3, h4, hap, -, -⟩ := hS.two.forms
            rw [ev, eu] at hS
            clear ev eu
            have t0 := hS.two.blk.c0
            have t1 := hS.two.blk.c1
            have r0 := hS.bas.res.c0
            have r1 := hS.bas.res.c1
            have rf0 := hS.bas.res.free 0
            have rf1 := hS.bas.res.free 1
            have hkb := ((KeptBut.refl2 w6 w.heap.size).setg 0 (.slice A (X).length c)).setg 1 (.slice B (Z).length d)
            have hE := Lib.hid hS
            clear hS
            go_wp2
            refine bodyPost_ret (v := .agg #[(.slice A (X).length c), (.slice B (Z).length d)]) (by simp (maxDischargeDepth := 9) [results, Tryz.results63, go_sem, *]) rfl ⟨X, Z, _, _, _, _, rfl, (hkb.own h3 (by omega) (by omega)).mono (by omega), (hkb.own h4 (by omega) (by omega)).mono (by omega), hap, by omega, by omega, hE.out.bx, hE.out.bz, (((hE.out.bas.cur.mono (by omega)).far (by omega) 0 _).far (by omega) 1 _), kept_set (kept_set hE.out.bas.kept (Nat.le_refl _) 0 _) (Nat.le_refl _) 1 _⟩
          have e2 : (s == 2) = false := by rw [beq_eq_false_iff_ne]; exact s2
          by_cases s3 : s = 3
          case pos =>
            subst s3
            have hX0 : X.length ≤ 25 := by omega
            go_wp2
            go_loopw [] (fun wr => ∃ (va vb : Value) (X Y : List Int), X.length ≤ 25 ∧ Y.length = X.length ∧ StT w wr g C n cc (m + 112) gT va vb X Y) (fun wr => 25 - lenAt wr gT)
            case atStart => exact ⟨_, _, X, Y, hX0, HXY.out, hS.mono (by omega)⟩
            case round =>
              clear hS hX0 HXY hkX hkY hX24 hY24
              obtain ⟨va, vb, X3, Y3, hX, hYX, hS⟩ := hrel
              have HYX := Lib.hid hYX
              clear hYX
              obtain ⟨A1, c1, rfl⟩ := own_slice hS.two.own0
              by_cases hlt : X3.length < 25
              case neg =>
                have i1 : ¬ (X3.length : Int) < 25 := by omega
                have hYX : Y3.length ≤ 25 := by rw [HYX.out]; exact hX
                clear HYX
                obtain ⟨A, c, B, d, ev, eu, h3, h4, hap, -, -⟩ := hS.two.forms
                rw [ev, eu] at hS
                clear ev eu
                have t0 := hS.two.blk.c0
                have t1 := hS.two.blk.c1
                have r0 := hS.bas.res.c0
                have r1 := hS.bas.res.c1
                have rf0 := hS.bas.res.free 0
                have rf1 := hS.bas.res.free 1
                have hkb := ((KeptBut.refl2 wr w.heap.size).setg 0 (.slice A (X3).length c)).setg 1 (.slice B (Y3).length d)
                have hE := Lib.hid hS
                clear hS
                go_wp2
                refine bodyPost_ret (v := .agg #[(.slice A (X3).length c), (.slice B (Y3).length d)]) (by simp (maxDischargeDepth := 9) [results, Tryz.results63, go_sem, *]) rfl ⟨X3, Y3, _, _, _, _, rfl, (hkb.own h3 (by omega) (by omega)).mono (by omega), (hkb.own h4 (by omega) (by omega)).mono (by omega), hap, by omega, by omega, hE.out.bx, hE.out.bz, (((hE.out.bas.cur.mono (by omega)).far (by omega) 0 _).far (by omega) 1 _), kept_set (kept_set hE.out.bas.kept (Nat.le_refl _) 0 _) (Nat.le_refl _) 1 _⟩
              have i1 : (X3.length : Int) < 25 := by omega
              have HM := Lib.hid (lenAt_of hS.two.blk.c0)
              have hrl := hS.bas.res.lt
              have t0 := hS.two.blk.c0
              have t1 := hS.two.blk.c1
              go_upto_region 27 with (at_builtin; (refine wpList_append_own_at _ rfl _ _ 24 rfl (w.heap.size + 1) 3 i0 (.int .i64 0) 1 8 Tryz.underlying24 hi hz0 hz1 hz2 rfl (by decide) _ _ _ rfl (hS.two.own0.alloc _) ⟨wr.heap.size, 0, none⟩ 1 1 [.int .i64 0] rfl rfl (cell_one_new _ _ _) (by simp [Value.oneCell']) (by unfold maxLen; omega) (by omega) (by simp; omega) ?_); intro v5 w5 hown5 hg5 _ hat5; obtain ⟨Av5, cv5, rfl⟩ := own_slice hown5; have a5c0 := (hS.two.blk0 hg5).c0; have a5c1 := (hS.two.blk0 hg5).c1; have a5f := (hS.two.blk0 hg5).free 0)
              have hS5 := HG0.out _ _ _ _ _ _ _ _ _ _ 0 hS hg5 hat5 hown5 (by omega)
              clear hS hg5 hat5 hown5 t0 t1 a5c0 a5c1 a5f hrl
              generalize w5.setCell ⟨gT, 0, none⟩ (.slice Av5 (X3.length + 1) cv5) = w6 at *
              have hS := hS5
              clear hS5
              have hlY : Y3.length ≤ 25 := by rw [HYX.out]; exact hX
              have hrl := hS.bas.res.lt
              have t0 := hS.two.blk.c0
              have t1 := hS.two.blk.c1
              go_wp2_with (at_builtin; (refine wpList_append_own_at _ rfl _ _ 24 rfl (w.heap.size + 1) 3 i0 (.int .i64 0) 1 8 Tryz.underlying24 hi hz0 hz1 hz2 rfl (by decide) _ _ _ rfl (hS.two.own1.alloc _) ⟨w6.heap.size, 0, none⟩ 1 1 [.int .i64 1] rfl rfl (cell_one_new _ _ _) (by simp [Value.oneCell']) (by unfold maxLen; omega) (by omega) (by simp; omega) ?_); intro v5 w5 hown5 hg5 _ hat5; obtain ⟨Av5, cv5, rfl⟩ := own_slice hown5; have a5c0 := (hS.two.blk1 hg5).c0; have a5c1 := (hS.two.blk1 hg5).c1; have a5f := (hS.two.blk1 hg5).free 1)
              have hS5 := HG1.out _ _ _ _ _ _ _ _ _ _ 1 hS hg5 hat5 hown5 (by omega)
              clear hS hg5 hat5 hown5 t0 t1 a5c0 a5c1 a5f hrl
              generalize w5.setCell ⟨gT, 1, none⟩ (.slice Av5 (Y3.length + 1) cv5) = w7 at *
              have hS := hS5
              clear hS5
              have HM2 := Lib.hid (lenAt_of hS.two.blk.c0)
              go_wp2
              go_roundw
              case rel => exact ⟨_, _, _, _, by simp; omega, by simp [HYX.out], hS⟩
              case measure => rw [HM.out, HM2.out]; omega
          have e3 : (s == 3) = false := by rw [beq_eq_false_iff_ne]; exact s3
          by_cases s4 : s = 4
          case pos =>
            subst s4
            have r0 := hS.bas.res.c0
            have r1 := hS.bas.res.c1
            have rf0 := hS.bas.res.free 0
            have rf1 := hS.bas.res.free 1
            have hkb := ((KeptBut.refl2 wz w.heap.size).setg 0 (.slice none 0 0)).setg 1 (.slice none 0 0)
            have hE := Lib.hid hS
            clear hS
            go_wp2
            refine bodyPost_ret (v := .agg #[(.slice none 0 0), (.slice none 0 0)]) (by simp (maxDischargeDepth := 9) [results, Tryz.results63, go_sem, *]) rfl ⟨[], [], _, _, _, _, rfl, .inl ⟨rfl, rfl⟩, .inl ⟨rfl, rfl⟩, (fun _ _ e1 => by cases e1), by decide, by decide, Bd.nil, Bd.nil, (((hE.out.bas.cur.mono (by omega)).far (by omega) 0 _).far (by omega) 1 _), kept_set (kept_set hE.out.bas.kept (Nat.le_refl _) 0 _) (Nat.le_refl _) 1 _⟩
          have e4 : (s == 4) = false := by rw [beq_eq_false_iff_ne]; exact s4
          obtain ⟨A, c, B, d, ev, eu, h3, h4, hap, -, -⟩ := hS.two.forms
          rw [ev, eu] at hS
          clear ev eu
          have t0 := hS.two.blk.c0
          have t1 := hS.two.blk.c1
          have r0 := hS.bas.res.c0
          have r1 := hS.bas.res.c1
          have rf0 := hS.bas.res.free 0
          have rf1 := hS.bas.res.free 1
          have hkb := ((KeptBut.refl2 wz w.heap.size).setg 0 (.slice A (X).length c)).setg 1 (.slice B (Y).length d)
          have hE := Lib.hid hS
          clear hS
          go_wp2
          refine bodyPost_ret (v := .agg #[(.slice A (X).length c), (.slice B (Y).length d)]) (by simp (maxDischargeDepth := 9) [results, Tryz.results63, go_sem, *]) rfl ⟨X, Y, _, _, _, _, rfl, (hkb.own h3 (by omega) (by omega)).mono (by omega), (hkb.own h4 (by omega) (by omega)).mono (by omega), hap, by omega, by omega, hE.out.bx, hE.out.bz, (((hE.out.bas.cur.mono (by omega)).far (by omega) 0 _).far (by omega) 1 _), kept_set (kept_set hE.out.bas.kept (Nat.le_refl _) 0 _) (Nat.le_refl _) 1 _⟩
        have i1 : (j : Int) < k9 := by omega
        obtain ⟨A, c, B, d, rfl, rfl, hA, hB⟩ := hS.ints
        have t0 := hS.two.blk.c0
        have t1 := hS.two.blk.c1
        go_wp2_with fail
        refine (l2Kids_any A B c Y.length d j X _ hA (by rw [HXn.out]; omega) (by rw [HXn.out]; exact hjt)).mono ?_
        rintro e1 wk ⟨A3, c3, rfl, _, hb⟩
        replace hS := hS.below hb
        clear hA hB t0 t1 hb
        generalize (pick (isKid X j) X.length).length = kn
        have hlen : Y.length ≤ 24 := by rw [HYj.out]; omega
        by_cases hkn : kn = 0
        case neg =>
          have i5 : ((kn : Int) == 0) = false := by rw [beq_eq_false_iff_ne]; omega
          go_upto_region 15 with (fail)
          have hrl := hS.bas.res.lt
          have t0 := hS.two.blk.c0
          have t1 := hS.two.blk.c1
          go_upto_region 11 with (at_builtin; (refine wpList_append_own_at _ rfl _ _ 24 rfl (w.heap.size + 1) 3 i0 (.int .i64 0) 1 8 Tryz.underlying24 hi hz0 hz1 hz2 rfl (by decide) _ _ _ rfl (hS.two.own1.alloc _) ⟨wk.heap.size, 0, none⟩ 1 1 [.int .i64 0] rfl rfl (cell_one_new _ _ _) (by simp [Value.oneCell']) (by unfold maxLen; omega) (by omega) (by simp; omega) ?_); intro v5 w5 hown5 hg5 _ hat5; obtain ⟨Av5, cv5, rfl⟩ := own_slice hown5; have a5c0 := (hS.two.blk1 hg5).c0; have a5c1 := (hS.two.blk1 hg5).c1; have a5f := (hS.two.blk1 hg5).free 1)
          have hS5 := HG1.out _ _ _ _ _ _ _ _ _ _ 0 hS hg5 hat5 hown5 (by omega)
          clear hS hg5 hat5 hown5 t0 t1 a5c0 a5c1 a5f hrl
          generalize w5.setCell ⟨gT, 1, none⟩ (.slice Av5 (Y.length + 1) cv5) = w6 at *
          have hS := hS5
          clear hS5
          go_wp2
          go_roundw
          case rel => exact ⟨j + 1, _, _, _, by omega, by go_num, by simp [HYj.out], hS.mono (by omega)⟩
          case measure => simp [intOf]; omega
        have i5 : ((kn : Int) == 0) = true := by rw [beq_iff_eq]; omega
        have hI6 := list_IntS wk ([1, 1, 2, 3, 5, 20] : List Int) (by decide)
        rw [HL6.out] at hI6
        have hgl := hS.bas.cur.lt
        have hSa := hS.below ((Below.refl wk.heap.size wk).alloc (Nat.le_refl _) (.cells #[.int .i64 1, .int .i64 1, .int .i64 2, .int .i64 3, .int .i64 5, .int .i64 20] 3))
        clear hS
        go_wp2_with fail
        refine (HA0.out _ _ 6 ([1, 1, 2, 3, 5, 20] : List Int) _ hSa.bas (by omega) hI6 (fun b o e => by injection e with e; injection e with e; omega) (by decide)).mono ?_
        rintro e1 w5a ⟨j6, hj6, rfl, hd⟩
        have hS := HD.out _ _ _ _ _ _ _ _ _ hSa hd
        have hx := HR6.out j6 hj6
        generalize nth ([1, 1, 2, 3, 5, 20] : List Int) j6 = x at *
        clear hSa hd hI6 hgl hj6
        go_upto_region 15 with (fail)
        have hrl := hS.bas.res.lt
        have t0 := hS.two.blk.c0
        have t1 := hS.two.blk.c1
        go_upto_region 11 with (at_builtin; (refine wpList_append_own_at _ rfl _ _ 24 rfl (w.heap.size + 1) 3 i0 (.int .i64 0) 1 8 Tryz.underlying24 hi hz0 hz1 hz2 rfl (by decide) _ _ _ rfl (hS.two.own1.alloc _) ⟨w5a.heap.size, 0, none⟩ 1 1 [.int .i64 x] rfl rfl (cell_one_new _ _ _) (by simp [Value.oneCell']) (by unfold maxLen; omega) (by omega) (by simp; omega) ?_); intro v5 w5 hown5 hg5 _ hat5; obtain ⟨Av5, cv5, rfl⟩ := own_slice hown5; have a5c0 := (hS.two.blk1 hg5).c0; have a5c1 := (hS.two.blk1 hg5).c1; have a5f := (hS.two.blk1 hg5).free 1)
        have hS5 := HG1.out _ _ _ _ _ _ _ _ _ _ x hS hg5 hat5 hown5 (by omega)
        clear hS hg5 hat5 hown5 t0 t1 a5c0 a5c1 a5f hrl
        generalize w5.setCell ⟨gT, 1, none⟩ (.slice Av5 (Y.length + 1) cv5) = w6 at *
        have hS := hS5
        clear hS5
        go_wp2
        go_roundw
        case rel => exact ⟨j + 1, _, _, _, by omega, by go_num, by simp [HYj.out], hS.mono (by omega)⟩
        case measure => simp [intOf]; omega
    have i1 : (k : Int) < k9 := by omega
    go_wp2_with fail
    refine (HP.out _ (k : Int) _ _ _ _ _ _ hS (by omega) (by omega)).mono ?_
    rintro e1 w6 ⟨r, rfl, hr0, hr1, hd⟩
    have hS6 := HD.out _ _ _ _ _ _ _ _ _ hS hd
    clear hS hd
    have u1 : IntKind.i64.wrap ((k : Int) - 1) = (k : Int) - 1 := IntWalk.i64_in _ (by omega)
    cases wide with
    | false =>
      go_upto_region 8 with (fail)
      have hxb : -9223372036854775808 ≤ min r ((k : Int) - 1) ∧ min r ((k : Int) - 1) ≤ 9223372036854775807 := by omega
      have hlen : X.length ≤ 24 := by rw [HXk.out]; omega
      have hbs := hS6.bas
      have hbl := hS6.two.blk
      have ho0 := hS6.two.own0
      have ho1 := hS6.two.own1
      have hne0 := hS6.two.ne0
      have hne1 := hS6.two.ne1
      have hap := hS6.two.ap
      have hgT := hS6.gt
      have hbx := hS6.bx
      have t0 := hbl.c0
      have hw := hbs.kept
      clear hS6
      refine wp_region_J (S := fun w' => w'.cell? ⟨gT, 0, none⟩ = some va ∧ KeptBut w w' g g) (fun j => j == 1 || j == 5 || j == 6 || j == 7) (by kernel_rfl) ⟨t0, hw.drew⟩ (fun hHeld => ?_)
      refine wpAnyJ_pure (i := 2) (oi := ?oof1) (v := ?vvf1) ?hif1 (by kernel_rfl) (by kernel_rfl) (by kernel_rfl) (by rfl) ?hqf1 (Or.inl ⟨?hgf1, ?hyf1⟩) ?restf1
      case hif1 => simp only [List.getElem?_toArray, List.getElem?_cons_zero, List.getElem?_cons_succ]; rfl
      case hqf1 => exact fun _ _ _ h => h
      case hgf1 => rfl
      case hyf1 =>
        intro wq _
        go_simp
        (try with_reducible rfl)
      (try simp only [Act.put, List.setIfInBounds_toArray, List.set_cons_zero, List.set_cons_succ])
      refine wpAnyJ_pure (i := 3) (oi := ?oof2) (v := ?vvf2) ?hif2 (by kernel_rfl) (by kernel_rfl) (by kernel_rfl) (by rfl) ?hqf2 (Or.inl ⟨?hgf2, ?hyf2⟩) ?restf2
      case hif2 => simp only [List.getElem?_toArray, List.getElem?_cons_zero, List.getElem?_cons_succ]; rfl
      case hqf2 => exact fun _ _ _ h => h
      case hgf2 => rfl
      case hyf2 =>
        intro wq _
        go_simp
        (try with_reducible rfl)
      (try simp only [Act.put, List.setIfInBounds_toArray, List.set_cons_zero, List.set_cons_succ])
      refine wpAnyJ_pure (i := 4) (oi := ?oof3) (v := ?vvf3) ?hif3 (by kernel_rfl) (by kernel_rfl) (by kernel_rfl) (by rfl) ?hqf3 (Or.inl ⟨?hgf3, ?hyf3⟩) ?restf3
      case hif3 => simp only [List.getElem?_toArray, List.getElem?_cons_zero, List.getElem?_cons_succ]; rfl
      case hqf3 => exact fun _ _ _ h => h
      case hgf3 => rfl
      case hyf3 =>
        intro wq _
        go_simp
        (try with_reducible rfl)
      (try simp only [Act.put, List.setIfInBounds_toArray, List.set_cons_zero, List.set_cons_succ])
      refine wpAnyJ_pure (i := 0) (oi := ?oof4) (v := ?vvf4) ?hif4 (by kernel_rfl) (by kernel_rfl) (by kernel_rfl) (by rfl) ?hqf4 (Or.inl ⟨?hgf4, ?hyf4⟩) ?restf4
      case hif4 => simp only [List.getElem?_toArray, List.getElem?_cons_zero]; rfl
      case hqf4 => exact fun _ _ _ h => h
      case hgf4 => rfl
      case hyf4 =>
        intro wq _
        go_simp
        (try with_reducible rfl)
      (try simp only [Act.put, List.setIfInBounds_toArray, List.set_cons_zero, List.set_cons_succ])
      refine wpAnyJ_take (i := 1) (oi := ?oof5) (v := ?vvf5) ?hif5 (by kernel_rfl) (by kernel_rfl) (by kernel_rfl) (by kernel_rfl) ?hqf5 (Or.inl ⟨?hgf5, ?hyf5⟩) (by assumption) ?restf5
      case hif5 => simp only [List.getElem?_toArray, List.getElem?_cons_zero, List.getElem?_cons_succ]; rfl
      case hqf5 => exact fun _ _ _ h => h
      case hgf5 => rfl
      case hyf5 =>
        intro wq hSw
        obtain ⟨t0, hw⟩ := hSw
        go_simp
        (try with_reducible rfl)
      (try simp only [Act.put, List.setIfInBounds_toArray, List.set_cons_zero, List.set_cons_succ])
      refine wpAnyJ_ready (rs := [5]) (by kernel_rfl) (by simp) ?_
      refine AllReadyJ.cons (i := 5) (o := ?oof6) ?hof6 (fun K9 hK9 => ?hstepf6) AllReadyJ.nil
      case hof6 => simp only [List.getElem?_toArray, List.getElem?_cons_zero, List.getElem?_cons_succ]; rfl
      go_simp
      refine (l1Least_any _ _ _).mono ?_
      rintro e1 wzf6 ⟨rfl, e8⟩
      have hb : Below w6.heap.size w6 wzf6 := by rw [← e8]; exact Below.drew (Below.refl _ _)
      clear e8
      replace hb : Below w6.heap.size w6 wzf6 := ⟨hb.os, hb.tape, hb.output, hb.size, hb.block⟩
      replace t0 := keep_cell hb t0
      replace hbs := hbs.below hb
      replace hbl := hbl.below hb
      replace ho0 := own_below ho0 hb
      replace ho1 := own_below ho1 hb
      replace hw := kept_below hw hb
      clear hHeld
      go_wp2_with fail
      refine hK9.out _ _ ⟨t0, hw⟩ (fun hHeld => ?_)
      clear hK9 K9 hb
      (try simp only [Act.put, List.setIfInBounds_toArray, List.set_cons_zero, List.set_cons_succ])
      refine wpAnyJ_ready (rs := [6]) (by kernel_rfl) (by simp) ?_
      refine AllReadyJ.cons (i := 6) (o := ?oof7) ?hof7 (fun K9 hK9 => ?hstepf7) AllReadyJ.nil
      case hof7 => simp only [List.getElem?_toArray, List.getElem?_cons_zero, List.getElem?_cons_succ]; rfl
      go_simp
      clear hHeld
      refine hK9.out _ _ ⟨keep_cell ((Below.refl wzf6.heap.size wzf6).alloc (Nat.le_refl _) _) t0, kept_below hw ((Below.refl wzf6.heap.size wzf6).alloc (Nat.le_refl _) _)⟩ (fun hHeld => ?_)
      clear hK9 K9
      (try simp only [Act.put, List.setIfInBounds_toArray, List.set_cons_zero, List.set_cons_succ])
      refine wpAnyJ_name hHeld (fun waf7 hHa hwz => ?_)
      have hbA : Below wzf6.heap.size wzf6 waf7 := by rw [hwz]; exact (Below.refl wzf6.heap.size wzf6).alloc (Nat.le_refl _) _
      have hn3 : NewsAt waf7 wzf6.heap.size (.int .i64 (min r ((k : Int) - 1))) := by rw [hwz]; exact World.news_of_block (cs := #[.int .i64 (min r ((k : Int) - 1))]) (t := 3) (fr := (0, 0)) (heap_alloc_new _ _)
      have hnv3 : vb.ownBlock ≠ some wzf6.heap.size := fun e => by have := (ho1.lt _ e).2; omega
      replace t0 := keep_cell hbA t0
      replace hbs := hbs.below hbA
      replace hbl := hbl.below hbA
      replace ho0 := own_below ho0 hbA
      replace ho1 := own_below ho1 hbA
      replace hw := kept_below hw hbA
      generalize wzf6.heap.size = g3 at hn3 hnv3 ⊢
      clear hHeld hbA hwz
      have hHeld := hHa
      clear hHa
      refine wpAnyJ_ready (rs := [7]) (by kernel_rfl) (by simp) ?_
      refine AllReadyJ.cons (i := 7) (o := ?oof8) ?hof8 (fun K9 hK9 => ?hstepf8) AllReadyJ.nil
      case hof8 => simp only [List.getElem?_toArray, List.getElem?_cons_zero, List.getElem?_cons_succ]; rfl
      clear hHeld
      have hwl : w.heap.size + 1 ≤ waf7.heap.size := hbs.res.lt
      refine step_append_elder _ (by rfl) _ _ 24 (by rfl) (w.heap.size + 1) 3 i0 (.int .i64 0) 1 8 Tryz.underlying24 hi hz0 hz1 hz2 rfl (by decide) _ _ _ (by rfl) ho0 ⟨g3, 0, none⟩ 1 1 [.int .i64 (min r ((k : Int) - 1))] (by rfl) rfl hn3 (by simp [Value.oneCell']) (by unfold maxLen; omega) (by omega) hwl ?_
      intro v5 wpf8 hown5 hg5 hat5 _
      obtain ⟨Av5, cv5, rfl⟩ := own_slice hown5
      have hv5 := new_apartI hbl.lt hne0 ho1 hap hat5
      have hr5 : ∀ q, va.ownBlock = some q → w.heap.size + 1 ≤ q := fun q e => (ho0.lt q e).1
      replace t0 := grown_cell hg5 t0 hne0
      replace hbl := hbl.grown hg5 hne0
      replace ho1 := own_keptv ho1 hg5 (fun g e e2 => hap g e2 e)
      replace hbs := hbs.grown hgw hC hg5 hr5
      replace hw := hbs.kept
      clear ho0 hn3 hr5 hg5 hat5 hwl hnv3
      refine hK9.out _ _ ⟨t0, hw⟩ (fun hHeld => ?_)
      clear hK9 K9
      (try simp only [Act.put, List.setIfInBounds_toArray, List.set_cons_zero, List.set_cons_succ])
      refine wpAnyJ_pure (i := 8) (oi := ?oof9) (v := ?vvf9) ?hif9 (by kernel_rfl) (by kernel_rfl) (by kernel_rfl) (by rfl) ?hqf9 (Or.inl ⟨?hgf9, ?hyf9⟩) ?restf9
      case hif9 => simp only [List.getElem?_toArray, List.getElem?_cons_zero, List.getElem?_cons_succ]; rfl
      case hqf9 => exact fun _ _ _ h => h
      case hgf9 => rfl
      case hyf9 =>
        intro wq _
        go_simp
        (try with_reducible rfl)
      (try simp only [Act.put, List.setIfInBounds_toArray, List.set_cons_zero, List.set_cons_succ])
      refine wpAnyJ_ready (rs := [9]) (by kernel_rfl) (by simp) ?_
      refine AllReadyJ.free (i := 9) (o := ?oof10) ?hof10 (by rfl) (fun K9 hK9 => ?hstepf10) AllReadyJ.nil
      case hof10 => simp only [List.getElem?_toArray, List.getElem?_cons_zero, List.getElem?_cons_succ]; rfl
      have hff := hbl.free 0
      go_simp
      refine hK9.out _ _ trivial (fun _ => ?_)
      clear hK9 K9
      (try simp only [Act.put, List.setIfInBounds_toArray, List.set_cons_zero, List.set_cons_succ])
      refine wpAnyJ_call (fun wvf10 hwz => ?_)
      replace hbl := hbl.set0 (Value.slice Av5 (X.length + 1) cv5)
      replace ho1 := own_keptv ho1 (grown_set1 _ gT 0 (Value.slice Av5 (X.length + 1) cv5)) (fun g e e2 => hne1 (by rw [e, ← e2]))
      replace hown5 := own_keptv hown5 (grown_set1 _ gT 0 (Value.slice Av5 (X.length + 1) cv5)) (fun g e e2 => hv5.1 (by rw [e, ← e2]))
      replace hbs := hbs.grown hgw hC (grown_set1 _ gT 0 (Value.slice Av5 (X.length + 1) cv5)) (fun q e => by injection e with e; omega)
      rw [← hwz] at hbl ho1 hown5 hbs
      clear t0 hff hw
      clear hwz
      clear hHeld
      refine wpAnyJ_done (by kernel_rfl) ?_ _
      have hS8 : StT w wvf10 g C n cc (m + 4 + 2 * k + 2) gT (.slice Av5 (X.length + 1) cv5) vb (X ++ [(min r ((k : Int) - 1))]) [] := ⟨hbs, ⟨hbl, by rw [List.length_append, i64s_app]; exact hown5, ho1, hv5.1, hne1, hv5.2⟩, hgT, hbx.app hxb, Bd.nil⟩
      clear hbs hbl hown5 ho1
      go_wp2
      go_roundw
      case rel => exact ⟨k + 1, _, _, _, by omega, by omega, by go_num, by simp [HXk.out], hS8.mono (by omega)⟩
      case measure => simp [intOf]; omega
    | true =>
      have u2 : IntKind.i64.wrap (r - 2) = r - 2 := IntWalk.i64_in _ (by omega)
      go_wp2_with fail
      refine (l1Most_any _ _ _).mono ?_
      rintro e1 w7 ⟨rfl, e8⟩
      subst e8
      go_wp2_with fail
      refine (l1Most_any _ _ _).mono ?_
      rintro e1 w7 ⟨rfl, e8⟩
      subst e8
      obtain ⟨p, hp⟩ : ∃ p, p = max (((k : Int) - 1) / 2) (max (r - 2) 0) := ⟨_, rfl⟩
      have hp1 : -9223372036854775808 ≤ p ∧ p ≤ 9223372036854775807 := by omega
      rw [← hp]
      clear hp
      go_upto_region 8 with (fail)
      have hxb : -9223372036854775808 ≤ min p ((k : Int) - 1) ∧ min p ((k : Int) - 1) ≤ 9223372036854775807 := by omega
      have hlen : X.length ≤ 24 := by rw [HXk.out]; omega
      have hbs := hS6.bas
      have hbl := hS6.two.blk
      have ho0 := hS6.two.own0
      have ho1 := hS6.two.own1
      have hne0 := hS6.two.ne0
      have hne1 := hS6.two.ne1
      have hap := hS6.two.ap
      have hgT := hS6.gt
      have hbx := hS6.bx
      have t0 := hbl.c0
      have hw := hbs.kept
      clear hS6
      refine wp_region_J (S := fun w' => w'.cell? ⟨gT, 0, none⟩ = some va ∧ KeptBut w w' g g) (fun j => j == 1 || j == 5 || j == 6 || j == 7) (by kernel_rfl) ⟨t0, hw.drew⟩ (fun hHeld => ?_)
      refine wpAnyJ_pure (i := 2) (oi := ?oot1) (v := ?vvt1) ?hit1 (by kernel_rfl) (by kernel_rfl) (by kernel_rfl) (by rfl) ?hqt1 (Or.inl ⟨?hgt1, ?hyt1⟩) ?restt1
      case hit1 => simp only [List.getElem?_toArray, List.getElem?_cons_zero, List.getElem?_cons_succ]; rfl
      case hqt1 => exact fun _ _ _ h => h
      case hgt1 => rfl
      case hyt1 =>
        intro wq _
        go_simp
        (try with_reducible rfl)
      (try simp only [Act.put, List.setIfInBounds_toArray, List.set_cons_zero, List.set_cons_succ])
      refine wpAnyJ_pure (i := 3) (oi := ?oot2) (v := ?vvt2) ?hit2 (by kernel_rfl) (by kernel_rfl) (by kernel_rfl) (by rfl) ?hqt2 (Or.inl ⟨?hgt2, ?hyt2⟩) ?restt2
      case hit2 => simp only [List.getElem?_toArray, List.getElem?_cons_zero, List.getElem?_cons_succ]; rfl
      case hqt2 => exact fun _ _ _ h => h
      case hgt2 => rfl
      case hyt2 =>
        intro wq _
        go_simp
        (try with_reducible rfl)
      (try simp only [Act.put, List.setIfInBounds_toArray, List.set_cons_zero, List.set_cons_succ])
      refine wpAnyJ_pure (i := 4) (oi := ?oot3) (v := ?vvt3) ?hit3 (by kernel_rfl) (by kernel_rfl) (by kernel_rfl) (by rfl) ?hqt3 (Or.inl ⟨?hgt3, ?hyt3⟩) ?restt3
      case hit3 => simp only [List.getElem?_toArray, List.getElem?_cons_zero, List.getElem?_cons_succ]; rfl
      case hqt3 => exact fun _ _ _ h => h
      case hgt3 => rfl
      case hyt3 =>
        intro wq _
        go_simp
        (try with_reducible rfl)
      (try simp only [Act.put, List.setIfInBounds_toArray, List.set_cons_zero, List.set_cons_succ])
      refine wpAnyJ_pure (i := 0) (oi := ?oot4) (v := ?vvt4) ?hit4 (by kernel_rfl) (by kernel_rfl) (by kernel_rfl) (by rfl) ?hqt4 (Or.inl ⟨?hgt4, ?hyt4⟩) ?restt4
      case hit4 => simp only [List.getElem?_toArray, List.getElem?_cons_zero]; rfl
      case hqt4 => exact fun _ _ _ h => h
      case hgt4 => rfl
      case hyt4 =>
        intro wq _
        go_simp
        (try with_reducible rfl)
      (try simp only [Act.put, List.setIfInBounds_toArray, List.set_cons_zero, List.set_cons_succ])
      refine wpAnyJ_take (i := 1) (oi := ?oot5) (v := ?vvt5) ?hit5 (by kernel_rfl) (by kernel_rfl) (by kernel_rfl) (by kernel_rfl) ?hqt5 (Or.inl ⟨?hgt5, ?hyt5⟩) (by assumption) ?restt5
      case hit5 => simp only [List.getElem?_toArray, List.getElem?_cons_zero, List.getElem?_cons_succ]; rfl
      case hqt5 => exact fun _ _ _ h => h
      case hgt5 => rfl
      case hyt5 =>
        intro wq hSw
        obtain ⟨t0, hw⟩ := hSw
        go_simp
        (try with_reducible rfl)
      (try simp only [Act.put, List.setIfInBounds_toArray, List.set_cons_zero, List.set_cons_succ])
      refine wpAnyJ_ready (rs := [5]) (by kernel_rfl) (by simp) ?_
      refine AllReadyJ.cons (i := 5) (o := ?oot6) ?hot6 (fun K9 hK9 => ?hstept6) AllReadyJ.nil
      case hot6 => simp only [List.getElem?_toArray, List.getElem?_cons_zero, List.getElem?_cons_succ]; rfl
      go_simp
      refine (l1Least_any _ _ _).mono ?_
      rintro e1 wzt6 ⟨rfl, e8⟩
      have hb : Below w6.heap.size w6 wzt6 := by rw [← e8]; exact Below.drew (Below.refl _ _)
      clear e8
      replace hb : Below w6.heap.size w6 wzt6 := ⟨hb.os, hb.tape, hb.output, hb.size, hb.block⟩
      replace t0 := keep_cell hb t0
      replace hbs := hbs.below hb
      replace hbl := hbl.below hb
      replace ho0 := own_below ho0 hb
      replace ho1 := own_below ho1 hb
      replace hw := kept_below hw hb
      clear hHeld
      go_wp2_with fail
      refine hK9.out _ _ ⟨t0, hw⟩ (fun hHeld => ?_)
      clear hK9 K9 hb
      (try simp only [Act.put, List.setIfInBounds_toArray, List.set_cons_zero, List.set_cons_succ])
      refine wpAnyJ_ready (rs := [6]) (by kernel_rfl) (by simp) ?_
      refine AllReadyJ.cons (i := 6) (o := ?oot7) ?hot7 (fun K9 hK9 => ?hstept7) AllReadyJ.nil
      case hot7 => simp only [List.getElem?_toArray, List.getElem?_cons_zero, List.getElem?_cons_succ]; rfl
      go_simp
      clear hHeld
      refine hK9.out _ _ ⟨keep_cell ((Below.refl wzt6.heap.size wzt6).alloc (Nat.le_refl _) _) t0, kept_below hw ((Below.refl wzt6.heap.size wzt6).alloc (Nat.le_refl _) _)⟩ (fun hHeld => ?_)
      clear hK9 K9
      (try simp only [Act.put, List.setIfInBounds_toArray, List.set_cons_zero, List.set_cons_succ])
      refine wpAnyJ_name hHeld (fun wat7 hHa hwz => ?_)
      have hbA : Below wzt6.heap.size wzt6 wat7 := by rw [hwz]; exact (Below.refl wzt6.heap.size wzt6).alloc (Nat.le_refl _) _
      have hn3 : NewsAt wat7 wzt6.heap.size (.int .i64 (min p ((k : Int) - 1))) := by rw [hwz]; exact World.news_of_block (cs := #[.int .i64 (min p ((k : Int) - 1))]) (t := 3) (fr := (0, 0)) (heap_alloc_new _ _)
      have hnv3 : vb.ownBlock ≠ some wzt6.heap.size := fun e => by have := (ho1.lt _ e).2; omega
      replace t0 := keep_cell hbA t0
      replace hbs := hbs.below hbA
      replace hbl := hbl.below hbA
      replace ho0 := own_below ho0 hbA
      replace ho1 := own_below ho1 hbA
      replace hw := kept_below hw hbA
      generalize wzt6.heap.size = g3 at hn3 hnv3 ⊢
      clear hHeld hbA hwz
      have hHeld := hHa
      clear hHa
      refine wpAnyJ_ready (rs := [7]) (by kernel_rfl) (by simp) ?_
      refine AllReadyJ.cons (i := 7) (o := ?oot8) ?hot8 (fun K9 hK9 => ?hstept8) AllReadyJ.nil
      case hot8 => simp only [List.getElem?_toArray, List.getElem?_cons_zero, List.getElem?_cons_succ]; rfl
      clear hHeld
      have hwl : w.heap.size + 1 ≤ wat7.heap.size := hbs.res.lt
      refine step_append_elder _ (by rfl) _ _ 24 (by rfl) (w.heap.size + 1) 3 i0 (.int .i64 0) 1 8 Tryz.underlying24 hi hz0 hz1 hz2 rfl (by decide) _ _ _ (by rfl) ho0 ⟨g3, 0, none⟩ 1 1 [.int .i64 (min p ((k : Int) - 1))] (by rfl) rfl hn3 (by simp [Value.oneCell']) (by unfold maxLen; omega) (by omega) hwl ?_
      intro v5 wpt8 hown5 hg5 hat5 _
      obtain ⟨Av5, cv5, rfl⟩ := own_slice hown5
      have hv5 := new_apartI hbl.lt hne0 ho1 hap hat5
      have hr5 : ∀ q, va.ownBlock = some q → w.heap.size + 1 ≤ q := fun q e => (ho0.lt q e).1
      replace t0 := grown_cell hg5 t0 hne0
      replace hbl := hbl.grown hg5 hne0
      replace ho1 := own_keptv ho1 hg5 (fun g e e2 => hap g e2 e)
      replace hbs := hbs.grown hgw hC hg5 hr5
      replace hw := hbs.kept
      clear ho0 hn3 hr5 hg5 hat5 hwl hnv3
      refine hK9.out _ _ ⟨t0, hw⟩ (fun hHeld => ?_)
      clear hK9 K9
      (try simp only [Act.put, List.setIfInBounds_toArray, List.set_cons_zero, List.set_cons_succ])
      refine wpAnyJ_pure (i := 8) (oi := ?oot9) (v := ?vvt9) ?hit9 (by kernel_rfl) (by kernel_rfl) (by kernel_rfl) (by rfl) ?hqt9 (Or.inl ⟨?hgt9, ?hyt9⟩) ?restt9
      case hit9 => simp only [List.getElem?_toArray, List.getElem?_cons_zero, List.getElem?_cons_succ]; rfl
      case hqt9 => exact fun _ _ _ h => h
      case hgt9 => rfl
      case hyt9 =>
        intro wq _
        go_simp
        (try with_reducible rfl)
      (try simp only [Act.put, List.setIfInBounds_toArray, List.set_cons_zero, List.set_cons_succ])
      refine wpAnyJ_ready (rs := [9]) (by kernel_rfl) (by simp) ?_
      refine AllReadyJ.free (i := 9) (o := ?oot10) ?hot10 (by rfl) (fun K9 hK9 => ?hstept10) AllReadyJ.nil
      case hot10 => simp only [List.getElem?_toArray, List.getElem?_cons_zero, List.getElem?_cons_succ]; rfl
      have hff := hbl.free 0
      go_simp
      refine hK9.out _ _ trivial (fun _ => ?_)
      clear hK9 K9
      (try simp only [Act.put, List.setIfInBounds_toArray, List.set_cons_zero, List.set_cons_succ])
      refine wpAnyJ_call (fun wvt10 hwz => ?_)
      replace hbl := hbl.set0 (Value.slice Av5 (X.length + 1) cv5)
      replace ho1 := own_keptv ho1 (grown_set1 _ gT 0 (Value.slice Av5 (X.length + 1) cv5)) (fun g e e2 => hne1 (by rw [e, ← e2]))
      replace hown5 := own_keptv hown5 (grown_set1 _ gT 0 (Value.slice Av5 (X.length + 1) cv5)) (fun g e e2 => hv5.1 (by rw [e, ← e2]))
      replace hbs := hbs.grown hgw hC (grown_set1 _ gT 0 (Value.slice Av5 (X.length + 1) cv5)) (fun q e => by injection e with e; omega)
      rw [← hwz] at hbl ho1 hown5 hbs
      clear t0 hff hw
      clear hwz
      clear hHeld
      refine wpAnyJ_done (by kernel_rfl) ?_ _
      have hS8 : StT w wvt10 g C n cc (m + 4 + 2 * k + 2) gT (.slice Av5 (X.length + 1) cv5) vb (X ++ [(min p ((k : Int) - 1))]) [] := ⟨hbs, ⟨hbl, by rw [List.length_append, i64s_app]; exact hown5, ho1, hv5.1, hne1, hv5.2⟩, hgT, hbx.app hxb, Bd.nil⟩
      clear hbs hbl hown5 ho1
      go_wp2
      go_roundw
      case rel => exact ⟨k + 1, _, _, _, by omega, by omega, by go_num, by simp [HXk.out], hS8.mono (by omega)⟩
      case measure => simp [intOf]; omega
end Go.Proofs.YtgccidkkfalaeaaGreatDoor
